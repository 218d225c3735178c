/- What the law leans on, part 6. No conditions. -/
import Derived.Test.YtncbbeghkpjpbaaGreatDoorProg
import Derived.KernelRfl
import Derived.Lib.Bytealg
import Derived.Test.YtncbbeghkpjpbaaGreatDoorRows
import Derived.Lib.LaidTab
import Derived.Stop.LaidErr
import Derived.MakeChecks
import Derived.JoinedCond
import Derived.Test.YtncbbeghkpjpbaaGreatDoorScriptPrintsPart5
set_option linter.unusedVariables false
set_option linter.unusedSimpArgs false
namespace Go.Proofs.YtncbbeghkpjpbaaGreatDoor
theorem un2 : Tryz.prog.underlying 2 = some (.int .i64) := by kernel_rfl
instance : CT Tryz.prog 3 none := ⟨by kernel_rfl⟩
theorem un3 : Tryz.prog.underlying 3 = some (.int .i64) := by kernel_rfl
instance : CT Tryz.prog 4 none := ⟨by kernel_rfl⟩
instance : CT Tryz.prog 5 none := ⟨by kernel_rfl⟩
instance : SZ Tryz.prog 5 1 := ⟨by kernel_rfl⟩
theorem un5 : Tryz.prog.underlying 5 = some (.int .u8) := by kernel_rfl
instance : UN Tryz.prog 9 .string := ⟨by kernel_rfl⟩
instance : EL Tryz.prog 22 (none, 16) := ⟨by kernel_rfl⟩
instance : UN Tryz.prog 22 (.slice 39) := ⟨by kernel_rfl⟩
instance : CT Tryz.prog 28 none := ⟨by kernel_rfl⟩
instance : EL Tryz.prog 28 (none, 1) := ⟨by kernel_rfl⟩
instance : UN Tryz.prog 28 (.slice 30) := ⟨by kernel_rfl⟩
instance : CT Tryz.prog 29 none := ⟨by kernel_rfl⟩
theorem un29 : Tryz.prog.underlying 29 = some (.int .u16) := by kernel_rfl
instance : CT Tryz.prog 30 none := ⟨by kernel_rfl⟩
theorem un30 : Tryz.prog.underlying 30 = some (.int .u32) := by kernel_rfl
instance : CT Tryz.prog 31 none := ⟨by kernel_rfl⟩
instance : SZ Tryz.prog 31 1 := ⟨by kernel_rfl⟩
instance : EL Tryz.prog 31 (none, 1) := ⟨by kernel_rfl⟩
instance : UN Tryz.prog 31 (.slice 5) := ⟨by kernel_rfl⟩
instance : BS Tryz.prog 31 5 1 (.int .u8 0) := .of (by kernel_rfl) (by kernel_rfl) (by kernel_rfl) (by kernel_rfl) (by kernel_rfl)
instance : AP Tryz.prog 31 31 5 1 1 := .of (inf := Tryz.t5) (z := .int .u8 0) (e₂ := 5) (by kernel_rfl) (by kernel_rfl) (by kernel_rfl) (by kernel_rfl) (by kernel_rfl) (by kernel_rfl) (by decide) (by kernel_rfl) (by kernel_rfl)
instance : CT Tryz.prog 33 (some 4) := ⟨by kernel_rfl⟩
instance : SZ Tryz.prog 33 4 := ⟨by kernel_rfl⟩
instance : FO Tryz.prog 33 0 0 := ⟨by kernel_rfl⟩
instance : FO Tryz.prog 33 1 1 := ⟨by kernel_rfl⟩
instance : FO Tryz.prog 33 2 2 := ⟨by kernel_rfl⟩
instance : FO Tryz.prog 33 3 3 := ⟨by kernel_rfl⟩
instance : CT Tryz.prog 35 (some 9) := ⟨by kernel_rfl⟩
instance : SZ Tryz.prog 35 9 := ⟨by kernel_rfl⟩
instance : FO Tryz.prog 35 0 0 := ⟨by kernel_rfl⟩
instance : FO Tryz.prog 35 1 1 := ⟨by kernel_rfl⟩
instance : FO Tryz.prog 35 2 2 := ⟨by kernel_rfl⟩
instance : FO Tryz.prog 35 3 3 := ⟨by kernel_rfl⟩
instance : FO Tryz.prog 35 4 4 := ⟨by kernel_rfl⟩
instance : FO Tryz.prog 35 5 8 := ⟨by kernel_rfl⟩
instance : AL Tryz.prog 35 [.int .u8 0, .int .i64 0, .slice none 0 0, .int .u16 0, .int .u16 0, .bool false, .int .u32 0, .slice none 0 0, .bool false] := ⟨by kernel_rfl⟩
instance : CT Tryz.prog 37 (some 3) := ⟨by kernel_rfl⟩
instance : SZ Tryz.prog 37 3 := ⟨by kernel_rfl⟩
instance : FO Tryz.prog 37 0 0 := ⟨by kernel_rfl⟩
instance : FO Tryz.prog 37 1 1 := ⟨by kernel_rfl⟩
instance : FO Tryz.prog 37 2 2 := ⟨by kernel_rfl⟩
instance : CT Tryz.prog 39 (some 16) := ⟨by kernel_rfl⟩
instance : SZ Tryz.prog 39 16 := ⟨by kernel_rfl⟩
instance : FO Tryz.prog 39 0 0 := ⟨by kernel_rfl⟩
instance : FO Tryz.prog 39 1 1 := ⟨by kernel_rfl⟩
instance : FO Tryz.prog 39 2 2 := ⟨by kernel_rfl⟩
instance : FO Tryz.prog 39 3 3 := ⟨by kernel_rfl⟩
instance : FO Tryz.prog 39 4 4 := ⟨by kernel_rfl⟩
instance : FO Tryz.prog 39 5 13 := ⟨by kernel_rfl⟩
instance : AL Tryz.prog 39 [.int .u8 0, .int .u8 0, .int .i64 0, .int .i64 0, .int .u8 0, .int .i64 0, .slice none 0 0, .int .u16 0, .int .u16 0, .bool false, .int .u32 0, .slice none 0 0, .bool false, .int .u32 0, .int .u32 0, .slice none 0 0] := ⟨by kernel_rfl⟩
instance : CT Tryz.prog 47 none := ⟨by kernel_rfl⟩
instance : SZ Tryz.prog 47 1 := ⟨by kernel_rfl⟩
instance : FO Tryz.prog 49 0 0 := ⟨by kernel_rfl⟩
instance : FO Tryz.prog 49 1 1 := ⟨by kernel_rfl⟩
instance : AL Tryz.prog 49 [.pointer none, .slice none 0 0] := ⟨by kernel_rfl⟩
instance : CT Tryz.prog 62 none := ⟨by kernel_rfl⟩
theorem un62 : Tryz.prog.underlying 62 = some (.int .u64) := by kernel_rfl
instance : EL Tryz.prog 94 (some 24, 1) := ⟨by kernel_rfl⟩
instance : AL Tryz.prog 94 [.int .u8 0, .int .u8 0, .int .u8 0, .int .u8 0, .int .u8 0, .int .u8 0, .int .u8 0, .int .u8 0, .int .u8 0, .int .u8 0, .int .u8 0, .int .u8 0, .int .u8 0, .int .u8 0, .int .u8 0, .int .u8 0, .int .u8 0, .int .u8 0, .int .u8 0, .int .u8 0, .int .u8 0, .int .u8 0, .int .u8 0, .int .u8 0] := ⟨by kernel_rfl⟩
instance : EL Tryz.prog 105 (some 20, 1) := ⟨by kernel_rfl⟩
instance : IC Tryz.prog 2 5 .u8 := .of un2 un5
instance : IC Tryz.prog 2 62 .u64 := .of un2 un62
instance : IC Tryz.prog 5 2 .i64 := .of un5 un2
instance : IC Tryz.prog 5 3 .i64 := .of un5 un3
instance : IC Tryz.prog 29 2 .i64 := .of un29 un2
instance : IC Tryz.prog 29 3 .i64 := .of un29 un3
instance : IC Tryz.prog 30 2 .i64 := .of un30 un2
instance : IC Tryz.prog 30 5 .u8 := .of un30 un5
instance : IC Tryz.prog 30 62 .u64 := .of un30 un62
instance : IC Tryz.prog 62 3 .i64 := .of un62 un3
instance : IC Tryz.prog 62 5 .u8 := .of un62 un5
instance : IC Tryz.prog 62 30 .u32 := .of un62 un30
instance : BY Tryz.prog 31 9 := ⟨⟨5, by kernel_rfl, by kernel_rfl⟩, by kernel_rfl⟩
theorem nGlobals : Tryz.prog.globals.size = 8 := by kernel_rfl
end Go.Proofs.YtncbbeghkpjpbaaGreatDoor
namespace Go.Proofs.YtncbbeghkpjpbaaGreatDoor
open Go.RowKit
set_option maxRecDepth 100000
attribute [local irreducible] Go GoR GoL
def ixV (zs : List UInt8) (c : UInt8) : Int := match zs.findIdx? (· == c) with
 | some i => (i : Int)
 | none => -1
theorem find_range (zs : List UInt8) (c : UInt8) : ((List.range (ByteArray.mk zs.toArray).size).find? fun i => (ByteArray.mk zs.toArray)[i]! == c) = zs.findIdx? (· == c) := by
 have e : ∀ i, i < zs.length → (ByteArray.mk zs.toArray)[i]! = zs[i]! := fun i hi => by
  have h1 : i < (ByteArray.mk zs.toArray).size := by rw [ba_size]; exact hi
  rw [getElem!_pos (ByteArray.mk zs.toArray) i h1, getElem!_pos zs i hi]
  rfl
 rw [ba_size]
 cases hf : zs.findIdx? (· == c) with
 | none =>
  rw [List.find?_eq_none]
  intro i hi
  rw [List.mem_range] at hi
  rw [e i hi, getElem!_pos zs i hi]
  have := List.findIdx?_eq_none_iff.1 hf zs[i] (List.getElem_mem hi)
  simpa using this
 | some j =>
  obtain ⟨hj, h1, h2⟩ := List.findIdx?_eq_some_iff_getElem.1 hf
  rw [List.find?_range_eq_some]
  refine ⟨?_, List.mem_range.2 hj, fun k hk => ?_⟩
  · rw [e j hj, getElem!_pos zs j hj]; exact h1
  ·
   rw [e k (by omega), getElem!_pos zs k (by omega)]
   simpa using h2 k hk
theorem u8_back (c : UInt8) : ((c.toNat : Nat) : Int).toNat.toUInt8 = c := by simp
theorem ixb_calm (P : Program) (zs : List UInt8) (c : UInt8) : calm P (Extern.BytealgIndexByte.indexByte #[.string ⟨zs.toArray⟩, .int .u8 (c.toNat : Nat)]) = some (.int .i64 (ixV zs c)) := by
 show calm P (match ((List.range (ByteArray.mk zs.toArray).size).find? fun i => (ByteArray.mk zs.toArray)[i]! == ((c.toNat : Nat) : Int).toNat.toUInt8) with
  | some i => Sem.pure (Value.int .i64 (i : Nat))
  | none => Sem.pure (Value.int .i64 (-1))) = _
 rw [u8_back, find_range]
 unfold ixV
 cases zs.findIdx? (· == c) <;> rfl
set_option maxHeartbeats 4000000 in
theorem ixb_spec (zs : List UInt8) (c : UInt8) (h : AHeap) : CallS Tryz.prog [] 68 [.string ⟨zs.toArray⟩, .int .u8 (c.toNat : Nat)] h fun v h' => v = .int .i64 (ixV zs c) ∧ h' = h := by
 (refine CallS.of2 Tryz.func68 rfl Tryz.ntmps68 Tryz.results68 rfl ?_)
 (refine Go.run (g:=?_))
 refine goR_extC rfl rfl rfl rfl rfl rfl Tryz.func79 (by kernel_rfl) (by kernel_rfl) (by kernel_rfl) (e := Extern.BytealgIndexByte.indexByte) (by kernel_rfl) rfl (ixb_calm _ zs c) rfl ?_
 (refine Go.run (g:=?_))
 (first|refine Go.finA rfl ?_|refine Go.finB rfl (hq:=?_))
 exact ⟨rfl, rfl⟩
def cntV (zs : List UInt8) (c : UInt8) : Nat := zs.count c
theorem cnt_calm (P : Program) (zs : List UInt8) (c : UInt8) : calm P (Extern.BytealgCount.count #[.string ⟨zs.toArray⟩, .int .u8 (c.toNat : Nat)]) = some (.int .i64 (cntV zs c : Nat)) := by
 show calm P (Sem.pure (goInt ((ByteArray.mk zs.toArray).foldl (fun (n : Int) x => if x == ((c.toNat : Nat) : Int).toNat.toUInt8 then n + 1 else n) ((0 : Nat) : Int)))) = _
 rw [u8_back, Go.Lib.foldl_data, Go.Lib.count_foldl]
 simp [goInt, calm, cntV, Go.Lib.countByte]
set_option maxHeartbeats 4000000 in
theorem cnt_spec (zs : List UInt8) (c : UInt8) (h : AHeap) : CallS Tryz.prog [] 54 [.string ⟨zs.toArray⟩, .string ⟨[c].toArray⟩] h fun v h' => v = .int .i64 (cntV zs c : Nat) ∧ h' = h := by
 (refine CallS.of2 Tryz.func54 rfl Tryz.ntmps54 Tryz.results54 rfl ?_)
 (refine Go.run (g:=?_))
 refine GoR.strAtI (zs := [c]) rfl rfl rfl rfl rfl rfl (by decide) (z := c) rfl ?_
 (refine Go.run (g:=?_))
 refine goR_extC rfl rfl rfl rfl rfl rfl Tryz.func67 (by kernel_rfl) (by kernel_rfl) (by kernel_rfl) (e := Extern.BytealgCount.count) (by kernel_rfl) rfl (cnt_calm _ zs c) rfl ?_
 (refine Go.run (g:=?_))
 (first|refine Go.finA rfl ?_|refine Go.finB rfl (hq:=?_))
 exact ⟨rfl, rfl⟩
noncomputable def ixK : List Value → AHeap → Option (Value × AHeap × List Nat)
 | [.string s, .int .u8 (.ofNat k)], h => Bool.rec none (some (.int .i64 (ixV s.data.toList (UInt8.ofNat k)), h, [])) (Nat.blt k 256)
 | _, _ => none
noncomputable def cntK : List Value → AHeap → Option (Value × AHeap × List Nat)
 | [.string s, .string t], h => match t.data.toList with
  | [c] => some (.int .i64 (cntV s.data.toList c : Nat), h, [])
  | _ => none
 | _, _ => none
noncomputable def strOn : Summ := fun f args h => Bool.rec (Bool.rec none (cntK args h) (Nat.beq f 54)) (ixK args h) (Nat.beq f 68)
theorem strOn_ok : SOk Tryz.prog strOn := fun f args h v h' wr e => by
 unfold strOn at e
 cases h1 : Nat.beq f 68 with
 | true =>
  rw [h1] at e
  obtain rfl := Nat.eq_of_beq_eq_true h1
  unfold ixK at e
  split at e
  case h_2 => cases e
  rename_i s k
  cases h2 : Nat.blt k 256 with
  | false => rw [h2] at e; cases e
  | true =>
   rw [h2] at e
   cases e
   have hk : k < 256 := by simpa [Nat.blt_eq] using h2
   obtain ⟨v, h', hc, rfl, rfl⟩ := ixb_spec s.data.toList (UInt8.ofNat k) h
   have e1 : (((UInt8.ofNat k).toNat : Nat) : Int) = Int.ofNat k := by
    rw [UInt8.toNat_ofNat', Nat.mod_eq_of_lt (by omega)]; rfl
   rw [e1] at hc
   exact hc
 | false =>
  rw [h1] at e
  cases h2 : Nat.beq f 54 with
  | false => rw [h2] at e; cases e
  | true =>
   rw [h2] at e
   obtain rfl := Nat.eq_of_beq_eq_true h2
   have e : cntK args h = some (v, h', wr) := e
   unfold cntK at e
   split at e
   case h_2 => cases e
   rename_i s t _
   obtain ⟨⟨tl⟩⟩ := t
   cases tl with
   | nil => cases e
   | cons c r => cases r with
    | nil =>
     cases e
     obtain ⟨v, h', hc, rfl, rfl⟩ := cnt_spec s.data.toList c h
     exact hc
    | cons _ _ => cases e
end Go.Proofs.YtncbbeghkpjpbaaGreatDoor
namespace Go.Proofs.YtncbbeghkpjpbaaGreatDoor
open Go.RowKit
set_option maxRecDepth 100000
attribute [local irreducible] Go GoR GoL
set_option maxHeartbeats 4000000 in
theorem digitsN_spec : ∀ (n : Nat), n < 9223372036854775808 → ∀ h : AHeap, CallS Tryz.prog [] 24 [.int .i64 (n : Nat)] h fun v h' => v = .string ⟨(dg n).toArray⟩ := by
 intro n
 induction n using Nat.strongRecOn with
 | _ n ih =>
  intro hn h
  (refine CallS.of1 Tryz.func24 rfl Tryz.ntmps24 Tryz.results24 rfl ?_)
  (refine Go.run (g:=?_))
  have e15 : ((((48 + n % 10) % 256 : Nat) : Int)) = ((dch (n % 10)).toNat : Nat) := by rw [dch_nat (by omega)]; omega
  rw [e15]
  refine GoR.buildRo (c := [dch (n % 10)].map bv) rfl rfl rfl rfl rfl (by decide) (by rfl) (by rfl) ?_
  intro b h1 r1 ro1 ow1 s1 n1
  rcases Nat.lt_or_ge n 10 with hs | hs
  ·
   (refine Go.run (g:=?_))
   (first|refine Go.finA rfl ?_|refine Go.finB rfl (hq:=?_))
   rw [dg_small hs, Nat.mod_eq_of_lt hs]; rfl
  ·
   (refine Go.run (g:=?_))
   refine GoR.call rfl rfl rfl rfl rfl rfl rfl (((ih (n / 10) (by omega) (by omega) _).argA).mono ?_)
   rintro _ h2 rfl s2
   (refine Go.run (g:=?_))
   refine GoR.strAdd rfl rfl rfl rfl rfl rfl ?_ ?_
   ·
    have := dg_len 19 (n / 10) (by omega)
    simp only [List.length_cons, List.length_nil]; omega
   (refine Go.run (g:=?_))
   (first|refine Go.finA rfl ?_|refine Go.finB rfl (hq:=?_))
   rw [dg_big hs]; rfl
set_option maxHeartbeats 4000000 in
theorem digits_spec (n : Int) (h0 : -9223372036854775808 ≤ n) (h1 : n < 9223372036854775808) (h : AHeap) : CallS Tryz.prog [] 24 [.int .i64 n] h fun v h' => v = .string ⟨(dgI n).toArray⟩ := by
 rcases Int.lt_or_le n 0 with hn | hn
 case inr =>
  obtain ⟨k, rfl⟩ : ∃ k : Nat, n = k := ⟨n.toNat, by omega⟩
  rw [dgI_nat]
  exact digitsN_spec k (by omega) h
 obtain ⟨k, hk, rfl⟩ : ∃ k : Nat, 0 < k ∧ n = -(k : Int) := ⟨(-n).toNat, by omega, by omega⟩
 rw [dgI_neg hk]
 (refine CallS.of1 Tryz.func24 rfl Tryz.ntmps24 Tryz.results24 rfl ?_)
 by_cases hm : k = 9223372036854775808
 ·
  subst hm
  (refine Go.run (g:=?_))
  (first|refine Go.finA rfl ?_|refine Go.finB rfl (hq:=?_))
  rw [← pd_dg 18 9223372036854775808 (.inr (by decide)) (by decide)]
  show Value.string _ = Value.string _
  congr 2
 ·
  (refine Go.run (g:=?_))
  refine GoR.neg rfl rfl rfl rfl rfl ?_
  rw [show IntKind.i64.wrap (0 - -(k : Int)) = (k : Nat) from by rw [show (0 - -(k : Int)) = (k : Nat) from by omega]; exact Sm.wrap (k := .i64) (by show k < 2 ^ (64 - 1); omega)]
  (refine Go.run (g:=?_))
  refine GoR.call rfl rfl rfl rfl rfl rfl rfl (((digitsN_spec k (by omega) _).argA).mono ?_)
  rintro _ h2 rfl s2
  (refine Go.run (g:=?_))
  refine GoR.strAdd (a := [45]) rfl rfl rfl rfl rfl rfl ?_ ?_
  ·
   have := dg_len 19 k (by omega)
   simp only [List.length_cons, List.length_nil]; omega
  (refine Go.run (g:=?_))
  (first|refine Go.finA rfl ?_|refine Go.finB rfl (hq:=?_))
  rfl
end Go.Proofs.YtncbbeghkpjpbaaGreatDoor
namespace Go.Proofs.YtncbbeghkpjpbaaGreatDoor
open Go.RowKit
set_option maxRecDepth 100000
def pow10L : List Value := (List.range 20).map fun i => .int .u64 ((10 ^ i : Nat) : Int)
def GH : AHeap := AHeap.put ⟨8, .nil⟩ 0 (some (.ro pow10L))
theorem GH_get (i : Nat) (o : AObj) (e : GH.get i = some o) : i = 0 ∧ o = .ro pow10L := by
 unfold GH at e
 rw [AHeap.get_put] at e
 split at e
 ·
  rename_i h
  rw [if_pos (by subst h; decide)] at e
  cases e; exact ⟨h.symm, rfl⟩
 · simp [AHeap.get, Tr.get] at e
theorem pow10_flat : ∀ x ∈ pow10L, flatB x = true := List.all_eq_true.1 (by decide)
theorem GH_flat : FlatRo GH := fun i o e => by
 obtain ⟨rfl, rfl⟩ := GH_get i o e
 exact ⟨_, rfl, pow10_flat⟩
theorem GH_size : Tryz.prog.globals.size ≤ GH.n := by rw [nGlobals]; exact Nat.le_refl 8
theorem Holds.pow {h : AHeap} (k : Holds GH h) : h.get 0 = some (.ro pow10L) := k.2 _ _ (by unfold GH; rw [AHeap.get_put, if_pos rfl, if_pos (by decide)])
def asB32 : Value → AHeap → List Nat → Option Bool
 | .bool b, _, _ => some b
 | _, _, _ => none
theorem asB32_true {v : Value} {h : AHeap} {wr : List Nat} (e : asB32 v h wr = some true) : v = .bool true := by
 unfold asB32 at e
 split at e
 · cases e; rfl
 · cases e
theorem known32Run : callK (A := Bool) Tryz.prog strOn (fev Tryz.prog strOn 50000) 4 [] GH asB32 = some true := by kernel_rfl
theorem known32 (h : AHeap) (hG : Holds GH h) : CallS Tryz.prog [] 4 [] h fun u h' => u = .bool true ∧ h' = h := by
 obtain ⟨v, h', wr, hc, he⟩ := callRun_of strOn_ok known32Run
 obtain rfl := asB32_true he
 exact CallS.knownG GH_flat GH_size hc rfl h hG
end Go.Proofs.YtncbbeghkpjpbaaGreatDoor
namespace Go.Proofs.YtncbbeghkpjpbaaGreatDoor
open Go.RowKit
set_option maxRecDepth 100000
attribute [local irreducible] Go GoR GoL
set_option maxHeartbeats 4000000 in
theorem len64_spec (x : Nat) (hx : x < 18446744073709551616) (h : AHeap) : CallS Tryz.prog [] 61 [.int .u64 (x : Nat)] h fun v h' => ∃ b : Nat, v = .int .i64 (b : Nat) ∧ b ≤ 64 ∧ Bl x b := by
 (refine CallS.of1 Tryz.func61 rfl Tryz.ntmps61 Tryz.results61 rfl ?_)
 rcases Nat.lt_or_ge x 4294967296 with g32 | g32
 ·
  skip
  rcases Nat.lt_or_ge x 65536 with g16 | g16
  ·
   skip
   rcases Nat.lt_or_ge x 256 with g8 | g8
   ·
    skip
    obtain ⟨t, t1, t2, t3⟩ := len8_at (y := x) (by omega)
    have t4 : (UInt8.ofNat t).toNat = t := by rw [UInt8.toNat_ofNat', Nat.mod_eq_of_lt (by omega)]
    (refine Go.run (g:=?_))
    rw [show x % 256 = x from Nat.mod_eq_of_lt (by omega)]
    refine GoR.strAt (zs := len8L) rfl rfl rfl rfl rfl rfl t1 ?_
    rw [t4]
    (refine Go.run (g:=?_))
    (first|refine Go.finA rfl ?_|refine Go.finB rfl (hq:=?_))
    exact ⟨t, by rw [Nat.zero_add]; rfl, by omega, t3⟩
   ·
    skip
    obtain ⟨x', e8⟩ : ∃ z, x / 2 ^ 8 = z := ⟨_, rfl⟩
    (refine Go.run (g:=?_))
    rw [e8]
    obtain ⟨t, t1, t2, t3⟩ := len8_at (y := x') (by omega)
    have t4 : (UInt8.ofNat t).toNat = t := by rw [UInt8.toNat_ofNat', Nat.mod_eq_of_lt (by omega)]
    (refine Go.run (g:=?_))
    rw [show x' % 256 = x' from Nat.mod_eq_of_lt (by omega)]
    refine GoR.strAt (zs := len8L) rfl rfl rfl rfl rfl rfl t1 ?_
    rw [t4]
    (refine Go.run (g:=?_))
    (first|refine Go.finA rfl ?_|refine Go.finB rfl (hq:=?_))
    exact ⟨8 + t, rfl, by omega, by have := (Bl.up t3 e8 (by omega)); rwa [show 8 + t = 8 + t from by omega] at this⟩
  ·
   skip
   obtain ⟨x', e16⟩ : ∃ z, x / 2 ^ 16 = z := ⟨_, rfl⟩
   (refine Go.run (g:=?_))
   rw [e16]
   rcases Nat.lt_or_ge x' 256 with g8 | g8
   ·
    skip
    obtain ⟨t, t1, t2, t3⟩ := len8_at (y := x') (by omega)
    have t4 : (UInt8.ofNat t).toNat = t := by rw [UInt8.toNat_ofNat', Nat.mod_eq_of_lt (by omega)]
    (refine Go.run (g:=?_))
    rw [show x' % 256 = x' from Nat.mod_eq_of_lt (by omega)]
    refine GoR.strAt (zs := len8L) rfl rfl rfl rfl rfl rfl t1 ?_
    rw [t4]
    (refine Go.run (g:=?_))
    (first|refine Go.finA rfl ?_|refine Go.finB rfl (hq:=?_))
    exact ⟨16 + t, rfl, by omega, by have := (Bl.up t3 e16 (by omega)); rwa [show 16 + t = 16 + t from by omega] at this⟩
   ·
    skip
    obtain ⟨x'', e8⟩ : ∃ z, x' / 2 ^ 8 = z := ⟨_, rfl⟩
    (refine Go.run (g:=?_))
    rw [e8]
    obtain ⟨t, t1, t2, t3⟩ := len8_at (y := x'') (by omega)
    have t4 : (UInt8.ofNat t).toNat = t := by rw [UInt8.toNat_ofNat', Nat.mod_eq_of_lt (by omega)]
    (refine Go.run (g:=?_))
    rw [show x'' % 256 = x'' from Nat.mod_eq_of_lt (by omega)]
    refine GoR.strAt (zs := len8L) rfl rfl rfl rfl rfl rfl t1 ?_
    rw [t4]
    (refine Go.run (g:=?_))
    (first|refine Go.finA rfl ?_|refine Go.finB rfl (hq:=?_))
    exact ⟨24 + t, rfl, by omega, by have := (Bl.up (Bl.up t3 e8 (by omega)) e16 (by omega)); rwa [show 16 + (8 + t) = 24 + t from by omega] at this⟩
 ·
  skip
  obtain ⟨x', e32⟩ : ∃ z, x / 2 ^ 32 = z := ⟨_, rfl⟩
  (refine Go.run (g:=?_))
  rw [e32]
  rcases Nat.lt_or_ge x' 65536 with g16 | g16
  ·
   skip
   rcases Nat.lt_or_ge x' 256 with g8 | g8
   ·
    skip
    obtain ⟨t, t1, t2, t3⟩ := len8_at (y := x') (by omega)
    have t4 : (UInt8.ofNat t).toNat = t := by rw [UInt8.toNat_ofNat', Nat.mod_eq_of_lt (by omega)]
    (refine Go.run (g:=?_))
    rw [show x' % 256 = x' from Nat.mod_eq_of_lt (by omega)]
    refine GoR.strAt (zs := len8L) rfl rfl rfl rfl rfl rfl t1 ?_
    rw [t4]
    (refine Go.run (g:=?_))
    (first|refine Go.finA rfl ?_|refine Go.finB rfl (hq:=?_))
    exact ⟨32 + t, rfl, by omega, by have := (Bl.up t3 e32 (by omega)); rwa [show 32 + t = 32 + t from by omega] at this⟩
   ·
    skip
    obtain ⟨x'', e8⟩ : ∃ z, x' / 2 ^ 8 = z := ⟨_, rfl⟩
    (refine Go.run (g:=?_))
    rw [e8]
    obtain ⟨t, t1, t2, t3⟩ := len8_at (y := x'') (by omega)
    have t4 : (UInt8.ofNat t).toNat = t := by rw [UInt8.toNat_ofNat', Nat.mod_eq_of_lt (by omega)]
    (refine Go.run (g:=?_))
    rw [show x'' % 256 = x'' from Nat.mod_eq_of_lt (by omega)]
    refine GoR.strAt (zs := len8L) rfl rfl rfl rfl rfl rfl t1 ?_
    rw [t4]
    (refine Go.run (g:=?_))
    (first|refine Go.finA rfl ?_|refine Go.finB rfl (hq:=?_))
    exact ⟨40 + t, rfl, by omega, by have := (Bl.up (Bl.up t3 e8 (by omega)) e32 (by omega)); rwa [show 32 + (8 + t) = 40 + t from by omega] at this⟩
  ·
   skip
   obtain ⟨x'', e16⟩ : ∃ z, x' / 2 ^ 16 = z := ⟨_, rfl⟩
   (refine Go.run (g:=?_))
   rw [e16]
   rcases Nat.lt_or_ge x'' 256 with g8 | g8
   ·
    skip
    obtain ⟨t, t1, t2, t3⟩ := len8_at (y := x'') (by omega)
    have t4 : (UInt8.ofNat t).toNat = t := by rw [UInt8.toNat_ofNat', Nat.mod_eq_of_lt (by omega)]
    (refine Go.run (g:=?_))
    rw [show x'' % 256 = x'' from Nat.mod_eq_of_lt (by omega)]
    refine GoR.strAt (zs := len8L) rfl rfl rfl rfl rfl rfl t1 ?_
    rw [t4]
    (refine Go.run (g:=?_))
    (first|refine Go.finA rfl ?_|refine Go.finB rfl (hq:=?_))
    exact ⟨48 + t, rfl, by omega, by have := (Bl.up (Bl.up t3 e16 (by omega)) e32 (by omega)); rwa [show 32 + (16 + t) = 48 + t from by omega] at this⟩
   ·
    skip
    obtain ⟨x''', e8⟩ : ∃ z, x'' / 2 ^ 8 = z := ⟨_, rfl⟩
    (refine Go.run (g:=?_))
    rw [e8]
    obtain ⟨t, t1, t2, t3⟩ := len8_at (y := x''') (by omega)
    have t4 : (UInt8.ofNat t).toNat = t := by rw [UInt8.toNat_ofNat', Nat.mod_eq_of_lt (by omega)]
    (refine Go.run (g:=?_))
    rw [show x''' % 256 = x''' from Nat.mod_eq_of_lt (by omega)]
    refine GoR.strAt (zs := len8L) rfl rfl rfl rfl rfl rfl t1 ?_
    rw [t4]
    (refine Go.run (g:=?_))
    (first|refine Go.finA rfl ?_|refine Go.finB rfl (hq:=?_))
    exact ⟨56 + t, rfl, by omega, by have := (Bl.up (Bl.up (Bl.up t3 e8 (by omega)) e16 (by omega)) e32 (by omega)); rwa [show 32 + (16 + (8 + t)) = 56 + t from by omega] at this⟩
theorem pow2_spec (x : Nat) (hx : x ≤ 64) (h : AHeap) : CallS Tryz.prog [] 60 [.int .i64 (x : Nat)] h fun v h' => v = .int .i64 ((x * 78913 / 262144 : Nat) : Nat) := by
 (refine CallS.of1 Tryz.func60 rfl Tryz.ntmps60 Tryz.results60 rfl ?_)
 (refine Go.run (g:=?_))
 (first|refine Go.finA rfl ?_|refine Go.finB rfl (hq:=?_))
 rfl
theorem bool2_spec (b : Bool) (h : AHeap) : CallS Tryz.prog [] 62 [.bool b] h fun v h' => v = .int .i64 (b.toNat : Nat) := by
 (refine CallS.of1 Tryz.func62 rfl Tryz.ntmps62 Tryz.results62 rfl ?_)
 cases b
 ·
  (refine Go.run (g:=?_))
  (first|refine Go.finA rfl ?_|refine Go.finB rfl (hq:=?_))
  rfl
 ·
  (refine Go.run (g:=?_))
  (first|refine Go.finA rfl ?_|refine Go.finB rfl (hq:=?_))
  rfl
theorem small_spec (x : Nat) (hx : x < 100) (h : AHeap) : CallS Tryz.prog [] 49 [.int .i64 (x : Nat)] h fun v h' => v = .string ⟨(dg x).toArray⟩ := by
 (refine CallS.of1 Tryz.func49 rfl Tryz.ntmps49 Tryz.results49 rfl ?_)
 rcases Nat.lt_or_ge x 10 with h1 | h1
 ·
  (refine Go.run (g:=?_))
  refine GoR.strLH (zs := digL) (l := x) (r := x + 1) rfl rfl rfl rfl rfl rfl rfl (by omega) (by rw [digL_len]; omega) ?_
  rw [digL_at h1]
  (refine Go.run (g:=?_))
  (first|refine Go.finA rfl ?_|refine Go.finB rfl (hq:=?_))
  rw [dg_small h1]; rfl
 ·
  (refine Go.run (g:=?_))
  refine GoR.strLH (zs := smallsL) (l := x * 2) (r := x * 2 + 2) rfl rfl rfl rfl rfl rfl rfl (by omega) (by rw [smalls_len]; omega) ?_
  rw [smalls2_at hx]
  (refine Go.run (g:=?_))
  (first|refine Go.finA rfl ?_|refine Go.finB rfl (hq:=?_))
  rw [dg_two hx h1]; rfl
end Go.Proofs.YtncbbeghkpjpbaaGreatDoor
namespace Go.Proofs.YtncbbeghkpjpbaaGreatDoor
open Go.RowKit
set_option maxRecDepth 100000
attribute [local irreducible] Go GoR GoL
theorem pow10L_at {k : Nat} (h : k ≤ 19) : pow10L[k]? = some (.int .u64 ((10 ^ k : Nat) : Int)) := by
 unfold pow10L
 rw [List.getElem?_map, List.getElem?_range (by omega)]
 rfl
set_option maxHeartbeats 4000000 in
theorem numDigits_spec (x : Nat) (h0 : 0 < x) (hx : x < 18446744073709551616) (h : AHeap) (hG : Holds GH h) : CallS Tryz.prog [] 50 [.int .u64 (x : Nat)] h fun v h' => ∃ k : Nat, v = .int .i64 ((k + 1 : Nat) : Int) ∧ k ≤ 19 ∧ (k = 0 ∨ 10 ^ k ≤ x) ∧ x < 10 ^ (k + 1) := by
 (refine CallS.of1 Tryz.func50 rfl Tryz.ntmps50 Tryz.results50 rfl ?_)
 (refine Go.run (g:=?_))
 refine GoR.call rfl rfl rfl rfl rfl rfl rfl (((len64_spec x hx _).argA).mono ?_)
 rintro _ h1 ⟨b, rfl, hb, b1⟩ s1
 (refine Go.run (g:=?_))
 refine GoR.call rfl rfl rfl rfl rfl rfl rfl (((pow2_spec b hb _).argA).mono ?_)
 rintro _ h2 rfl s2
 obtain ⟨d1, k, k1, k2, k3, k4⟩ := digits_of h0 hb b1
 generalize b * 78913 / 262144 = n at *
 (refine Go.run (g:=?_))
 rw [show 0 + ((n : Nat) : Int).toNat * 1 = 0 + n from by simp]
 have r1 : Rv Tryz.prog h2 1 (some ⟨0, 0, none⟩) 20 20 pow10L := .mk (.inr (((hG.same s1).same s2).pow)) (by decide) (Nat.le_refl _) (List.take_of_length_le (by decide))
 refine GoR.loadV (a := some ⟨0, 0, none⟩) (kv := n) rfl rfl rfl rfl rfl r1 (pow10L_at d1) ?_
 generalize hp : 10 ^ n = p at *
 (refine Go.run (g:=?_))
 rw [show decide ((p : Int) ≤ (x : Int)) = decide (p ≤ x) from by simp]
 refine GoR.call rfl rfl rfl rfl rfl rfl rfl (((bool2_spec _ _).argA).mono ?_)
 rintro _ h3 rfl s3
 have k5 : (decide (p ≤ x)).toNat ≤ 1 := Bool.toNat_le _
 (refine Go.run (g:=?_))
 (first|refine Go.finA rfl ?_|refine Go.finB rfl (hq:=?_))
 exact ⟨k, by rw [k2]; rfl, k1, k3, k4⟩
end Go.Proofs.YtncbbeghkpjpbaaGreatDoor
namespace Go.Proofs.YtncbbeghkpjpbaaGreatDoor
open Go.RowKit
set_option maxRecDepth 100000
attribute [local irreducible] Go GoR GoL
def Suf (cs : List Value) (n k U : Nat) : Prop := cs.length = n ∧ ∀ j, j < k → cs[n - 1 - j]? = some (bv (dch (U / 10 ^ j % 10)))
theorem Suf.two {cs : List Value} {n k U x p q : Nat} (h : Suf cs n k U) (hk : k + 2 ≤ n) (hx : U / 10 ^ k % 100 = x) (hp : p = n - 1 - k) (hq : q = n - 1 - (k + 1)) : Suf ((cs.set p (bv (dch (x % 10)))).set q (bv (dch (x / 10)))) n (k + 2) U := by
 refine ⟨by simp [h.1], fun j hj => ?_⟩
 have hl := h.1
 rcases Nat.lt_or_ge j k with h1 | h1
 ·
  rw [List.getElem?_set_ne (by omega), List.getElem?_set_ne (by omega)]
  exact h.2 j h1
 ·
  rcases Nat.eq_or_lt_of_le h1 with rfl | h2
  ·
   rw [List.getElem?_set_ne (by omega), ← hp, List.getElem?_set_self (by omega), ← hx]
   congr 3; omega
  ·
   obtain rfl : j = k + 1 := by omega
   rw [← hq, List.getElem?_set_self (by simp; omega), ← hx, Nat.pow_succ, ← Nat.div_div_eq_div_mul]
   congr 3; omega
theorem Suf.one {cs : List Value} {n k U x : Nat} (h : Suf cs n k U) (hk : k + 1 = n) (hx : U / 10 ^ k = x) (hx1 : x < 10) : Suf (cs.set 0 (bv (dch x))) n n U := by
 refine ⟨by simp [h.1], fun j hj => ?_⟩
 have hl := h.1
 rcases Nat.lt_or_ge j k with h1 | h1
 ·
  rw [List.getElem?_set_ne (by omega)]
  exact h.2 j h1
 ·
  obtain rfl : j = k := by omega
  rw [show n - 1 - j = 0 from by omega, List.getElem?_set_self (by omega), hx, Nat.mod_eq_of_lt hx1]
theorem Suf.done {cs : List Value} {n U : Nat} (h : Suf cs n n U) : cs = (pd n U).map bv := by
 apply List.ext_getElem?
 intro i
 rcases Nat.lt_or_ge i n with hi | hi
 ·
  have := h.2 (n - 1 - i) (by omega)
  rw [show n - 1 - (n - 1 - i) = i from by omega] at this
  rw [this, List.getElem?_map]
  have e := pd_at n U (n - 1 - i) (by omega)
  rw [show n - 1 - (n - 1 - i) = i from by omega] at e
  rw [e]; rfl
 · rw [List.getElem?_eq_none (by rw [h.1]; exact hi), List.getElem?_eq_none (by simp [pd_len]; exact hi)]
section
variable {P : Program} {W : Nat → Prop} {q : Bool} {N : Nat} {k : List It} {ov : Ov} {df : List Nat} {h : AHeap} {Q : PQ} {id : Nat} {ops : Array Oper} {os : List Oper} {o : Oper} {d : Nat} {b₀ : Bool} {tr : List (Option LE)}
theorem GoL.indexQ {t tt : TypeId} {x y : Operand} {kk : IntKind} {i sz : Nat} {a : Option Addr} {len cap : Nat} {cs : List Value} (ho : o.op = .indexAddr t x y) (hd : o.dst = some d) (hN : dOk d N = true) (hgd : o.guard = none) (hx : evO ov x = some (.slice a len cap)) (hy : evO ov y = some (.int kk (i : Int))) [he : EL P t (none, 1)] (hS : Sv h tt sz a len cap cs) (h1 : i < len) (g : GoL P W q N ops (tr ++ [none]) os k ((d, ptA a i) :: ov) df h Q) : GoL P W q N ops tr (o :: os) k ov df h Q := by
 cases hS with
 | nil => omega
 | @mk b off _ _ _ _ _ _ _ _ =>
  have e : off + (i : Int).toNat * 1 = off + i := by simp
  exact GoL.indexS ho hd hN hgd hx hy (by omega) (by omega) (by rw [e]; exact g)
theorem GoR.indexQ {t tt : TypeId} {x y : Operand} {kk : IntKind} {i sz : Nat} {a : Option Addr} {len cap : Nat} {cs : List Value} (ho : o.op = .indexAddr t x y) (hd : o.dst = some d) (hN : dOk d N = true) (hgd : o.guard = none) (hx : evO ov x = some (.slice a len cap)) (hy : evO ov y = some (.int kk (i : Int))) [he : EL P t (none, 1)] (hS : Sv h tt sz a len cap cs) (h1 : i < len) (g : GoR P W q N ops b₀ os k ((d, ptA a i) :: ov) df h Q) : GoR P W q N ops b₀ (o :: os) k ov df h Q := by
 cases hS with
 | nil => omega
 | @mk b off _ _ _ _ _ _ _ _ =>
  have e : off + (i : Int).toNat * 1 = off + i := by simp
  exact GoR.indexS ho hd hN hgd hx hy (by omega) (by omega) (by rw [e]; exact g)
end
theorem keeps_tr {wr : List Nat} {h h' h₂ : AHeap} (k : Keeps wr h h') (k' : Keeps wr h' h₂) : Keeps wr h h₂ := ⟨Nat.le_trans k.1 k'.1, fun i hi hn => (k'.2 i (Nat.lt_of_lt_of_le hi k.1) hn).trans (k.2 i hi hn)⟩
set_option maxHeartbeats 4000000 in
theorem fb10_spec (U n : Nat) (hn : n ≤ 20) (hU : U < 10 ^ n) (hU64 : U < 18446744073709551616) (tt : TypeId) (a : Option Addr) (cap : Nat) (cs : List Value) (h : AHeap) (hS : Sv h tt 1 a n cap cs) : CallS Tryz.prog (blk a) 51 [.slice a n cap, .int .u64 (U : Nat)] h fun v h' => Sv h' tt 1 a n cap ((pd n U).map bv) := by
 have hW : ∀ i ∈ blk a, i ∈ blk a ∨ h.n ≤ i := fun i hi => .inl hi
 have hlen : cs.length = n := by
  cases hS with
  | nil => rfl
  | mk hg ho hl hc => rw [← hc, List.length_take, List.length_drop]; omega
 (refine CallS.of2 Tryz.func51 rfl Tryz.ntmps51 Tryz.results51 rfl ?_)
 (refine Go.run (g:=?_))
 refine Go.loop (α := Nat × Nat × Nat × List Value × AHeap) (fun s => [(4, .int .i64 (s.1 : Nat)), (1, .int .u64 (s.2.2.1 : Nat)), (0, .slice a n cap)]) (fun _ => []) (fun s => s.2.2.2.2) (fun s => s.1 + s.2.1 = n ∧ s.2.2.1 = U / 10 ^ s.2.1 ∧ s.2.2.1 < 10 ^ s.1 ∧ Suf s.2.2.2.1 n s.2.1 U ∧ Keeps (blk a) h s.2.2.2.2 ∧ Sv s.2.2.2.2 tt 1 a n cap s.2.2.2.1) (fun s => s.1) (n, 0, U, cs, h) ?_ ?_ rfl rfl ?_
 · exact ⟨rfl, by simp, hU, ⟨hlen, fun j hj => absurd hj (Nat.not_lt_zero j)⟩, ⟨Nat.le_refl _, fun _ _ _ => rfl⟩, hS⟩
 · exact ⟨rfl, rfl, rfl, trivial⟩
 rintro ⟨m, k, u, ds, H⟩ ⟨e1, e2, e3, f, kp, sv⟩
 simp only at e1 e2 e3 f kp sv ⊢
 have u64 : u < 18446744073709551616 := by rw [e2]; exact Nat.lt_of_le_of_lt (Nat.div_le_self _ _) hU64
 have m20 : m ≤ 20 := by omega
 rcases Nat.lt_or_ge m 8 with hm | hm
 ·
  have u32 : u < 10000000 := Nat.lt_of_lt_of_le e3 (Nat.le_trans (Nat.pow_le_pow_right (by decide) (show m ≤ 7 by omega)) (by decide))
  have q0 : U / 10 ^ k = u := e2.symm
  clear e2 hU
  (refine Go.run (g:=?_))
  refine Go.join1 (α := Nat × Nat × Nat × List Value × AHeap) (fun s => [(4, .int .i64 (s.1 : Nat)), (12, .int .u32 (s.2.2.1 : Nat)), (0, .slice a n cap)]) (fun _ => []) (fun s => s.2.2.2.2) (fun s => s.1 + s.2.1 = n ∧ U / 10 ^ s.2.1 = s.2.2.1 ∧ s.2.2.1 < 10 ^ s.1 ∧ s.1 < 4 ∧ Suf s.2.2.2.1 n s.2.1 U ∧ Keeps (blk a) h s.2.2.2.2 ∧ Sv s.2.2.2.2 tt 1 a n cap s.2.2.2.1) ?_ ?_
  ·
   rcases Nat.lt_or_ge m 4 with h4 | h4
   ·
    (refine Go.run (g:=?_))
    exact Go.joined (m, k, u, ds, H) ⟨e1, q0, e3, h4, f, kp, sv⟩ ⟨rfl, rfl, rfl, trivial⟩ rfl rfl
   ·
    have q2 : U / 10 ^ (k + 2) = u / 100 := by rw [Nat.pow_add, ← Nat.div_div_eq_div_mul, q0]
    have q4 : U / 10 ^ (k + 2 + 2) = u / 10000 := by rw [show k + 2 + 2 = k + 4 from rfl, Nat.pow_add, ← Nat.div_div_eq_div_mul, q0]
    have hnx : u / 10000 < 10 ^ (m - 4) := by
     rw [show m = (m - 4) + 4 from by omega, Nat.pow_add] at e3
     exact (Nat.div_lt_iff_lt_mul (by decide)).2 e3
    refine Go.runN (g:=?_)
    generalize g0 : u % 10000 % 100 = x0
    generalize g1 : u % 10000 / 100 = x1
    have l0 : x0 < 100 := by omega
    have l1 : x1 < 100 := by omega
    have f0 := f.two (x := x0) (p := m - 1) (q := m - 2) (by omega) (by rw [q0]; omega) (by omega) (by omega)
    have f1 := f0.two (x := x1) (p := m - 3) (q := m - 4) (by omega) (by rw [q2]; omega) (by omega) (by omega)
    have t3 : True → (U / 10 ^ (k + 2 + 2) = u / 10000 ∧ u / 10000 < 10 ^ (m - 4)) := fun _ => ⟨q4, hnx⟩
    clear g0 g1 q0 q2 q4 hnx f0 e3
    have dl : ds.length = n := f.1
    refine Go.loud (by kernel_rfl) rfl ?_
    (refine Go.runL (g:=?_))
    refine GoL.strAt (zs := smallsL) rfl rfl rfl rfl rfl rfl (smalls_lo l0) ?_
    (refine Go.runL (g:=?_))
    refine GoL.strAt (zs := smallsL) rfl rfl rfl rfl rfl rfl (smalls_hi l0) ?_
    (refine Go.runL (g:=?_))
    refine GoL.indexQ (i := m - 1) rfl rfl rfl rfl rfl rfl sv (by omega) ?_
    (refine Go.runL (g:=?_))
    refine GoL.store1' rfl rfl rfl rfl rfl rfl (hS := sv) (hw := hW) (g:=?_)
    intro Ha0 sva0 ka0 na0
    (refine Go.runL (g:=?_))
    refine GoL.indexQ (i := m - 2) rfl rfl rfl rfl rfl rfl sva0 (by omega) ?_
    (refine Go.runL (g:=?_))
    refine GoL.store1' rfl rfl rfl rfl rfl rfl (hS := sva0) (hw := hW) (g:=?_)
    intro Hb0 sv kb0 nb0
    (refine Go.runL (g:=?_))
    (refine GoL.end_ (g:=?_))
    refine Go.runN (g:=?_)
    refine Go.loud (by kernel_rfl) rfl ?_
    (refine Go.runL (g:=?_))
    refine GoL.strAt (zs := smallsL) rfl rfl rfl rfl rfl rfl (smalls_lo l1) ?_
    (refine Go.runL (g:=?_))
    refine GoL.strAt (zs := smallsL) rfl rfl rfl rfl rfl rfl (smalls_hi l1) ?_
    (refine Go.runL (g:=?_))
    refine GoL.indexQ (i := m - 3) rfl rfl rfl rfl rfl rfl sv (by omega) ?_
    (refine Go.runL (g:=?_))
    refine GoL.store1' rfl rfl rfl rfl rfl rfl (hS := sv) (hw := hW) (g:=?_)
    intro Ha1 sva1 ka1 na1
    (refine Go.runL (g:=?_))
    refine GoL.indexQ (i := m - 4) rfl rfl rfl rfl rfl rfl sva1 (by omega) ?_
    (refine Go.runL (g:=?_))
    refine GoL.store1' rfl rfl rfl rfl rfl rfl (hS := sva1) (hw := hW) (g:=?_)
    intro Hb1 sv kb1 nb1
    (refine Go.runL (g:=?_))
    (refine GoL.end_ (g:=?_))
    (refine Go.run (g:=?_))
    obtain ⟨t4, t5⟩ := t3 trivial
    exact Go.joined (m - 4, k + 2 + 2, u / 10000, _, Hb1) ⟨by simp only; omega, t4, t5, by simp only; omega, f1, keeps_tr (keeps_tr (keeps_tr (keeps_tr kp ka0) kb0) ka1) kb1, sv⟩ ⟨rfl, rfl, rfl, trivial⟩ rfl rfl
  clear hm u32 m20 u64 e3 q0 f kp sv e1
  clear m k u ds H
  rintro ⟨m, k, u, ds, H⟩ ⟨e1, q0, e3, h4, f, kp, sv⟩
  simp only at e1 q0 e3 h4 f kp sv ⊢
  have u32 : u < 10000 := Nat.lt_of_lt_of_le e3 (Nat.le_trans (Nat.pow_le_pow_right (by decide) (show m ≤ 4 by omega)) (by decide))
  (refine Go.run (g:=?_))
  refine Go.join1 (α := Nat × Nat × Nat × List Value × AHeap) (fun s => [(4, .int .i64 (s.1 : Nat)), (12, .int .u32 (s.2.2.1 : Nat)), (0, .slice a n cap)]) (fun _ => []) (fun s => s.2.2.2.2) (fun s => s.1 + s.2.1 = n ∧ U / 10 ^ s.2.1 = s.2.2.1 ∧ s.2.2.1 < 10 ^ s.1 ∧ s.1 < 2 ∧ Suf s.2.2.2.1 n s.2.1 U ∧ Keeps (blk a) h s.2.2.2.2 ∧ Sv s.2.2.2.2 tt 1 a n cap s.2.2.2.1) ?_ ?_
  ·
   rcases Nat.lt_or_ge m 2 with h2 | h2
   ·
    (refine Go.run (g:=?_))
    exact Go.joined (m, k, u, ds, H) ⟨e1, q0, e3, h2, f, kp, sv⟩ ⟨rfl, rfl, rfl, trivial⟩ rfl rfl
   ·
    have q2 : U / 10 ^ (k + 2) = u / 100 := by rw [Nat.pow_add, ← Nat.div_div_eq_div_mul, q0]
    have hnx : u / 100 < 10 ^ (m - 2) := by
     rw [show m = (m - 2) + 2 from by omega, Nat.pow_add] at e3
     exact (Nat.div_lt_iff_lt_mul (by decide)).2 e3
    refine Go.runN (g:=?_)
    generalize g0 : u % 100 = x0
    have l0 : x0 < 100 := by omega
    have f0 := f.two (x := x0) (p := m - 1) (q := m - 2) (by omega) (by rw [q0]; omega) (by omega) (by omega)
    have t3 : True → (U / 10 ^ (k + 2) = u / 100 ∧ u / 100 < 10 ^ (m - 2)) := fun _ => ⟨q2, hnx⟩
    clear g0 q0 q2 hnx e3
    have dl : ds.length = n := f.1
    refine Go.loud (by kernel_rfl) rfl ?_
    (refine Go.runL (g:=?_))
    refine GoL.strAt (zs := smallsL) rfl rfl rfl rfl rfl rfl (smalls_lo l0) ?_
    (refine Go.runL (g:=?_))
    refine GoL.strAt (zs := smallsL) rfl rfl rfl rfl rfl rfl (smalls_hi l0) ?_
    (refine Go.runL (g:=?_))
    refine GoL.indexQ (i := m - 1) rfl rfl rfl rfl rfl rfl sv (by omega) ?_
    (refine Go.runL (g:=?_))
    refine GoL.store1' rfl rfl rfl rfl rfl rfl (hS := sv) (hw := hW) (g:=?_)
    intro Ha0 sva0 ka0 na0
    (refine Go.runL (g:=?_))
    refine GoL.indexQ (i := m - 2) rfl rfl rfl rfl rfl rfl sva0 (by omega) ?_
    (refine Go.runL (g:=?_))
    refine GoL.store1' rfl rfl rfl rfl rfl rfl (hS := sva0) (hw := hW) (g:=?_)
    intro Hb0 sv kb0 nb0
    (refine Go.runL (g:=?_))
    (refine GoL.end_ (g:=?_))
    (refine Go.run (g:=?_))
    obtain ⟨t4, t5⟩ := t3 trivial
    exact Go.joined (m - 2, k + 2, u / 100, _, Hb0) ⟨by simp only; omega, t4, t5, by simp only; omega, f0, keeps_tr (keeps_tr kp ka0) kb0, sv⟩ ⟨rfl, rfl, rfl, trivial⟩ rfl rfl
  clear h4 u32 e3 q0 f kp sv e1
  clear m k u ds H
  rintro ⟨m, k, u, ds, H⟩ ⟨e1, q0, e3, h2, f, kp, sv⟩
  simp only at e1 q0 e3 h2 f kp sv ⊢
  rcases Nat.eq_zero_or_pos m with rfl | h0
  ·
   (refine Go.run (g:=?_))
   (first|refine Go.finA rfl ?_|refine Go.finB rfl (hq:=?_))
   obtain rfl : k = n := by omega
   rw [← f.done]
   exact sv
  ·
   obtain rfl : m = 1 := by omega
   have u10 : u < 10 := by simpa using e3
   have dl : ds.length = n := f.1
   have f1 := f.one (by omega) q0 u10
   clear e3 q0
   (refine Go.run (g:=?_))
   refine GoR.indexQ (i := 0) rfl rfl rfl rfl rfl rfl sv (by omega) ?_
   (refine Go.run (g:=?_))
   rw [show ((((48 + u) % 256 : Nat)) : Int) = ((dch u).toNat : Nat) from by rw [dch_nat u10]; omega]
   refine GoR.store1' rfl rfl rfl rfl rfl rfl (hS := sv) (hw := hW) (g:=?_)
   intro H3 sv3 k3 n3
   (refine Go.run (g:=?_))
   (first|refine Go.finA rfl ?_|refine Go.finB rfl (hq:=?_))
   rw [← f1.done]
   exact sv3
 ·
  have q2 : U / 10 ^ (k + 2) = u / 100 := by rw [Nat.pow_add, ← Nat.div_div_eq_div_mul, ← e2]
  have q4 : U / 10 ^ (k + 2 + 2) = u / 10000 := by rw [show k + 2 + 2 = k + 4 from rfl, Nat.pow_add, ← Nat.div_div_eq_div_mul, ← e2]
  have q6 : U / 10 ^ (k + 2 + 2 + 2) = u / 1000000 := by rw [show k + 2 + 2 + 2 = k + 6 from rfl, Nat.pow_add, ← Nat.div_div_eq_div_mul, ← e2]
  have q8 : U / 10 ^ (k + 8) = u / 100000000 := by rw [Nat.pow_add, ← Nat.div_div_eq_div_mul, ← e2]
  have hnx : u / 100000000 < 10 ^ (m - 8) := by
   rw [show m = (m - 8) + 8 from by omega, Nat.pow_add] at e3
   exact (Nat.div_lt_iff_lt_mul (by decide)).2 e3
  have q0 : U / 10 ^ k = u := e2.symm
  clear e3 e2 hU
  refine Go.runN (g:=?_)
  generalize g0 : u % 100000000 % 10000 % 100 = x0
  generalize g1 : u % 100000000 % 10000 / 100 = x1
  generalize g2 : u % 100000000 / 10000 % 100 = x2
  generalize g3 : u % 100000000 / 10000 / 100 = x3
  have l0 : x0 < 100 := by omega
  have l1 : x1 < 100 := by omega
  have l2 : x2 < 100 := by omega
  have l3 : x3 < 100 := by omega
  have f0 := f.two (x := x0) (p := m - 1) (q := m - 2) (by omega) (by rw [q0]; omega) (by omega) (by omega)
  have f1 := f0.two (x := x1) (p := m - 3) (q := m - 4) (by omega) (by rw [q2]; omega) (by omega) (by omega)
  have f2 := f1.two (x := x2) (p := m - 5) (q := m - 6) (by omega) (by rw [q4]; omega) (by omega) (by omega)
  have f3 := f2.two (x := x3) (p := m - 7) (q := m - 8) (by omega) (by rw [q6]; omega) (by omega) (by omega)
  have t3 : True → (u / 100000000 = U / 10 ^ (k + 8) ∧ u / 100000000 < 10 ^ (m - 8)) := fun _ => ⟨q8.symm, hnx⟩
  clear g0 g1 g2 g3 q0 q2 q4 q6 q8 hnx f0 f1 f2
  have dl : ds.length = n := f.1
  refine Go.loud (by kernel_rfl) rfl ?_
  (refine Go.runL (g:=?_))
  refine GoL.strAt (zs := smallsL) rfl rfl rfl rfl rfl rfl (smalls_lo l0) ?_
  (refine Go.runL (g:=?_))
  refine GoL.strAt (zs := smallsL) rfl rfl rfl rfl rfl rfl (smalls_hi l0) ?_
  (refine Go.runL (g:=?_))
  refine GoL.indexQ (i := m - 1) rfl rfl rfl rfl rfl rfl sv (by omega) ?_
  (refine Go.runL (g:=?_))
  refine GoL.store1' rfl rfl rfl rfl rfl rfl (hS := sv) (hw := hW) (g:=?_)
  intro Ha0 sva0 ka0 na0
  (refine Go.runL (g:=?_))
  refine GoL.indexQ (i := m - 2) rfl rfl rfl rfl rfl rfl sva0 (by omega) ?_
  (refine Go.runL (g:=?_))
  refine GoL.store1' rfl rfl rfl rfl rfl rfl (hS := sva0) (hw := hW) (g:=?_)
  intro Hb0 sv kb0 nb0
  (refine Go.runL (g:=?_))
  (refine GoL.end_ (g:=?_))
  refine Go.runN (g:=?_)
  refine Go.loud (by kernel_rfl) rfl ?_
  (refine Go.runL (g:=?_))
  refine GoL.strAt (zs := smallsL) rfl rfl rfl rfl rfl rfl (smalls_lo l1) ?_
  (refine Go.runL (g:=?_))
  refine GoL.strAt (zs := smallsL) rfl rfl rfl rfl rfl rfl (smalls_hi l1) ?_
  (refine Go.runL (g:=?_))
  refine GoL.indexQ (i := m - 3) rfl rfl rfl rfl rfl rfl sv (by omega) ?_
  (refine Go.runL (g:=?_))
  refine GoL.store1' rfl rfl rfl rfl rfl rfl (hS := sv) (hw := hW) (g:=?_)
  intro Ha1 sva1 ka1 na1
  (refine Go.runL (g:=?_))
  refine GoL.indexQ (i := m - 4) rfl rfl rfl rfl rfl rfl sva1 (by omega) ?_
  (refine Go.runL (g:=?_))
  refine GoL.store1' rfl rfl rfl rfl rfl rfl (hS := sva1) (hw := hW) (g:=?_)
  intro Hb1 sv kb1 nb1
  (refine Go.runL (g:=?_))
  (refine GoL.end_ (g:=?_))
  refine Go.runN (g:=?_)
  refine Go.loud (by kernel_rfl) rfl ?_
  (refine Go.runL (g:=?_))
  refine GoL.strAt (zs := smallsL) rfl rfl rfl rfl rfl rfl (smalls_lo l2) ?_
  (refine Go.runL (g:=?_))
  refine GoL.strAt (zs := smallsL) rfl rfl rfl rfl rfl rfl (smalls_hi l2) ?_
  (refine Go.runL (g:=?_))
  refine GoL.indexQ (i := m - 5) rfl rfl rfl rfl rfl rfl sv (by omega) ?_
  (refine Go.runL (g:=?_))
  refine GoL.store1' rfl rfl rfl rfl rfl rfl (hS := sv) (hw := hW) (g:=?_)
  intro Ha2 sva2 ka2 na2
  (refine Go.runL (g:=?_))
  refine GoL.indexQ (i := m - 6) rfl rfl rfl rfl rfl rfl sva2 (by omega) ?_
  (refine Go.runL (g:=?_))
  refine GoL.store1' rfl rfl rfl rfl rfl rfl (hS := sva2) (hw := hW) (g:=?_)
  intro Hb2 sv kb2 nb2
  (refine Go.runL (g:=?_))
  (refine GoL.end_ (g:=?_))
  refine Go.runN (g:=?_)
  refine Go.loud (by kernel_rfl) rfl ?_
  (refine Go.runL (g:=?_))
  refine GoL.strAt (zs := smallsL) rfl rfl rfl rfl rfl rfl (smalls_lo l3) ?_
  (refine Go.runL (g:=?_))
  refine GoL.strAt (zs := smallsL) rfl rfl rfl rfl rfl rfl (smalls_hi l3) ?_
  (refine Go.runL (g:=?_))
  refine GoL.indexQ (i := m - 7) rfl rfl rfl rfl rfl rfl sv (by omega) ?_
  (refine Go.runL (g:=?_))
  refine GoL.store1' rfl rfl rfl rfl rfl rfl (hS := sv) (hw := hW) (g:=?_)
  intro Ha3 sva3 ka3 na3
  (refine Go.runL (g:=?_))
  refine GoL.indexQ (i := m - 8) rfl rfl rfl rfl rfl rfl sva3 (by omega) ?_
  (refine Go.runL (g:=?_))
  refine GoL.store1' rfl rfl rfl rfl rfl rfl (hS := sva3) (hw := hW) (g:=?_)
  intro Hb3 sv kb3 nb3
  (refine Go.runL (g:=?_))
  (refine GoL.end_ (g:=?_))
  (refine Go.run (g:=?_))
  obtain ⟨t4, t5⟩ := t3 trivial
  have kz : Keeps (blk a) h Hb3 := keeps_tr (keeps_tr (keeps_tr (keeps_tr (keeps_tr (keeps_tr (keeps_tr (keeps_tr kp ka0) kb0) ka1) kb1) ka2) kb2) ka3) kb3
  refine Go.again (m - 8, k + 8, u / 100000000, _, Hb3) ⟨by simp only; omega, t4, t5, f3, kz, sv⟩ (by simp only; omega) ⟨rfl, rfl, rfl, trivial⟩ rfl rfl
end Go.Proofs.YtncbbeghkpjpbaaGreatDoor
namespace Go.Proofs.YtncbbeghkpjpbaaGreatDoor
open Go.RowKit
set_option maxRecDepth 100000
attribute [local irreducible] Go GoR GoL
theorem aStr_sv {P : Program} {h : AHeap} {t t₂ e tt : TypeId} (hu : P.underlying t = some (.slice e)) (hd : P.underlying t₂ = some .string) (he : P.underlying e = some (.int .u8)) {a : Option Addr} {len cap : Nat} {zs : List UInt8} (hS : Sv h tt 1 a len cap (zs.map bv)) : ∃ rd, aStr P h t t₂ (.slice a len cap) = some (⟨zs.toArray⟩, rd) ∧ ∀ i ∈ rd, i ∈ blk a := by
 generalize hz : zs.map bv = cs at hS
 cases hS with
 | nil =>
  obtain rfl : zs = [] := by simpa using hz
  exact ⟨[], by simp [aStr, hu, hd, he], fun i hi => by cases hi⟩
 | @mk b o _ _ c _ hg ho hl hc =>
  refine ⟨if len = 0 then [] else [b], ?_, fun i hi => by split at hi <;> simp at hi; simpa [blk] using hi⟩
  rw [Nat.mul_one] at ho hc
  simp only [aStr, hu, hd, he]
  by_cases h0 : len = 0
  ·
   subst h0
   rw [if_pos rfl]
   have : zs = [] := by rw [← hc] at hz; simpa using hz
   subst this
   simp
  ·
   rw [if_neg h0]
   simp only [hg, rowOf]
   rw [if_pos (by omega), hc, ← hz, u8s_bv, if_neg h0]
   simp [strOf_bv]
theorem aSlice_arr {P : Program} {h : AHeap} {t e : TypeId} {n l r b o : Nat} {lo hi : Option Value} (hu : P.underlying t = some (.array n e)) (hs : sizeT P e = some 1) (h1 : bnd 0 lo = some l) (h2 : bnd n hi = some r) (h3 : l ≤ r) (h4 : r ≤ n) : aSlice P h t lo hi none (.pointer (some ⟨b, o, none⟩)) = some (.slice (some ⟨b, o + l, none⟩) (r - l) (n - l)) := by
 have h5 : bnd n none = some n := rfl
 simp only [aSlice, hu, hs, h1, h2, h5]
 rw [if_pos ⟨h3, h4, Nat.le_refl _, fun e => by cases e⟩, Nat.mul_one]
section
variable {P : Program} {W : Nat → Prop} {q : Bool} {N : Nat} {k : List It} {ov : Ov} {df : List Nat} {h : AHeap} {Q : PQ} {id : Nat} {ops : Array Oper} {os : List Oper} {o : Oper} {d : Nat} {b₀ : Bool} {tr : List (Option LE)}
theorem GoR.strQ {t t₂ tt : TypeId} {x : Operand} {a : Option Addr} {len cap : Nat} {zs : List UInt8} (ho : o.op = .convert t t₂ x) (hd : o.dst = some d) (hN : dOk d N = true) (hgd : o.guard = none) (hx : evO ov x = some (.slice a len cap)) [hB : BY P t t₂] (hS : Sv h tt 1 a len cap (zs.map bv)) (g : GoR P W q N ops b₀ os k ((d, .string ⟨zs.toArray⟩) :: ov) df h Q) : GoR P W q N ops b₀ (o :: os) k ov df h Q := by
 obtain ⟨e, h1, h2⟩ := hB.h
 obtain ⟨rd, h3, h4⟩ := aStr_sv (P := P) (h := h) h1 hB.s h2 hS
 exact GoR.convStr ho hd hN hgd hx h3 g
end
theorem arr24 : Tryz.prog.underlying 94 = some (.array 24 5) := by kernel_rfl
theorem siz1 : sizeT Tryz.prog 5 = some 1 := by kernel_rfl
set_option maxHeartbeats 4000000 in
theorem fuint_spec (x : Nat) (hx : x < 18446744073709551616) (h : AHeap) (hG : Holds GH h) : CallS Tryz.prog [] 34 [.int .u64 (x : Nat), .int .i64 10] h fun v h' => v = .string ⟨(dg x).toArray⟩ := by
 (refine CallS.of2 Tryz.func34 rfl Tryz.ntmps34 Tryz.results34 rfl ?_)
 rcases Nat.lt_or_ge x 100 with h1 | h1
 ·
  (refine Go.run (g:=?_))
  refine GoR.call rfl rfl rfl rfl rfl rfl rfl (((small_spec x h1 _).argA).mono ?_)
  rintro _ h2 rfl s2
  (refine Go.run (g:=?_))
  (first|refine Go.finA rfl ?_|refine Go.finB rfl (hq:=?_))
  rfl
 ·
  (refine Go.run (g:=?_))
  refine GoR.name ?_
  intro H1 eH1
  have g1 : H1.get h.n = some (.cells (List.replicate 24 (.int .u8 0)) 94) := by rw [eH1]; exact AHeap.get_push_same _ _
  have s1 : Same h H1 := by rw [eH1]; exact (Same.refl h).push _
  have n1 : H1.n = h.n + 1 := by rw [eH1]; rfl
  clear eH1
  refine GoR.call rfl rfl rfl rfl rfl rfl rfl (((numDigits_spec x (by omega) hx _ (hG.same s1)).argA).mono ?_)
  rintro _ h2 ⟨k, rfl, k1, k3, k4⟩ s2
  have n2 := s2.1
  (refine Go.run (g:=?_))
  refine GoR.slice (u := .pointer (some ⟨h.n, 0, none⟩)) (lo' := none) (hi' := some (.int .i64 ((k + 1 : Nat) : Int))) (mx' := none) rfl rfl rfl rfl rfl rfl rfl rfl (aSlice_arr arr24 siz1 (l := 0) (r := k + 1) rfl (by simp [bnd]; omega) (Nat.zero_le _) (by omega)) ?_
  have v1 : Sv h2 94 1 (some ⟨h.n, 0 + 0, none⟩) (k + 1 - 0) (24 - 0) (List.replicate (k + 1) (.int .u8 0)) := .mk (s2.get g1) (by simp) (by omega) (by rw [Nat.add_zero, List.drop_zero, Nat.mul_one, Nat.sub_zero, List.take_replicate, Nat.min_eq_left (by omega)])
  (refine Go.run (g:=?_))
  refine GoR.callW rfl rfl rfl rfl rfl rfl rfl (((fb10_spec x (k + 1 - 0) (by omega) (by simpa using k4) hx _ _ _ _ _ v1).argA).mono ?_)
  rintro _ h3 v2 p3
  refine ⟨fun i hi => .inr (by simp [blk] at hi; omega), ?_⟩
  (refine Go.run (g:=?_))
  refine GoR.slice (u := .pointer (some ⟨h.n, 0, none⟩)) (lo' := none) (hi' := some (.int .i64 ((k + 1 : Nat) : Int))) (mx' := none) rfl rfl rfl rfl rfl rfl rfl rfl (aSlice_arr arr24 siz1 (l := 0) (r := k + 1) rfl (by simp [bnd]; omega) (Nat.zero_le _) (by omega)) ?_
  refine GoR.strQ (zs := pd (k + 1 - 0) x) rfl rfl rfl rfl rfl v2 ?_
  rw [Nat.sub_zero, pd_dg k x k3 k4]
  (refine Go.run (g:=?_))
  (first|refine Go.finA rfl ?_|refine Go.finB rfl (hq:=?_))
  rfl
theorem wrap_neg {n : Nat} (h0 : 0 < n) (h1 : n ≤ 9223372036854775808) : IntKind.u64.wrap (-(n : Int)) = ((18446744073709551616 - n : Nat) : Int) := by
 have : IntKind.u64.wrap (-(n : Int)) = (-(n : Int)) % 18446744073709551616 := rfl
 rw [this]; omega
theorem wrap_back {n : Nat} (h0 : 0 < n) (h1 : n ≤ 9223372036854775808) : IntKind.u64.wrap (0 - ((18446744073709551616 - n : Nat) : Int)) = (n : Int) := by
 have : IntKind.u64.wrap (0 - ((18446744073709551616 - n : Nat) : Int)) = (0 - ((18446744073709551616 - n : Nat) : Int)) % 18446744073709551616 := rfl
 rw [this]; omega
set_option maxHeartbeats 4000000 in
theorem fint_spec (x : Int) (hx0 : -9223372036854775808 ≤ x) (hx : x < 9223372036854775808) (h : AHeap) (hG : Holds GH h) : CallS Tryz.prog [] 48 [.int .i64 x, .int .i64 10] h fun v h' => v = .string ⟨(dgI x).toArray⟩ := by
 (refine CallS.of2 Tryz.func48 rfl Tryz.ntmps48 Tryz.results48 rfl ?_)
 rcases Int.lt_or_le x 0 with hn | hn
 case inr =>
  obtain ⟨n, rfl⟩ : ∃ k : Nat, x = k := ⟨x.toNat, by omega⟩
  rw [dgI_nat]
  rcases Nat.lt_or_ge n 100 with h1 | h1
  ·
   (refine Go.run (g:=?_))
   refine GoR.call rfl rfl rfl rfl rfl rfl rfl (((small_spec n h1 _).argA).mono ?_)
   rintro _ h2 rfl s2
   (refine Go.run (g:=?_))
   (first|refine Go.finA rfl ?_|refine Go.finB rfl (hq:=?_))
   rfl
  ·
   (refine Go.run (g:=?_))
   refine GoR.name ?_
   intro H1 eH1
   have g1 : H1.get h.n = some (.cells (List.replicate 24 (.int .u8 0)) 94) := by rw [eH1]; exact AHeap.get_push_same _ _
   have s1 : Same h H1 := by rw [eH1]; exact (Same.refl h).push _
   have n1 : H1.n = h.n + 1 := by rw [eH1]; rfl
   clear eH1
   refine GoR.call rfl rfl rfl rfl rfl rfl rfl (((numDigits_spec n (by omega) (by omega) _ (hG.same s1)).argA).mono ?_)
   rintro _ h2 ⟨k, rfl, k1, k3, k4⟩ s2
   have n2 := s2.1
   (refine Go.run (g:=?_))
   have v1 : Sv h2 94 1 (some ⟨h.n, 0 + 1, none⟩) (1 + (k + 1) - 1) (24 - 1) (List.replicate (k + 1) (.int .u8 0)) := .mk (s2.get g1) (by simp) (by omega) (by rw [List.drop_replicate, List.take_replicate]; congr 1; omega)
   refine GoR.slice (u := .pointer (some ⟨h.n, 0, none⟩)) (lo' := some (.int .i64 1)) (hi' := some (.int .i64 ((1 + (k + 1) : Nat) : Int))) (mx' := none) rfl rfl rfl rfl rfl rfl rfl rfl (aSlice_arr arr24 siz1 (l := 1) (r := 1 + (k + 1)) rfl (by simp [bnd]; omega) (by omega) (by omega)) ?_
   (refine Go.run (g:=?_))
   refine GoR.callW rfl rfl rfl rfl rfl rfl rfl (((fb10_spec n (1 + (k + 1) - 1) (by omega) (by rw [show 1 + (k + 1) - 1 = k + 1 from by omega]; exact k4) (by omega) _ _ _ _ _ v1).argA).mono ?_)
   rintro _ h3 v2 p3
   refine ⟨fun i hi => .inr (by simp [blk] at hi; omega), ?_⟩
   rw [show pd (1 + (k + 1) - 1) n = dg n from by rw [show 1 + (k + 1) - 1 = k + 1 from by omega]; exact pd_dg k n k3 k4] at v2
   (refine Go.run (g:=?_))
   refine GoR.slice (u := .pointer (some ⟨h.n, 0, none⟩)) (lo' := some (.int .i64 1)) (hi' := some (.int .i64 ((1 + (k + 1) : Nat) : Int))) (mx' := none) rfl rfl rfl rfl rfl rfl rfl rfl (aSlice_arr arr24 siz1 (l := 1) (r := 1 + (k + 1)) rfl (by simp [bnd]; omega) (by omega) (by omega)) ?_
   refine GoR.strQ (zs := dg n) rfl rfl rfl rfl rfl v2 ?_
   (refine Go.run (g:=?_))
   (first|refine Go.finA rfl ?_|refine Go.finB rfl (hq:=?_))
   rfl
 obtain ⟨n, h0, rfl⟩ : ∃ k : Nat, 0 < k ∧ x = -(k : Int) := ⟨(-x).toNat, by omega, by omega⟩
 rw [dgI_neg h0]
 (refine Go.run (g:=?_))
 refine GoR.convE _ rfl rfl rfl rfl rfl (wrap_neg h0 (by omega)) ?_
 (refine Go.run (g:=?_))
 refine GoR.neg rfl rfl rfl rfl rfl ?_
 rw [wrap_back h0 (by omega)]
 (refine Go.run (g:=?_))
 refine GoR.name ?_
 intro H1 eH1
 have g1 : H1.get h.n = some (.cells (List.replicate 24 (.int .u8 0)) 94) := by rw [eH1]; exact AHeap.get_push_same _ _
 have s1 : Same h H1 := by rw [eH1]; exact (Same.refl h).push _
 have n1 : H1.n = h.n + 1 := by rw [eH1]; rfl
 clear eH1
 refine GoR.call rfl rfl rfl rfl rfl rfl rfl (((numDigits_spec n (by omega) (by omega) _ (hG.same s1)).argA).mono ?_)
 rintro _ h2 ⟨k, rfl, k1, k3, k4⟩ s2
 have n2 := s2.1
 (refine Go.run (g:=?_))
 have v1 : Sv h2 94 1 (some ⟨h.n, 0 + 1, none⟩) (1 + (k + 1) - 1) (24 - 1) (List.replicate (k + 1) (.int .u8 0)) := .mk (s2.get g1) (by simp) (by omega) (by rw [List.drop_replicate, List.take_replicate]; congr 1; omega)
 refine GoR.slice (u := .pointer (some ⟨h.n, 0, none⟩)) (lo' := some (.int .i64 1)) (hi' := some (.int .i64 ((1 + (k + 1) : Nat) : Int))) (mx' := none) rfl rfl rfl rfl rfl rfl rfl rfl (aSlice_arr arr24 siz1 (l := 1) (r := 1 + (k + 1)) rfl (by simp [bnd]; omega) (by omega) (by omega)) ?_
 (refine Go.run (g:=?_))
 refine GoR.callW rfl rfl rfl rfl rfl rfl rfl (((fb10_spec n (1 + (k + 1) - 1) (by omega) (by rw [show 1 + (k + 1) - 1 = k + 1 from by omega]; exact k4) (by omega) _ _ _ _ _ v1).argA).mono ?_)
 rintro _ h3 v2 p3
 refine ⟨fun i hi => .inr (by simp [blk] at hi; omega), ?_⟩
 have n3 := p3.1
 rw [show pd (1 + (k + 1) - 1) n = dg n from by rw [show 1 + (k + 1) - 1 = k + 1 from by omega]; exact pd_dg k n k3 k4] at v2
 have v3 : ∃ r, h3.get h.n = some (.cells r 94) ∧ 24 ≤ r.length ∧ (r.drop 1).take (k + 1) = (dg n).map bv := by
  generalize hz : (dg n).map bv = cs at v2
  cases v2 with
  | mk hg ho hl hc => exact ⟨_, hg, by omega, by rw [← hc]; congr 1; omega⟩
 clear v2 v1
 obtain ⟨r, g3, l3, d3⟩ := v3
 (refine Go.run (g:=?_))
 refine GoR.name ?_
 intro H4 eH4
 have g4 : H4.get h.n = some (.cells (.int .u8 45 :: r.drop 1) 94) := by rw [eH4, AHeap.get_put_same _ (by omega)]; rfl
 have v4 : Sv H4 94 1 (some ⟨h.n, 0 + 0, none⟩) (1 + (k + 1) - 0) (24 - 0) ((45 :: dg n).map bv) := .mk g4 (by simp; omega) (by omega) (by
  rw [show (1 + (k + 1) - 0) * 1 = (k + 1) + 1 from by omega]
  show (Value.int .u8 45 :: r.drop 1).take ((k + 1) + 1) = _
  rw [List.take_succ_cons, d3]; rfl)
 clear eH4
 refine GoR.slice (u := .pointer (some ⟨h.n, 0, none⟩)) (lo' := none) (hi' := some (.int .i64 ((1 + (k + 1) : Nat) : Int))) (mx' := none) rfl rfl rfl rfl rfl rfl rfl rfl (aSlice_arr arr24 siz1 (l := 0) (r := 1 + (k + 1)) rfl (by simp [bnd]; omega) (by omega) (by omega)) ?_
 refine GoR.strQ (zs := 45 :: dg n) rfl rfl rfl rfl rfl v4 ?_
 (refine Go.run (g:=?_))
 (first|refine Go.finA rfl ?_|refine Go.finB rfl (hq:=?_))
 rfl
theorem itoa_spec (x : Int) (hx0 : -9223372036854775808 ≤ x) (hx : x < 9223372036854775808) (h : AHeap) (hG : Holds GH h) : CallS Tryz.prog [] 17 [.int .i64 x] h fun v h' => v = .string ⟨(dgI x).toArray⟩ := by
 have k : ∀ h : AHeap, Holds GH h → CallS Tryz.prog [] 33 [.int .i64 x] h fun v h' => v = .string ⟨(dgI x).toArray⟩ := by
  intro h hG
  (refine CallS.of1 Tryz.func33 rfl Tryz.ntmps33 Tryz.results33 rfl ?_)
  (refine Go.run (g:=?_))
  refine GoR.call rfl rfl rfl rfl rfl rfl rfl (((fint_spec x hx0 hx _ hG).argA).mono ?_)
  rintro _ h1 rfl s1
  (refine Go.run (g:=?_))
  (first|refine Go.finA rfl ?_|refine Go.finB rfl (hq:=?_))
  rfl
 (refine CallS.of1 Tryz.func17 rfl Tryz.ntmps17 Tryz.results17 rfl ?_)
 (refine Go.run (g:=?_))
 refine GoR.call rfl rfl rfl rfl rfl rfl rfl (((k _ hG).argA).mono ?_)
 rintro _ h1 rfl s1
 (refine Go.run (g:=?_))
 (first|refine Go.finA rfl ?_|refine Go.finB rfl (hq:=?_))
 rfl
theorem utoa_spec (x : Nat) (hx : x < 18446744073709551616) (h : AHeap) (hG : Holds GH h) : CallS Tryz.prog [] 19 [.int .u64 (x : Nat), .int .i64 10] h fun v h' => v = .string ⟨(dg x).toArray⟩ := by
 (refine CallS.of2 Tryz.func19 rfl Tryz.ntmps19 Tryz.results19 rfl ?_)
 (refine Go.run (g:=?_))
 refine GoR.call rfl rfl rfl rfl rfl rfl rfl (((fuint_spec x hx _ hG).argA).mono ?_)
 rintro _ h1 rfl s1
 (refine Go.run (g:=?_))
 (first|refine Go.finA rfl ?_|refine Go.finB rfl (hq:=?_))
 rfl
end Go.Proofs.YtncbbeghkpjpbaaGreatDoor
namespace Go.Proofs.YtncbbeghkpjpbaaGreatDoor
open Go.RowKit
set_option maxRecDepth 100000
attribute [local irreducible] Go GoR GoL
theorem bu_depth : Tryz.prog.depth = (2 * (Tryz.prog.types.size + Made.depth) + 1) + 1 := rfl
theorem bu_same : sameLayout Tryz.prog Tryz.prog.depth 49 49 = true := by rw [bu_depth]; simp [sameLayout]
theorem bu_size : sizeT Tryz.prog 49 = some 2 := by kernel_rfl
theorem bu_cells : Tryz.prog.cellsOf 49 = 2 := by kernel_rfl
theorem bu_ptr : Tryz.prog.underlying 47 = some (.pointer 49) := by kernel_rfl
theorem bu_uns : Tryz.prog.underlying 91 = some .unsafePointer := by kernel_rfl
theorem bu_zero : (Tryz.prog.info? 49).bind (·.zero) = some (.agg #[.pointer none, .slice none 0 0]) := by kernel_rfl
theorem aEq_pp {P : Program} {h : AHeap} {t e : TypeId} (hu : P.underlying t = some (.pointer e)) (a : Option Addr) : aEq P h t (.pointer none) (.pointer a) = some (a.isNone, []) := by
 unfold aEq
 rw [hu]
theorem aEq_pn {P : Program} {h : AHeap} {t e : TypeId} (hu : P.underlying t = some (.pointer e)) (a : Addr) : aEq P h t (.pointer (some a)) (.pointer none) = some (false, []) := by
 unfold aEq
 rw [hu]
theorem aEq_self {P : Program} {h : AHeap} {t e n b p : Nat} {o : AObj} (hu : P.underlying t = some (.pointer e)) (hs : sizeT P e = some (n + 1)) (hg : h.get b = some o) : aEq P h t (.pointer (some ⟨b, p, none⟩)) (.pointer (some ⟨b, p, none⟩)) = some (true, []) := by
 unfold aEq
 rw [hu]
 simp only [hs]
 rw [if_pos trivial, hg]
 simp
set_option maxHeartbeats 4000000 in
theorem copyCheck_spec (bb : Nat) (p : Option Addr) (hp : p = none ∨ p = some ⟨bb, 0, none⟩) (v : Value) (hv : v.oneCell' = true) (h : AHeap) (hg : h.get bb = some (.cells [.pointer p, v] 49)) : CallS Tryz.prog [bb] 32 [.pointer (some ⟨bb, 0, none⟩)] h fun _ h' => h'.get bb = some (.cells [.pointer (some ⟨bb, 0, none⟩), v] 49) := by
 (refine CallS.of1 Tryz.func32 rfl Tryz.ntmps32 Tryz.results32 rfl ?_)
 rcases hp with rfl | rfl
 ·
  (refine Go.run (g:=?_))
  refine GoR.eqRef rfl rfl rfl rfl (.inl rfl) rfl rfl (aEq_pp bu_ptr _) ?_
  (refine Go.run (g:=?_))
  refine GoR.toUnsafe rfl rfl rfl rfl bu_ptr bu_uns bu_size (by decide) rfl hg (by simp) ?_
  (refine Go.run (g:=?_))
  refine GoR.externI rfl rfl rfl rfl rfl rfl Tryz.func47 (by kernel_rfl) (by kernel_rfl) (by kernel_rfl) (e := Extern.AbiNoEscape.same) (by kernel_rfl) (fun _ => rfl) ?_
  refine GoR.fromUnsafe rfl rfl rfl rfl bu_uns bu_ptr bu_size bu_cells (by decide) bu_depth bu_same bu_zero rfl rfl hg rfl ?_
  (refine Go.run (g:=?_))
  (first|refine Go.finA rfl ?_|refine Go.finB rfl (hq:=?_))
  exact AHeap.get_put_same _ (AHeap.lt hg) _
 ·
  (refine Go.run (g:=?_))
  refine GoR.eqRef rfl rfl rfl rfl (.inl rfl) rfl rfl (aEq_pn bu_ptr _) ?_
  (refine Go.run (g:=?_))
  refine GoR.eqRef rfl rfl rfl rfl (.inr rfl) rfl rfl (aEq_self bu_ptr bu_size hg) ?_
  (refine Go.run (g:=?_))
  (first|refine Go.finA rfl ?_|refine Go.finB rfl (hq:=?_))
  exact hg
structure BU (h : AHeap) (bb : Nat) (p a : Option Addr) (cap : Nat) (zs : List UInt8) : Prop where
 g : h.get bb = some (.cells [.pointer p, .slice a zs.length cap] 49)
 p : p = none ∨ p = some ⟨bb, 0, none⟩
 v : Sv h 5 1 a zs.length cap (zs.map bv)
 o : bb ∉ blk a
theorem BU.same {h h' : AHeap} {bb : Nat} {p a : Option Addr} {cap : Nat} {zs : List UInt8} (k : BU h bb p a cap zs) (s : Same h h') : BU h' bb p a cap zs := ⟨s.get k.g, k.p, k.v.same s, k.o⟩
set_option maxHeartbeats 4000000 in
theorem writeByte_spec (bb : Nat) (p a : Option Addr) (cap : Nat) (zs : List UInt8) (c : UInt8) (hz : zs.length < 1000000000) (h : AHeap) (B : BU h bb p a cap zs) : CallS Tryz.prog (bb :: blk a) 35 [.pointer (some ⟨bb, 0, none⟩), .int .u8 (c.toNat : Nat)] h fun _ h' => ∃ p' a' cap', BU h' bb p' a' cap' (zs ++ [c]) ∧ ∀ i ∈ blk a', i ∈ blk a ∨ h.n ≤ i := by
 have hbn := AHeap.lt B.g
 (refine CallS.of2 Tryz.func35 rfl Tryz.ntmps35 Tryz.results35 rfl ?_)
 (refine Go.run (g:=?_))
 refine GoR.callW rfl rfl rfl rfl rfl rfl rfl (((copyCheck_spec bb p B.p _ rfl _ B.g).argA).mono ?_)
 rintro _ h1 g1 k1
 refine ⟨fun i hi => by simp at hi; subst hi; exact .inl (List.mem_cons_self ..), ?_⟩
 have n1 := k1.1
 have hv1 : Sv h1 5 1 a zs.length cap (zs.map bv) := B.v.keeps k1 fun i hi e => by
  simp at e; subst e; exact B.o hi
 have lt1 := hv1.lt
 have lt0 := B.v.lt
 (refine Go.run (g:=?_))
 refine GoR.buildRo (c := [c].map bv) rfl rfl rfl rfl rfl (by decide) (by rfl) (by rfl) ?_
 intro b2 h2 r2 ro2 ow2 s2 n2
 have m2 := s2.1
 refine GoR.appendV rfl rfl rfl rfl rfl rfl (hv1.same s2) r2 (fun i hi => .inl (List.mem_cons_of_mem _ hi)) (by omega) (by omega) (by simp [bv, Value.oneCell']) ?_
 intro b3 c3 h3 v3 k3 o3
 have m3 := k3.1
 have g3 := k3.get (s2.get g1) B.o
 rw [← List.map_append] at v3
 (refine Go.run (g:=?_))
 (first|refine Go.finA rfl ?_|refine Go.finB rfl (hq:=?_))
 have ho3 : bb ∉ blk b3 := fun e => by
  rcases o3 bb e with x | x
  · exact B.o x
  · omega
 refine ⟨some ⟨bb, 0, none⟩, b3, c3, ⟨?_, .inr rfl, ?_, ho3⟩, fun i hi => (o3 i hi).imp id fun x => by omega⟩
 ·
  rw [List.length_append]
  exact AHeap.get_put_same _ (by omega) _
 ·
  rw [List.length_append]
  exact v3.put ho3 _
set_option maxHeartbeats 4000000 in
theorem bstring_spec (bb : Nat) (p a : Option Addr) (cap : Nat) (zs : List UInt8) (h0 : 0 < zs.length) (hz : zs.length < 1000000000) (h : AHeap) (B : BU h bb p a cap zs) : CallS Tryz.prog (blk a) 14 [.pointer (some ⟨bb, 0, none⟩)] h fun v _ => v = .string ⟨zs.toArray⟩ := by
 have hbn := AHeap.lt B.g
 obtain ⟨b, o, c, rfl, hg, ho, hl, hc⟩ := B.v.some h0
 have g := B.g
 have hne : bb ≠ b := fun e => B.o (by simp [blk, e])
 rw [Nat.mul_one] at ho hc
 (refine CallS.of1 Tryz.func14 rfl Tryz.ntmps14 Tryz.results14 rfl ?_)
 refine Go.runN (g:=?_)
 refine Go.loud (by kernel_rfl) rfl ?_
 (refine Go.runL (g:=?_))
 refine GoL.sliceData rfl rfl rfl rfl rfl (by omega) ?_
 (refine Go.runL (g:=?_))
 refine GoL.unsafeStr (zs := zs) rfl rfl rfl rfl Tryz.underlying75 (by kernel_rfl) rfl rfl hg h0 (by omega) (by omega) hc (.inl (by simp [blk])) ?_
 (refine Go.runL (g:=?_))
 (refine GoL.end_ (g:=?_))
 (refine Go.run (g:=?_))
 (first|refine Go.finA rfl ?_|refine Go.finB rfl (hq:=?_))
 rfl
end Go.Proofs.YtncbbeghkpjpbaaGreatDoor
namespace Go.Proofs.YtncbbeghkpjpbaaGreatDoor
open Go.RowKit
set_option maxRecDepth 100000
attribute [local irreducible] Go GoR GoL
def halfL : List UInt8 := [48, 49, 50, 51, 52, 53, 54, 55, 56, 57, 97, 98, 99, 100, 101, 102]
def hxd (d : Nat) : UInt8 := halfL.getD d 0
theorem half_at {d : Nat} (h : d < 16) : halfL[d]? = some (hxd d) := by
 have hl : halfL.length = 16 := by decide +kernel
 unfold hxd
 rw [List.getD_eq_getElem?_getD, List.getElem?_eq_getElem (by omega)]
 rfl
def hx2 (zs : List UInt8) : List UInt8 := zs.flatMap fun z => [hxd (z.toNat / 16), hxd (z.toNat % 16)]
theorem hx2_len (zs : List UInt8) : (hx2 zs).length = 2 * zs.length := by
 induction zs with
 | nil => rfl
 | cons z zs ih => simp only [hx2, List.flatMap_cons, List.length_append, List.length_cons, List.length_nil] at *; omega
theorem hx2_snoc (zs : List UInt8) (z : UInt8) : hx2 (zs ++ [z]) = hx2 zs ++ [hxd (z.toNat / 16)] ++ [hxd (z.toNat % 16)] := by
 simp [hx2]
def hxL (zs : List UInt8) : List UInt8 := if zs.length = 0 then [45] else hx2 zs
theorem hxL_len (zs : List UInt8) : (hxL zs).length ≤ 2 * zs.length + 1 := by
 unfold hxL
 split
 · simp
 · rw [hx2_len]; omega
theorem take_snoc {α : Type} {zs : List α} {i : Nat} {z : α} (h : zs[i]? = some z) : zs.take (i + 1) = zs.take i ++ [z] := by
 rw [List.take_add_one, h]; rfl
theorem same_keeps {h H H2 : AHeap} {wr : List Nat} (s : Same h H) (k : Keeps wr H H2) (hw : ∀ i ∈ wr, h.n ≤ i) : Same h H2 := ⟨Nat.le_trans s.1 k.1, fun i hi => (k.2 i (Nat.lt_of_lt_of_le hi s.1) fun e => by have := hw i e; omega).trans (s.2 i hi)⟩
set_option maxHeartbeats 8000000 in
theorem hex_spec (a : Option Addr) (cap : Nat) (zs : List UInt8) (hl : zs.length ≤ 100000000) (h : AHeap) (hS : Rv Tryz.prog h 1 a zs.length cap (zs.map bv)) : CallS Tryz.prog [] 20 [.slice a zs.length cap] h fun v _ => v = .string ⟨(hxL zs).toArray⟩ := by
 (refine CallS.of1 Tryz.func20 rfl Tryz.ntmps20 Tryz.results20 rfl ?_)
 generalize hn : zs.length = n at *
 rcases Nat.eq_zero_or_pos n with h0 | h0
 ·
  subst h0
  (refine Go.run (g:=?_))
  (first|refine Go.finA rfl ?_|refine Go.finB rfl (hq:=?_))
  unfold hxL; rw [if_pos hn]; rfl
 ·
  (refine Go.run (g:=?_))
  refine Go.name ?_
  intro H1 eH1
  have s1 : Same h H1 := by rw [eH1]; exact (Same.refl h).push _
  have n1 : H1.n = h.n + 1 := by rw [eH1]; rfl
  have B1 : BU H1 h.n none none 0 (hx2 (zs.take 0)) := ⟨by rw [eH1]; exact AHeap.get_push_same _ _, .inl rfl, .nil, fun e => by cases e⟩
  clear eH1
  refine Go.loop (α := Nat × Option Addr × Option Addr × Nat × AHeap) (fun s => [(11, .int .i64 (s.1 : Nat)), (10, .int .i64 (n : Nat)), (9, .slice a n cap), (3, .pointer (some ⟨h.n, 0, none⟩))]) (fun _ => []) (fun s => s.2.2.2.2) (fun s => s.1 ≤ n ∧ Same h s.2.2.2.2 ∧ BU s.2.2.2.2 h.n s.2.1 s.2.2.1 s.2.2.2.1 (hx2 (zs.take s.1)) ∧ (∀ i ∈ blk s.2.2.1, h.n ≤ i) ∧ h.n < s.2.2.2.2.n) (fun s => n - s.1) (0, none, none, 0, H1) ?_ ?_ rfl rfl ?_
  · exact ⟨Nat.zero_le _, s1, B1, (fun i hi => by simp [blk] at hi), (by show h.n < H1.n; omega)⟩
  · exact ⟨rfl, rfl, rfl, rfl, trivial⟩
  rintro ⟨i, p, b, c, H⟩ ⟨e1, s, B, ow, m⟩
  simp only at e1 s B ow m ⊢
  have hln := hx2_len (zs.take i)
  rw [List.length_take, hn] at hln
  rcases Nat.lt_or_ge i n with hi | hi
  ·
   obtain ⟨z, hz⟩ : ∃ z, zs[i]? = some z := ⟨_, List.getElem?_eq_getElem (by omega)⟩
   have hz' : (zs.map bv)[i]? = some (.int .u8 (z.toNat : Nat)) := by rw [List.getElem?_map, hz]; rfl
   have hz8 : z.toNat < 256 := z.toNat_lt
   have hS' := hS.same s
   have et := hx2_snoc (zs.take i) z
   rw [← take_snoc hz] at et
   (refine Go.run (g:=?_))
   refine GoR.strAt (zs := halfL) rfl rfl rfl rfl rfl rfl (half_at (d := z.toNat / 2 ^ 4) (by omega)) ?_
   (refine Go.run (g:=?_))
   refine GoR.callW rfl rfl rfl rfl rfl rfl rfl (((writeByte_spec h.n p b c _ _ (by omega) _ B).argA).mono ?_)
   rintro _ H2 ⟨p2, b2, c2, B2, o2⟩ k2
   have w2 : ∀ i ∈ h.n :: blk b, h.n ≤ i := fun i hi => (List.mem_cons.1 hi).elim (fun e => by omega) (ow i)
   refine ⟨fun i hi => .inr (w2 i hi), ?_⟩
   have s2 := same_keeps s k2 w2
   have m2 := k2.1
   (refine Go.run (g:=?_))
   refine GoR.andN' rfl rfl rfl rfl rfl rfl (g := ?_)
   rw [show z.toNat &&& 15 = z.toNat % 16 from Nat.and_two_pow_sub_one_eq_mod _ 4]
   refine GoR.strAt (zs := halfL) rfl rfl rfl rfl rfl rfl (half_at (d := z.toNat % 16) (by omega)) ?_
   (refine Go.run (g:=?_))
   refine GoR.callW rfl rfl rfl rfl rfl rfl rfl (((writeByte_spec h.n p2 b2 c2 _ _ (by rw [List.length_append]; simp only [List.length_cons, List.length_nil]; omega) _ B2).argA).mono ?_)
   rintro _ H3 ⟨p3, b3, c3, B3, o3⟩ k3
   have ow2 : ∀ i ∈ blk b2, h.n ≤ i := fun i hi => (o2 i hi).elim (ow i) fun e => by omega
   have w3 : ∀ i ∈ h.n :: blk b2, h.n ≤ i := fun i hi => (List.mem_cons.1 hi).elim (fun e => by omega) (ow2 i)
   refine ⟨fun i hi => .inr (w3 i hi), ?_⟩
   have s3 := same_keeps s2 k3 w3
   have m3 := k3.1
   rw [show z.toNat / 2 ^ 4 = z.toNat / 16 from rfl, ← et] at B3
   (refine Go.run (g:=?_))
   refine Go.again (i + 1, p3, b3, c3, H3) ⟨(by show i + 1 ≤ n; omega), s3, B3, (fun j hj => (o3 j hj).elim (ow2 j) fun e => by omega), (by show h.n < H3.n; omega)⟩ (by show n - (i + 1) < n - i; omega) ⟨rfl, rfl, rfl, rfl, trivial⟩ rfl rfl
  ·
   obtain rfl : i = n := by omega
   rw [← hn, List.take_length] at B
   have hlz := hx2_len zs
   (refine Go.run (g:=?_))
   refine GoR.callW rfl rfl rfl rfl rfl rfl rfl (((bstring_spec h.n p b c _ (by omega) (by omega) _ B).argA).mono ?_)
   rintro _ H2 rfl k2
   refine ⟨fun i hi => .inr (ow i hi), ?_⟩
   (refine Go.run (g:=?_))
   (first|refine Go.finA rfl ?_|refine Go.finB rfl (hq:=?_))
   unfold hxL; rw [if_neg (by omega)]; rfl
set_option maxHeartbeats 8000000 in
theorem hexR_spec (a : Option Addr) (cap : Nat) (zs : List UInt8) (hl : zs.length ≤ 100000000) (h : AHeap) (hS : Rv Tryz.prog h 1 a zs.length cap (zs.map bv)) : CallS Tryz.prog [] 25 [.slice a zs.length cap] h fun v _ => v = .string ⟨(hxL zs).toArray⟩ := by
 (refine CallS.of1 Tryz.func25 rfl Tryz.ntmps25 Tryz.results25 rfl ?_)
 generalize hn : zs.length = n at *
 rcases Nat.eq_zero_or_pos n with h0 | h0
 ·
  subst h0
  (refine Go.run (g:=?_))
  (first|refine Go.finA rfl ?_|refine Go.finB rfl (hq:=?_))
  unfold hxL; rw [if_pos hn]; rfl
 ·
  (refine Go.run (g:=?_))
  refine Go.loop (α := Nat × Option Addr × Nat × AHeap) (fun s => [(5, .int .i64 (s.1 : Nat)), (4, .slice s.2.1 (2 * s.1) s.2.2.1), (3, .string ⟨halfL.toArray⟩), (0, .slice a n cap)]) (fun _ => []) (fun s => s.2.2.2) (fun s => s.1 ≤ n ∧ Same h s.2.2.2 ∧ Sv s.2.2.2 5 1 s.2.1 (2 * s.1) s.2.2.1 ((hx2 (zs.take s.1)).map bv) ∧ Own h.n s.2.1) (fun s => n - s.1) (0, none, 0, h) ?_ ?_ rfl rfl ?_
  · exact ⟨Nat.zero_le _, .refl h, .nil, .nil _⟩
  · exact ⟨rfl, rfl, rfl, rfl, trivial⟩
  rintro ⟨i, b, c, H⟩ ⟨e1, s, v, ow⟩
  simp only at e1 s v ow ⊢
  rcases Nat.lt_or_ge i n with hi | hi
  ·
   obtain ⟨z, hz⟩ : ∃ z, zs[i]? = some z := ⟨_, List.getElem?_eq_getElem (by omega)⟩
   have hz' : (zs.map bv)[i]? = some (.int .u8 (z.toNat : Nat)) := by rw [List.getElem?_map, hz]; rfl
   have hz8 : z.toNat < 256 := z.toNat_lt
   have hS' := hS.same s
   have et := hx2_snoc (zs.take i) z
   rw [← take_snoc hz] at et
   refine Go.runN (g:=?_)
   refine Go.loud (by kernel_rfl) rfl ?_
   (refine Go.runL (g:=?_))
   refine GoL.strAt (zs := halfL) rfl rfl rfl rfl rfl rfl (half_at (d := z.toNat / 16) (by omega)) ?_
   (refine Go.runL (g:=?_))
   refine GoL.strAt (zs := halfL) rfl rfl rfl rfl rfl rfl (half_at (d := z.toNat % 16) (by omega)) ?_
   (refine Go.runL (g:=?_))
   refine GoL.buildRo (c := [hxd (z.toNat / 16), hxd (z.toNat % 16)].map bv) rfl rfl rfl rfl rfl (by decide) (by rfl) (by rfl) ?_
   intro b2 h2 r2 ro2 ow2 s2 n2
   refine GoL.appendV rfl rfl rfl rfl rfl rfl (v.same s2) r2 (fun j hj => .inr (ow j hj)) (by omega) (by omega) (by simp [bv, Value.oneCell']) ?_
   intro b3 c3 h3 rd wr hwr hrd v3 k3 o3
   rw [← List.map_append, show hx2 (zs.take i) ++ [hxd (z.toNat / 16), hxd (z.toNat % 16)] = hx2 (zs.take (i + 1)) from by rw [et]; simp] at v3
   (refine Go.runL (g:=?_))
   (refine GoL.end_ (g:=?_))
   (refine Go.run (g:=?_))
   have ow3 : Own h.n b3 := fun j hj => (o3 j hj).elim (ow j) fun e => by have := s.1; have := s2.1; omega
   refine Go.again (i + 1, b3, c3, h3) ⟨(by show i + 1 ≤ n; omega), same_keeps (s.trans s2) k3 ow, v3, ow3⟩ (by show n - (i + 1) < n - i; omega) ⟨rfl, rfl, rfl, rfl, trivial⟩ rfl rfl
  ·
   obtain rfl : i = n := by omega
   rw [← hn, List.take_length] at v
   have v' := v.rv (P := Tryz.prog)
   rw [hn] at v'
   (refine Go.run (g:=?_))
   (first|refine Go.finA rfl ?_|refine Go.finB rfl (hq:=?_))
   unfold hxL; rw [if_neg (by omega)]; rfl
end Go.Proofs.YtncbbeghkpjpbaaGreatDoor
namespace Go.Proofs.YtncbbeghkpjpbaaGreatDoor
open Go.RowKit
set_option maxRecDepth 100000
attribute [local irreducible] Go GoR GoL
def unordL : List UInt8 := [32, 117, 110, 111, 114, 100, 101, 114, 101, 100]
def msgL (sid ppid : Nat) (u : Bool) (zs : List UInt8) : List UInt8 := dg sid ++ [32] ++ dg ppid ++ [32] ++ hxL zs ++ (if u then unordL else [])
theorem msg_lens {sid ppid : Nat} {zs : List UInt8} (h1 : sid < 65536) (h2 : ppid < 4294967296) (hl : zs.length ≤ 100000000) : (dg sid).length ≤ 20 ∧ (dg ppid).length ≤ 20 ∧ (hxL zs).length ≤ 200000001 := ⟨dg_len 19 sid (by omega), dg_len 19 ppid (by omega), by have := hxL_len zs; omega⟩
theorem msgL_len {sid ppid : Nat} {u : Bool} {zs : List UInt8} (h1 : sid < 65536) (h2 : ppid < 4294967296) (hl : zs.length ≤ 100000000) : (msgL sid ppid u zs).length ≤ 200000100 := by
 obtain ⟨a, b, c⟩ := msg_lens h1 h2 hl
 unfold msgL
 cases u <;> simp [unordL] <;> omega
set_option maxHeartbeats 8000000 in
theorem message_spec (sid ppid : Nat) (u : Bool) (a : Option Addr) (cap : Nat) (zs : List UInt8) (h1 : sid < 65536) (h2 : ppid < 4294967296) (hl : zs.length ≤ 100000000) (h : AHeap) (hG : Holds GH h) (hS : Rv Tryz.prog h 1 a zs.length cap (zs.map bv)) : CallS Tryz.prog [] 36 [.agg #[.int .u16 (sid : Nat), .bool u, .int .u32 (ppid : Nat), .slice a zs.length cap]] h fun v _ => v = .string ⟨(msgL sid ppid u zs).toArray⟩ := by
 obtain ⟨l1, l2, l3⟩ := msg_lens h1 h2 hl
 (refine CallS.of1 Tryz.func36 rfl Tryz.ntmps36 Tryz.results36 rfl ?_)
 (refine Go.run (g:=?_))
 have hG0 := hG.same ((Same.refl h).push (.cells [.int .u16 (sid : Nat), .bool u, .int .u32 (ppid : Nat), .slice a zs.length cap] 33))
 have hS0 := hS.same ((Same.refl h).push (.cells [.int .u16 (sid : Nat), .bool u, .int .u32 (ppid : Nat), .slice a zs.length cap] 33))
 refine GoR.call rfl rfl rfl rfl rfl rfl rfl (((itoa_spec (sid : Nat) (by omega) (by omega) _ hG0).argA).mono ?_)
 rintro _ H1 hv1 s1
 rw [dgI_nat] at hv1; subst hv1
 have g1 := s1.get (AHeap.get_push_same h (.cells [.int .u16 (sid : Nat), .bool u, .int .u32 (ppid : Nat), .slice a zs.length cap] 33))
 refine GoR.strAdd (b := [32]) rfl rfl rfl rfl rfl rfl (by simp only [List.length_cons, List.length_nil]; omega) ?_
 (refine Go.run (g:=?_))
 refine GoR.call rfl rfl rfl rfl rfl rfl rfl (((utoa_spec ppid (by omega) _ (hG0.same s1)).argA).mono ?_)
 rintro _ H2 hv2 s2
 subst hv2
 have g2 := s2.get g1
 refine GoR.strAdd rfl rfl rfl rfl rfl rfl (by simp only [List.length_append, List.length_cons, List.length_nil]; omega) ?_
 refine GoR.strAdd (b := [32]) rfl rfl rfl rfl rfl rfl (by simp only [List.length_append, List.length_cons, List.length_nil]; omega) ?_
 (refine Go.run (g:=?_))
 refine GoR.call rfl rfl rfl rfl rfl rfl rfl (((hex_spec a cap zs hl _ ((hS0.same s1).same s2)).argA).mono ?_)
 rintro _ H3 rfl s3
 have g3 := s3.get g2
 refine GoR.strAdd rfl rfl rfl rfl rfl rfl (by simp only [List.length_append, List.length_cons, List.length_nil]; omega) ?_
 cases u
 ·
  (refine Go.run (g:=?_))
  (first|refine Go.finA rfl ?_|refine Go.finB rfl (hq:=?_))
  unfold msgL; rw [if_neg (by decide), List.append_nil]; rfl
 ·
  (refine Go.run (g:=?_))
  refine GoR.strAdd (b := unordL) rfl rfl rfl rfl rfl rfl (by simp only [List.length_append, List.length_cons, List.length_nil, unordL]; omega) ?_
  (refine Go.run (g:=?_))
  (first|refine Go.finA rfl ?_|refine Go.finB rfl (hq:=?_))
  unfold msgL; rw [if_pos rfl]; rfl
set_option maxHeartbeats 8000000 in
theorem messageR_spec (sid ppid : Nat) (u : Bool) (a : Option Addr) (cap : Nat) (zs : List UInt8) (h1 : sid < 65536) (h2 : ppid < 4294967296) (hl : zs.length ≤ 100000000) (h : AHeap) (hS : Rv Tryz.prog h 1 a zs.length cap (zs.map bv)) : CallS Tryz.prog [] 38 [.agg #[.int .u16 (sid : Nat), .bool u, .int .u32 (ppid : Nat), .slice a zs.length cap]] h fun v _ => v = .string ⟨(msgL sid ppid u zs).toArray⟩ := by
 obtain ⟨l1, l2, l3⟩ := msg_lens h1 h2 hl
 (refine CallS.of1 Tryz.func38 rfl Tryz.ntmps38 Tryz.results38 rfl ?_)
 (refine Go.run (g:=?_))
 have hS0 := hS.same ((Same.refl h).push (.cells [.int .u16 (sid : Nat), .bool u, .int .u32 (ppid : Nat), .slice a zs.length cap] 33))
 refine GoR.call rfl rfl rfl rfl rfl rfl rfl (((digits_spec (sid : Nat) (by omega) (by omega) _).argA).mono ?_)
 rintro _ H1 hv1 s1
 rw [dgI_nat] at hv1; subst hv1
 have g1 := s1.get (AHeap.get_push_same h (.cells [.int .u16 (sid : Nat), .bool u, .int .u32 (ppid : Nat), .slice a zs.length cap] 33))
 refine GoR.strAdd (b := [32]) rfl rfl rfl rfl rfl rfl (by simp only [List.length_cons, List.length_nil]; omega) ?_
 (refine Go.run (g:=?_))
 refine GoR.call rfl rfl rfl rfl rfl rfl rfl (((digits_spec (ppid : Nat) (by omega) (by omega) _).argA).mono ?_)
 rintro _ H2 hv2 s2
 rw [dgI_nat] at hv2; subst hv2
 have g2 := s2.get g1
 refine GoR.strAdd rfl rfl rfl rfl rfl rfl (by simp only [List.length_append, List.length_cons, List.length_nil]; omega) ?_
 refine GoR.strAdd (b := [32]) rfl rfl rfl rfl rfl rfl (by simp only [List.length_append, List.length_cons, List.length_nil]; omega) ?_
 (refine Go.run (g:=?_))
 refine GoR.call rfl rfl rfl rfl rfl rfl rfl (((hexR_spec a cap zs hl _ ((hS0.same s1).same s2)).argA).mono ?_)
 rintro _ H3 rfl s3
 have g3 := s3.get g2
 refine GoR.strAdd rfl rfl rfl rfl rfl rfl (by simp only [List.length_append, List.length_cons, List.length_nil]; omega) ?_
 cases u
 ·
  (refine Go.run (g:=?_))
  (first|refine Go.finA rfl ?_|refine Go.finB rfl (hq:=?_))
  unfold msgL; rw [if_neg (by decide), List.append_nil]; rfl
 ·
  (refine Go.run (g:=?_))
  refine GoR.strAdd (b := unordL) rfl rfl rfl rfl rfl rfl (by simp only [List.length_append, List.length_cons, List.length_nil, unordL]; omega) ?_
  (refine Go.run (g:=?_))
  (first|refine Go.finA rfl ?_|refine Go.finB rfl (hq:=?_))
  unfold msgL; rw [if_pos rfl]; rfl
end Go.Proofs.YtncbbeghkpjpbaaGreatDoor
namespace Go.Proofs.YtncbbeghkpjpbaaGreatDoor
open Go.RowKit
set_option maxRecDepth 100000
attribute [local irreducible] Go GoR GoL
structure OpV where
 k : Nat
 id : Int
 aa : Option Addr
 ac : Nat
 ads : List Nat
 port : Nat
 sid : Nat
 un : Bool
 ppid : Nat
 da : Option Addr
 dc : Nat
 zs : List UInt8
 blk : Bool
structure MvV where
 k : Nat
 host : Nat
 n : Int
 bit : Int
 o : OpV
 fr : Nat
 to : Nat
 ba : Option Addr
 bc : Nat
 bs : List UInt8
def u32v (n : Nat) : Value := .int .u32 (n : Nat)
abbrev OpV.mv (o : OpV) : Value := .agg #[.int .u16 (o.sid : Nat), .bool o.un, .int .u32 (o.ppid : Nat), .slice o.da o.zs.length o.dc]
abbrev OpV.cs (o : OpV) : List Value := [.int .u8 (o.k : Nat), .int .i64 o.id, .slice o.aa o.ads.length o.ac, .int .u16 (o.port : Nat), .int .u16 (o.sid : Nat), .bool o.un, .int .u32 (o.ppid : Nat), .slice o.da o.zs.length o.dc, .bool o.blk]
abbrev OpV.v (o : OpV) : Value := .agg #[.int .u8 (o.k : Nat), .int .i64 o.id, .slice o.aa o.ads.length o.ac, .int .u16 (o.port : Nat), .int .u16 (o.sid : Nat), .bool o.un, .int .u32 (o.ppid : Nat), .slice o.da o.zs.length o.dc, .bool o.blk]
abbrev MvV.cs (m : MvV) : List Value := [.int .u8 (m.k : Nat), .int .u8 (m.host : Nat), .int .i64 m.n, .int .i64 m.bit, .int .u8 (m.o.k : Nat), .int .i64 m.o.id, .slice m.o.aa m.o.ads.length m.o.ac, .int .u16 (m.o.port : Nat), .int .u16 (m.o.sid : Nat), .bool m.o.un, .int .u32 (m.o.ppid : Nat), .slice m.o.da m.o.zs.length m.o.dc, .bool m.o.blk, .int .u32 (m.fr : Nat), .int .u32 (m.to : Nat), .slice m.ba m.bs.length m.bc]
abbrev MvV.v (m : MvV) : Value := .agg #[.int .u8 (m.k : Nat), .int .u8 (m.host : Nat), .int .i64 m.n, .int .i64 m.bit, .int .u8 (m.o.k : Nat), .int .i64 m.o.id, .slice m.o.aa m.o.ads.length m.o.ac, .int .u16 (m.o.port : Nat), .int .u16 (m.o.sid : Nat), .bool m.o.un, .int .u32 (m.o.ppid : Nat), .slice m.o.da m.o.zs.length m.o.dc, .bool m.o.blk, .int .u32 (m.fr : Nat), .int .u32 (m.to : Nat), .slice m.ba m.bs.length m.bc]
structure OpOk' (h : AHeap) (o : OpV) : Prop where
 k : o.k < 256
 id0 : -9223372036854775808 ≤ o.id
 id1 : o.id < 9223372036854775808
 A : Rv Tryz.prog h 1 o.aa o.ads.length o.ac (o.ads.map u32v)
 ab : ∀ x ∈ o.ads, x < 4294967296
 al : o.ads.length ≤ 2000000
 port : o.port < 65536
 sid : o.sid < 65536
 ppid : o.ppid < 4294967296
 D : Rv Tryz.prog h 1 o.da o.zs.length o.dc (o.zs.map bv)
 zl : o.zs.length ≤ 2000000
structure MvOk (h : AHeap) (m : MvV) : Prop where
 k : m.k < 256
 host : m.host < 256
 n0 : -9223372036854775808 ≤ m.n
 n1 : m.n < 9223372036854775808
 b0 : -9223372036854775808 ≤ m.bit
 b1 : m.bit < 9223372036854775808
 o : OpOk' h m.o
 fr : m.fr < 4294967296
 to : m.to < 4294967296
 B : Rv Tryz.prog h 1 m.ba m.bs.length m.bc (m.bs.map bv)
 bl : m.bs.length ≤ 2000000
theorem OpOk'.same {h h' : AHeap} {o : OpV} (x : OpOk' h o) (s : Same h h') : OpOk' h' o := ⟨x.k, x.id0, x.id1, x.A.same s, x.ab, x.al, x.port, x.sid, x.ppid, x.D.same s, x.zl⟩
theorem MvOk.same {h h' : AHeap} {m : MvV} (x : MvOk h m) (s : Same h h') : MvOk h' m := ⟨x.k, x.host, x.n0, x.n1, x.b0, x.b1, x.o.same s, x.fr, x.to, x.B.same s, x.bl⟩
def OpV.em (o : OpV) : Bool := decide (o.sid = 0) && (decide (o.ppid = 0) && (!o.un && decide (o.zs.length = 0)))
def adL (l : List Nat) : List UInt8 := l.flatMap fun a => 32 :: dg a
def conL : List UInt8 := [99, 111, 110, 110, 101, 99, 116, 32]
def sendL : List UInt8 := [115, 101, 110, 100, 32]
def kwL : Nat → List UInt8
 | 3 => [114, 101, 99, 118]
 | 4 => [115, 104, 117, 116, 100, 111, 119, 110]
 | 5 => [97, 98, 111, 114, 116]
 | 6 => [112, 101, 101, 108, 111, 102, 102]
 | _ => []
def mwL : Nat → List UInt8
 | 2 => [112, 105, 99, 107]
 | 3 => [100, 101, 108, 105, 118, 101, 114]
 | 4 => [100, 114, 111, 112]
 | 5 => [116, 119, 105, 99, 101]
 | 6 => [116, 117, 114, 110]
 | 8 => [116, 105, 99, 107]
 | _ => []
def opX (k : Nat) (id : Int) (ads : List Nat) (port sid ppid : Nat) (un : Bool) (zs : List UInt8) (em : Bool) : List UInt8 :=
 if k = 1 then (if id = 0 ∧ em = true then conL ++ dg port ++ adL ads else [])
 else if k = 2 then (if port = 0 ∧ ads.length = 0 then sendL ++ dgI id ++ [32] ++ msgL sid ppid un zs else [])
 else if port ≠ 0 ∨ ads.length ≠ 0 ∨ em = false then []
 else if k = 3 ∨ k = 4 ∨ k = 5 ∨ k = 6 then kwL k ++ [32] ++ dgI id
 else if id ≠ 0 then []
 else if k = 7 then [99, 108, 111, 115, 101]
 else if k = 8 then [110, 111, 116, 101]
 else []
def opL (o : OpV) : List UInt8 := opX o.k o.id o.ads o.port o.sid o.ppid o.un o.zs o.em
def MvV.quiet (m : MvV) : Bool := decide (m.o.k = 0) && (decide (m.o.id = 0) && (decide (m.o.ads.length = 0) && (decide (m.o.port = 0) && (m.o.em && !m.o.blk))))
def MvV.still (m : MvV) : Bool := decide (m.fr = 0) && (decide (m.to = 0) && decide (m.bs.length = 0))
def callL : List UInt8 := [99, 97, 108, 108, 32]
def blockL : List UInt8 := [32, 98, 108, 111, 99, 107]
def injL : List UInt8 := [105, 110, 106, 101, 99, 116, 32]
def lineL (m : MvV) : List UInt8 :=
 if m.k = 1 then (if m.host ≤ 1 ∧ m.still = true ∧ m.n = 0 ∧ m.bit = 0 ∧ opL m.o ≠ [] then callL ++ dg m.host ++ (if m.o.blk then blockL else []) ++ [32] ++ opL m.o else [])
 else if m.host ≠ 0 ∨ m.quiet = false then []
 else if m.k = 7 then (if m.n = 0 ∧ m.bit = 0 then injL ++ dg m.fr ++ [32] ++ dg m.to ++ [32] ++ hxL m.bs else [])
 else if m.still = false ∨ (m.k ≠ 6 ∧ m.bit ≠ 0) then []
 else if m.k = 6 then mwL 6 ++ [32] ++ dgI m.n ++ [32] ++ dgI m.bit
 else if m.k = 2 ∨ m.k = 3 ∨ m.k = 4 ∨ m.k = 5 ∨ m.k = 8 then mwL m.k ++ [32] ++ dgI m.n
 else []
set_option maxHeartbeats 4000000 in
theorem empty_spec (o : OpV) (h : AHeap) : CallS Tryz.prog [] 15 [o.mv] h fun v _ => v = .bool o.em := by
 unfold OpV.mv OpV.em
 generalize o.sid = a, o.ppid = b, o.un = c, o.zs.length = d, o.da = e, o.dc = g
 (refine CallS.of1 Tryz.func15 rfl Tryz.ntmps15 Tryz.results15 rfl ?_)
 by_cases h1 : a = 0
 ·
  subst h1
  by_cases h2 : b = 0
  ·
   subst h2
   cases c
   ·
    (refine Go.run (g:=?_))
    (first|refine Go.finA rfl ?_|refine Go.finB rfl (hq:=?_))
    show Value.bool (decide ((d : Int) = 0)) = Value.bool _
    congr 1; simp
   ·
    (refine Go.run (g:=?_))
    (first|refine Go.finA rfl ?_|refine Go.finB rfl (hq:=?_))
    rfl
  ·
   (refine Go.run (g:=?_))
   (first|refine Go.finA rfl ?_|refine Go.finB rfl (hq:=?_))
   simp [h2]; rfl
 ·
  (refine Go.run (g:=?_))
  (first|refine Go.finA rfl ?_|refine Go.finB rfl (hq:=?_))
  simp [h1]; rfl
set_option maxHeartbeats 4000000 in
theorem none_spec (o : OpV) (h : AHeap) : CallS Tryz.prog [] 22 [o.mv] h fun v _ => v = .bool o.em := by
 unfold OpV.mv OpV.em
 generalize o.sid = a, o.ppid = b, o.un = c, o.zs.length = d, o.da = e, o.dc = g
 (refine CallS.of1 Tryz.func22 rfl Tryz.ntmps22 Tryz.results22 rfl ?_)
 by_cases h1 : a = 0
 ·
  subst h1
  by_cases h2 : b = 0
  ·
   subst h2
   cases c
   ·
    (refine Go.run (g:=?_))
    (first|refine Go.finA rfl ?_|refine Go.finB rfl (hq:=?_))
    show Value.bool (decide ((d : Int) = 0)) = Value.bool _
    congr 1; simp
   ·
    (refine Go.run (g:=?_))
    (first|refine Go.finA rfl ?_|refine Go.finB rfl (hq:=?_))
    rfl
  ·
   (refine Go.run (g:=?_))
   (first|refine Go.finA rfl ?_|refine Go.finB rfl (hq:=?_))
   simp [h2]; rfl
 ·
  (refine Go.run (g:=?_))
  (first|refine Go.finA rfl ?_|refine Go.finB rfl (hq:=?_))
  simp [h1]; rfl
theorem nothing_spec (m : MvV) (h : AHeap) : CallS Tryz.prog [] 16 [.agg #[.int .u32 (m.fr : Nat), .int .u32 (m.to : Nat), .slice m.ba m.bs.length m.bc]] h fun v _ => v = .bool m.still := by
 unfold MvV.still
 generalize m.fr = a, m.to = b, m.bs.length = d, m.ba = e, m.bc = g
 (refine CallS.of1 Tryz.func16 rfl Tryz.ntmps16 Tryz.results16 rfl ?_)
 by_cases h1 : a = 0
 ·
  subst h1
  by_cases h2 : b = 0
  ·
   subst h2
   (refine Go.run (g:=?_))
   (first|refine Go.finA rfl ?_|refine Go.finB rfl (hq:=?_))
   show Value.bool (decide ((d : Int) = 0)) = Value.bool _
   congr 1; simp
  ·
   (refine Go.run (g:=?_))
   (first|refine Go.finA rfl ?_|refine Go.finB rfl (hq:=?_))
   simp [h2]; rfl
 ·
  (refine Go.run (g:=?_))
  (first|refine Go.finA rfl ?_|refine Go.finB rfl (hq:=?_))
  simp [h1]; rfl
def stv (l : List UInt8) : Value := .string ⟨l.toArray⟩
def someV : Value → AHeap → List Nat → Option Value := fun v _ _ => some v
def movesV : Value := .agg #[stv (mwL 0), stv (mwL 1), stv (mwL 2), stv (mwL 3), stv (mwL 4), stv (mwL 5), stv (mwL 6), stv (mwL 7), stv (mwL 8)]
def callsV : Value := .agg #[stv (kwL 0), stv (kwL 1), stv (kwL 2), stv (kwL 3), stv (kwL 4), stv (kwL 5), stv (kwL 6), stv (kwL 7), stv (kwL 8)]
theorem movesRun : callK (A := Value) Tryz.prog strOn (fev Tryz.prog strOn 5000) 18 [] GH someV = some movesV := by kernel_rfl
theorem callsRun : callK (A := Value) Tryz.prog strOn (fev Tryz.prog strOn 5000) 37 [] GH someV = some callsV := by kernel_rfl
theorem moves_spec (h : AHeap) (hG : Holds GH h) : CallS Tryz.prog [] 18 [] h fun v h' => v = movesV ∧ h' = h := by
 obtain ⟨v, h', wr, hc, he⟩ := callRun_of strOn_ok movesRun
 obtain rfl : v = movesV := Option.some.inj he
 exact CallS.knownG GH_flat GH_size hc rfl h hG
theorem calls_spec' (h : AHeap) (hG : Holds GH h) : CallS Tryz.prog [] 37 [] h fun v h' => v = callsV ∧ h' = h := by
 obtain ⟨v, h', wr, hc, he⟩ := callRun_of strOn_ok callsRun
 obtain rfl : v = callsV := Option.some.inj he
 exact CallS.knownG GH_flat GH_size hc rfl h hG
end Go.Proofs.YtncbbeghkpjpbaaGreatDoor
namespace Go.Proofs.YtncbbeghkpjpbaaGreatDoor
open Go.RowKit
set_option maxRecDepth 100000
attribute [local irreducible] Go GoR GoL
theorem adL_len (l : List Nat) (hl : ∀ x ∈ l, x < 4294967296) : (adL l).length ≤ 21 * l.length := by
 induction l with
 | nil => simp [adL]
 | cons a l ih =>
  have h1 := dg_len 19 a (by have := hl a (List.mem_cons_self ..); omega)
  have h2 := ih fun x hx => hl x (List.mem_cons_of_mem _ hx)
  simp only [adL, List.flatMap_cons, List.length_append, List.length_cons] at *
  omega
theorem adL_snoc (l : List Nat) (a : Nat) : adL (l ++ [a]) = adL l ++ ([32] ++ dg a) := by simp [adL]
theorem dgI_len {x : Int} (h0 : -9223372036854775808 ≤ x) (h1 : x < 9223372036854775808) : (dgI x).length ≤ 21 := by
 unfold dgI
 split
 · have := dg_len 19 (-x).toNat (by omega); simp; omega
 · have := dg_len 19 x.toNat (by omega); omega
theorem opL_len {h : AHeap} {o : OpV} (ok : OpOk' h o) : (opL o).length ≤ 300000000 := by
 have l1 := dgI_len ok.id0 ok.id1
 have l2 := dg_len 19 o.port (by have := ok.port; omega)
 have l3 := adL_len o.ads ok.ab
 have l4 := msgL_len (u := o.un) ok.sid ok.ppid (zs := o.zs) (by have := ok.zl; omega)
 have l5 := ok.al
 have l6 : (kwL o.k).length ≤ 8 := by unfold kwL; split <;> simp
 unfold opL opX
 (repeat' split) <;> simp only [List.length_append, List.length_cons, List.length_nil, conL, sendL] <;> omega
theorem fin_none {L : List UInt8} (h : L = []) : retV [Value.string ⟨#[]⟩, .bool false] = .tuple #[stv L, .bool (decide (L ≠ []))] := by subst h; rfl
theorem fin_some {L X : List UInt8} (h : L = X) (hx : 0 < X.length) : retV [Value.string ⟨X.toArray⟩, .bool true] = .tuple #[stv L, .bool (decide (L ≠ []))] := by
 subst h
 have e : decide (L ≠ []) = true := decide_eq_true (fun e => by rw [e] at hx; exact absurd hx (Nat.lt_irrefl 0))
 rw [e]
 rfl
theorem idxc0 : aIndex Tryz.prog 59 callsV (.int .u8 ((0 : Nat) : Int)) = some (stv (kwL 0)) := by kernel_rfl
theorem idxc1 : aIndex Tryz.prog 59 callsV (.int .u8 ((1 : Nat) : Int)) = some (stv (kwL 1)) := by kernel_rfl
theorem idxc2 : aIndex Tryz.prog 59 callsV (.int .u8 ((2 : Nat) : Int)) = some (stv (kwL 2)) := by kernel_rfl
theorem idxc3 : aIndex Tryz.prog 59 callsV (.int .u8 ((3 : Nat) : Int)) = some (stv (kwL 3)) := by kernel_rfl
theorem idxc4 : aIndex Tryz.prog 59 callsV (.int .u8 ((4 : Nat) : Int)) = some (stv (kwL 4)) := by kernel_rfl
theorem idxc5 : aIndex Tryz.prog 59 callsV (.int .u8 ((5 : Nat) : Int)) = some (stv (kwL 5)) := by kernel_rfl
theorem idxc6 : aIndex Tryz.prog 59 callsV (.int .u8 ((6 : Nat) : Int)) = some (stv (kwL 6)) := by kernel_rfl
theorem idxc7 : aIndex Tryz.prog 59 callsV (.int .u8 ((7 : Nat) : Int)) = some (stv (kwL 7)) := by kernel_rfl
theorem idxc8 : aIndex Tryz.prog 59 callsV (.int .u8 ((8 : Nat) : Int)) = some (stv (kwL 8)) := by kernel_rfl
theorem idxm0 : aIndex Tryz.prog 59 movesV (.int .u8 ((0 : Nat) : Int)) = some (stv (mwL 0)) := by kernel_rfl
theorem idxm1 : aIndex Tryz.prog 59 movesV (.int .u8 ((1 : Nat) : Int)) = some (stv (mwL 1)) := by kernel_rfl
theorem idxm2 : aIndex Tryz.prog 59 movesV (.int .u8 ((2 : Nat) : Int)) = some (stv (mwL 2)) := by kernel_rfl
theorem idxm3 : aIndex Tryz.prog 59 movesV (.int .u8 ((3 : Nat) : Int)) = some (stv (mwL 3)) := by kernel_rfl
theorem idxm4 : aIndex Tryz.prog 59 movesV (.int .u8 ((4 : Nat) : Int)) = some (stv (mwL 4)) := by kernel_rfl
theorem idxm5 : aIndex Tryz.prog 59 movesV (.int .u8 ((5 : Nat) : Int)) = some (stv (mwL 5)) := by kernel_rfl
theorem idxm6 : aIndex Tryz.prog 59 movesV (.int .u8 ((6 : Nat) : Int)) = some (stv (mwL 6)) := by kernel_rfl
theorem idxm7 : aIndex Tryz.prog 59 movesV (.int .u8 ((7 : Nat) : Int)) = some (stv (mwL 7)) := by kernel_rfl
theorem idxm8 : aIndex Tryz.prog 59 movesV (.int .u8 ((8 : Nat) : Int)) = some (stv (mwL 8)) := by kernel_rfl
theorem idx_calls {k : Nat} (h : k ≤ 8) : aIndex Tryz.prog 59 callsV (.int .u8 (k : Nat)) = some (stv (kwL k)) := by
 have : k = 0 ∨ k = 1 ∨ k = 2 ∨ k = 3 ∨ k = 4 ∨ k = 5 ∨ k = 6 ∨ k = 7 ∨ k = 8 := by omega
 rcases this with rfl | rfl | rfl | rfl | rfl | rfl | rfl | rfl | rfl
 · exact idxc0
 · exact idxc1
 · exact idxc2
 · exact idxc3
 · exact idxc4
 · exact idxc5
 · exact idxc6
 · exact idxc7
 · exact idxc8
theorem idx_moves {k : Nat} (h : k ≤ 8) : aIndex Tryz.prog 59 movesV (.int .u8 (k : Nat)) = some (stv (mwL k)) := by
 have : k = 0 ∨ k = 1 ∨ k = 2 ∨ k = 3 ∨ k = 4 ∨ k = 5 ∨ k = 6 ∨ k = 7 ∨ k = 8 := by omega
 rcases this with rfl | rfl | rfl | rfl | rfl | rfl | rfl | rfl | rfl
 · exact idxm0
 · exact idxm1
 · exact idxm2
 · exact idxm3
 · exact idxm4
 · exact idxm5
 · exact idxm6
 · exact idxm7
 · exact idxm8
set_option maxHeartbeats 16000000 in
theorem call_spec (o : OpV) (h : AHeap) (hG : Holds GH h) (ok : OpOk' h o) : CallS Tryz.prog [] 21 [o.v] h fun v _ => v = .tuple #[stv (opL o), .bool (decide (opL o ≠ []))] := by
 have he := empty_spec o
 obtain ⟨k, id, aa, ac, ads, port, sid, un, ppid, da, dc, zs, bk⟩ := o
 obtain ⟨hk, id0, id1, hA, hab, hal, hport, hsid, hppid, hD, hzl⟩ := ok
 simp only at hk id0 id1 hA hab hal hport hsid hppid hD hzl
 have lid := dgI_len id0 id1
 have lpo := dg_len 19 port (by omega)
 have lms := msgL_len (u := un) hsid hppid (zs := zs) (by omega)
 generalize hem : OpV.em _ = em at he
 dsimp only [OpV.v, OpV.mv] at he ⊢
 (refine CallS.of1 Tryz.func21 rfl Tryz.ntmps21 Tryz.results21 rfl ?_)
 refine Go.runN (g:=?_)
 refine Go.name ?_
 intro H0 e0
 have g0 : H0.get h.n = some (.cells [.int .u8 (k : Nat), .int .i64 id, .slice aa ads.length ac, .int .u16 (port : Nat), .int .u16 (sid : Nat), .bool un, .int .u32 (ppid : Nat), .slice da zs.length dc, .bool bk] 35) := by rw [e0]; exact AHeap.get_push_same _ _
 have s0 : Same h H0 := by rw [e0]; exact (Same.refl h).push _
 have n0 : H0.n = h.n + 1 := by rw [e0]; rfl
 clear e0
 have hG0 := hG.same s0
 have hA0 := hA.same s0
 have hD0 := hD.same s0
 clear hG hA hD
 unfold opL
 dsimp only
 rw [hem]
 by_cases k1 : k = 1
 ·
  subst k1
  (refine Go.run (g:=?_))
  refine GoR.call rfl rfl rfl rfl rfl rfl rfl (((he _).argA).mono ?_)
  rintro _ H1 rfl s1
  have g1 := s1.get g0
  cases em
  ·
   (refine Go.run (g:=?_))
   (first|refine Go.finA rfl ?_|refine Go.finB rfl (hq:=?_))
   exact fin_none (by simp [opX])
  ·
   (refine Go.run (g:=?_))
   refine GoR.call rfl rfl rfl rfl rfl rfl rfl (((itoa_spec id id0 id1 _ (hG0.same s1)).argA).mono ?_)
   rintro _ H2 rfl s2
   have g2 := s2.get g1
   refine GoR.strAdd (a := [32]) rfl rfl rfl rfl rfl rfl (by simp only [List.length_cons, List.length_nil]; omega) ?_
   by_cases hid : id = 0
   ·
    subst hid
    (refine Go.run (g:=?_))
    refine GoR.call rfl rfl rfl rfl rfl rfl rfl (((itoa_spec (port : Nat) (by omega) (by omega) _ ((hG0.same s1).same s2)).argA).mono ?_)
    rintro _ H3 hv3 s3
    rw [dgI_nat] at hv3; subst hv3
    have g3 := s3.get g2
    have hG3 := ((hG0.same s1).same s2).same s3
    have hA3 := ((hA0.same s1).same s2).same s3
    refine GoR.strAdd (a := conL) rfl rfl rfl rfl rfl rfl (by simp only [List.length_cons, List.length_nil, conL]; omega) ?_
    (refine Go.run (g:=?_))
    refine Go.loop (α := Nat × AHeap) (fun s => [(81, .int .i64 (s.1 : Nat)), (80, .int .i64 (ads.length : Nat)), (79, .slice aa ads.length ac), (7, .string ⟨(conL ++ dg port ++ adL (ads.take s.1)).toArray⟩)]) (fun _ => []) (fun s => s.2) (fun s => s.1 ≤ ads.length ∧ Same H3 s.2) (fun s => ads.length - s.1) (0, H3) ?_ ?_ rfl rfl ?_
    · exact ⟨Nat.zero_le _, .refl _⟩
    ·
     refine ⟨rfl, rfl, rfl, ?_, trivial⟩
     show some _ = some (Value.string ⟨(conL ++ dg port ++ []).toArray⟩)
     rw [List.append_nil]
    rintro ⟨i, H⟩ ⟨e1, s⟩
    simp only at e1 s ⊢
    rcases Nat.lt_or_ge i ads.length with hi | hi
    ·
     obtain ⟨x, hx⟩ : ∃ x, ads[i]? = some x := ⟨_, List.getElem?_eq_getElem hi⟩
     have hx' : (ads.map u32v)[i]? = some (.int .u32 (x : Nat)) := by rw [List.getElem?_map, hx]; rfl
     have hxb := hab x (List.mem_of_getElem? hx)
     have hA' := hA3.same s
     have et : adL (ads.take (i + 1)) = adL (ads.take i) ++ ([32] ++ dg x) := by rw [take_snoc hx, adL_snoc]
     have l1 := adL_len (ads.take i) fun y hy => hab y (List.mem_of_mem_take hy)
     have l2 : (ads.take i).length ≤ ads.length := List.length_take_le' ..
     have l3 := dg_len 19 x (by omega)
     (refine Go.run (g:=?_))
     refine GoR.call rfl rfl rfl rfl rfl rfl rfl (((utoa_spec x (by omega) _ (hG3.same s)).argA).mono ?_)
     rintro _ H4 rfl s4
     refine GoR.strAdd (a := [32]) rfl rfl rfl rfl rfl rfl (by simp only [List.length_cons, List.length_nil]; omega) ?_
     refine GoR.strAdd rfl rfl rfl rfl rfl rfl (by simp only [List.length_append, List.length_cons, List.length_nil, conL]; omega) ?_
     rw [List.append_assoc (conL ++ dg port), ← et]
     (refine Go.run (g:=?_))
     refine Go.again (i + 1, H4) ⟨(by show i + 1 ≤ _; omega), s.trans s4⟩ (by show ads.length - (i + 1) < ads.length - i; omega) ⟨rfl, rfl, rfl, rfl, trivial⟩ rfl rfl
    ·
     obtain rfl : i = ads.length := by omega
     rw [List.take_length]
     (refine Go.run (g:=?_))
     (first|refine Go.finA rfl ?_|refine Go.finB rfl (hq:=?_))
     exact fin_some (by simp [opX]) (by simp [conL])
   ·
    (refine Go.run (g:=?_))
    (first|refine Go.finA rfl ?_|refine Go.finB rfl (hq:=?_))
    exact fin_none (by simp [opX, hid])
 by_cases k2 : k = 2
 ·
  subst k2
  by_cases hp : port = 0
  ·
   subst hp
   by_cases hl : ads.length = 0
   ·
    (refine Go.run (g:=?_))
    refine GoR.call rfl rfl rfl rfl rfl rfl rfl (((itoa_spec id id0 id1 _ hG0).argA).mono ?_)
    rintro _ H2 rfl s2
    have g2 := s2.get g0
    refine GoR.strAdd (a := [32]) rfl rfl rfl rfl rfl rfl (by simp only [List.length_cons, List.length_nil]; omega) ?_
    (refine Go.run (g:=?_))
    refine GoR.strAdd (a := [115, 101, 110, 100]) rfl rfl rfl rfl rfl rfl (by simp only [List.length_append, List.length_cons, List.length_nil]; omega) ?_
    refine GoR.strAdd (b := [32]) rfl rfl rfl rfl rfl rfl (by simp only [List.length_append, List.length_cons, List.length_nil]; omega) ?_
    (refine Go.run (g:=?_))
    refine GoR.call rfl rfl rfl rfl rfl rfl rfl (((message_spec sid ppid un da dc zs hsid hppid (by omega) _ (hG0.same s2) (hD0.same s2)).argA).mono ?_)
    rintro _ H3 rfl s3
    refine GoR.strAdd rfl rfl rfl rfl rfl rfl (by simp only [List.length_append, List.length_cons, List.length_nil]; omega) ?_
    (refine Go.run (g:=?_))
    (first|refine Go.finA rfl ?_|refine Go.finB rfl (hq:=?_))
    exact fin_some (by simp [opX, hl, sendL]) (by simp)
   ·
    (refine Go.run (g:=?_))
    (first|refine Go.finA rfl ?_|refine Go.finB rfl (hq:=?_))
    exact fin_none (by simp [opX, hl])
  ·
   (refine Go.run (g:=?_))
   (first|refine Go.finA rfl ?_|refine Go.finB rfl (hq:=?_))
   exact fin_none (by simp [opX, hp])
 by_cases hp : port = 0
 case neg =>
  (refine Go.run (g:=?_))
  (first|refine Go.finA rfl ?_|refine Go.finB rfl (hq:=?_))
  exact fin_none (by simp [opX, k1, k2, hp])
 subst hp
 by_cases hl : ads.length = 0
 case neg =>
  (refine Go.run (g:=?_))
  (first|refine Go.finA rfl ?_|refine Go.finB rfl (hq:=?_))
  exact fin_none (by simp [opX, k1, k2, hl])
 (refine Go.run (g:=?_))
 refine GoR.call rfl rfl rfl rfl rfl rfl rfl (((he _).argA).mono ?_)
 rintro _ H1 rfl s1
 have g1 := s1.get g0
 cases em
 ·
  (refine Go.run (g:=?_))
  (first|refine Go.finA rfl ?_|refine Go.finB rfl (hq:=?_))
  exact fin_none (by simp [opX, k1, k2])
 (refine Go.run (g:=?_))
 refine GoR.call rfl rfl rfl rfl rfl rfl rfl (((itoa_spec id id0 id1 _ (hG0.same s1)).argA).mono ?_)
 rintro _ H2 rfl s2
 have g2 := s2.get g1
 have hG2 := (hG0.same s1).same s2
 refine GoR.strAdd (a := [32]) rfl rfl rfl rfl rfl rfl (by simp only [List.length_cons, List.length_nil]; omega) ?_
 by_cases k3 : 3 ≤ k ∧ k ≤ 6
 ·
  obtain ⟨k3, k6⟩ := k3
  have hkw : (kwL k).length ≤ 8 := by unfold kwL; split <;> simp
  (refine Go.run (g:=?_))
  refine GoR.call rfl rfl rfl rfl rfl rfl rfl (((calls_spec' _ hG2).argA).mono ?_)
  rintro _ H3 ⟨rfl, rfl⟩ s3
  clear s3
  (refine Go.run (g:=?_))
  refine GoR.index rfl rfl rfl rfl rfl rfl (idx_calls (k := k) (by omega)) ?_
  (refine Go.run (g:=?_))
  refine GoR.strAdd (a := kwL k) rfl rfl rfl rfl rfl rfl (by simp only [List.length_append, List.length_cons, List.length_nil]; omega) ?_
  (refine Go.run (g:=?_))
  (first|refine Go.finA rfl ?_|refine Go.finB rfl (hq:=?_))
  exact fin_some (by unfold opX; rw [if_neg k1, if_neg k2, if_neg (by simp [hl]), if_pos (by omega), List.append_assoc]) (by simp; omega)
 have kk : k < 3 ∨ 7 ≤ k := by omega
 by_cases hid : id = 0
 case neg =>
  have e : opX k id ads 0 sid ppid un zs true = [] := by unfold opX; rw [if_neg k1, if_neg k2, if_neg (by simp [hl]), if_neg (by omega), if_pos hid]
  rcases kk with kk | kk
  ·
   (refine Go.run (g:=?_))
   (first|refine Go.finA rfl ?_|refine Go.finB rfl (hq:=?_))
   exact fin_none e
  ·
   (refine Go.run (g:=?_))
   (first|refine Go.finA rfl ?_|refine Go.finB rfl (hq:=?_))
   exact fin_none e
 subst hid
 rcases kk with kk | kk
 ·
  (refine Go.run (g:=?_))
  (first|refine Go.finA rfl ?_|refine Go.finB rfl (hq:=?_))
  exact fin_none (by unfold opX; rw [if_neg k1, if_neg k2, if_neg (by simp [hl]), if_neg (by omega), if_neg (by simp), if_neg (by omega), if_neg (by omega)])
 by_cases k7 : k = 7
 ·
  subst k7
  (refine Go.run (g:=?_))
  (first|refine Go.finA rfl ?_|refine Go.finB rfl (hq:=?_))
  exact fin_some (X := [99, 108, 111, 115, 101]) (by simp [opX, hl]) (by simp)
 by_cases k8 : k = 8
 ·
  subst k8
  (refine Go.run (g:=?_))
  (first|refine Go.finA rfl ?_|refine Go.finB rfl (hq:=?_))
  exact fin_some (X := [110, 111, 116, 101]) (by simp [opX, hl]) (by simp)
 (refine Go.run (g:=?_))
 (first|refine Go.finA rfl ?_|refine Go.finB rfl (hq:=?_))
 exact fin_none (by unfold opX; rw [if_neg k1, if_neg k2, if_neg (by simp [hl]), if_neg (by omega), if_neg (by simp), if_neg k7, if_neg k8])
end Go.Proofs.YtncbbeghkpjpbaaGreatDoor
namespace Go.Proofs.YtncbbeghkpjpbaaGreatDoor
open Go.RowKit
set_option maxRecDepth 100000
attribute [local irreducible] Go GoR GoL
theorem fin_str {L X : List UInt8} (h : L = X) : Value.string ⟨X.toArray⟩ = stv L := by subst h; rfl
set_option maxHeartbeats 16000000 in
theorem refOp_spec (o : OpV) (h : AHeap) (ok : OpOk' h o) : CallS Tryz.prog [] 23 [o.v] h fun v _ => v = stv (opL o) := by
 have he := none_spec o
 obtain ⟨k, id, aa, ac, ads, port, sid, un, ppid, da, dc, zs, bk⟩ := o
 obtain ⟨hk, id0, id1, hA, hab, hal, hport, hsid, hppid, hD, hzl⟩ := ok
 simp only at hk id0 id1 hA hab hal hport hsid hppid hD hzl
 have lid := dgI_len id0 id1
 have lpo := dg_len 19 port (by omega)
 have lms := msgL_len (u := un) hsid hppid (zs := zs) (by omega)
 generalize hem : OpV.em _ = em at he
 dsimp only [OpV.v, OpV.mv] at he ⊢
 (refine CallS.of1 Tryz.func23 rfl Tryz.ntmps23 Tryz.results23 rfl ?_)
 (iterate 6 (refine Go.one (g:=?_)))
 refine Go.name ?_
 intro Hb eb
 have gb : Hb.get h.n = some (.cells [.int .u8 (k : Nat), .int .i64 id, .slice aa ads.length ac, .int .u16 (port : Nat), .int .u16 (sid : Nat), .bool un, .int .u32 (ppid : Nat), .slice da zs.length dc, .bool bk] 35) := by rw [eb]; exact AHeap.get_push_same _ _
 have sb : Same h Hb := by rw [eb]; exact (Same.refl h).push _
 clear eb
 refine Go.join1 (α := AHeap) (fun _ => [(1, .pointer (some ⟨h.n, 0, none⟩)), (3, .bool (decide (port = 0) && (decide (ads.length = 0) && em)))]) (fun _ => []) (fun H => H) (fun H => Same h H ∧ H.get h.n = some (.cells [.int .u8 (k : Nat), .int .i64 id, .slice aa ads.length ac, .int .u16 (port : Nat), .int .u16 (sid : Nat), .bool un, .int .u32 (ppid : Nat), .slice da zs.length dc, .bool bk] 35)) ?_ ?_
 ·
  by_cases hp : port = 0
  ·
   subst hp
   by_cases hl : ads.length = 0
   ·
    (refine Go.run (g:=?_))
    refine GoR.call rfl rfl rfl rfl rfl rfl rfl (((he _).argA).mono ?_)
    rintro _ H1 rfl s1
    have g1 := s1.get gb
    (refine Go.run (g:=?_))
    exact Go.joined H1 ⟨sb.trans s1, g1⟩ ⟨rfl, (by simp [hl]; rfl), trivial⟩ rfl rfl
   ·
    have hz : decide ((ads.length : Int) = 0) = !true := decide_eq_false (by omega)
    (refine Go.run (g:=?_))
    exact Go.joined Hb ⟨sb, gb⟩ ⟨rfl, (by simp [hl]; rfl), trivial⟩ rfl rfl
  ·
   (refine Go.run (g:=?_))
   exact Go.joined Hb ⟨sb, gb⟩ ⟨rfl, (by simp [hp]; rfl), trivial⟩ rfl rfl
 rintro H0 ⟨s0, g0⟩
 have hA0 := hA.same s0
 have hD0 := hD.same s0
 clear hA hD
 unfold opL
 dsimp only
 rw [hem]
 (refine Go.run (g:=?_))
 refine GoR.call rfl rfl rfl rfl rfl rfl rfl (((digits_spec id id0 id1 _).argA).mono ?_)
 rintro _ H2 rfl s2
 have g2 := s2.get g0
 have hA2 := hA0.same s2
 have hD2 := hD0.same s2
 clear hA0 hD0 g0
 by_cases k1 : k = 1
 ·
  subst k1
  by_cases hid : id = 0
  case neg =>
   (refine Go.run (g:=?_))
   (first|refine Go.finA rfl ?_|refine Go.finB rfl (hq:=?_))
   exact fin_str (by simp [opX, hid])
  subst hid
  (refine Go.run (g:=?_))
  refine GoR.call rfl rfl rfl rfl rfl rfl rfl (((he _).argA).mono ?_)
  rintro _ H3 rfl s3
  have g3 := s3.get g2
  have hA3 := hA2.same s3
  cases em
  ·
   (refine Go.run (g:=?_))
   (first|refine Go.finA rfl ?_|refine Go.finB rfl (hq:=?_))
   exact fin_str (by simp [opX])
  (refine Go.run (g:=?_))
  refine GoR.call rfl rfl rfl rfl rfl rfl rfl (((digits_spec (port : Nat) (by omega) (by omega) _).argA).mono ?_)
  rintro _ H4 hv4 s4
  rw [dgI_nat] at hv4; subst hv4
  have g4 := s4.get g3
  have hA4 := hA3.same s4
  refine GoR.strAdd (a := conL) rfl rfl rfl rfl rfl rfl (by simp only [List.length_cons, List.length_nil, conL]; omega) ?_
  (refine Go.run (g:=?_))
  refine Go.loop (α := Nat × AHeap) (fun s => [(1, .pointer (some ⟨h.n, 0, none⟩)), (6, .int .i64 (s.1 : Nat)), (5, .string ⟨(conL ++ dg port ++ adL (ads.take s.1)).toArray⟩)]) (fun _ => []) (fun s => s.2) (fun s => s.1 ≤ ads.length ∧ Same H4 s.2) (fun s => ads.length - s.1) (0, H4) ?_ ?_ rfl rfl ?_
  · exact ⟨Nat.zero_le _, .refl _⟩
  ·
   refine ⟨rfl, rfl, ?_, trivial⟩
   show some _ = some (Value.string ⟨(conL ++ dg port ++ []).toArray⟩)
   rw [List.append_nil]
  rintro ⟨i, H⟩ ⟨e1, s⟩
  simp only at e1 s ⊢
  have g5 := s.get g4
  rcases Nat.lt_or_ge i ads.length with hi | hi
  ·
   obtain ⟨x, hx⟩ : ∃ x, ads[i]? = some x := ⟨_, List.getElem?_eq_getElem hi⟩
   have hx' : (ads.map u32v)[i]? = some (.int .u32 (x : Nat)) := by rw [List.getElem?_map, hx]; rfl
   have hxb := hab x (List.mem_of_getElem? hx)
   have hA' := hA4.same s
   have et : adL (ads.take (i + 1)) = adL (ads.take i) ++ ([32] ++ dg x) := by rw [take_snoc hx, adL_snoc]
   have l1 := adL_len (ads.take i) fun y hy => hab y (List.mem_of_mem_take hy)
   have l2 : (ads.take i).length ≤ ads.length := List.length_take_le' ..
   have l3 := dg_len 19 x (by omega)
   (refine Go.run (g:=?_))
   refine GoR.strAdd (b := [32]) rfl rfl rfl rfl rfl rfl (by simp only [List.length_append, List.length_cons, List.length_nil, conL]; omega) ?_
   (refine Go.run (g:=?_))
   refine GoR.call rfl rfl rfl rfl rfl rfl rfl (((digits_spec (x : Nat) (by omega) (by omega) _).argA).mono ?_)
   rintro _ H6 hv6 s6
   rw [dgI_nat] at hv6; subst hv6
   refine GoR.strAdd rfl rfl rfl rfl rfl rfl (by simp only [List.length_append, List.length_cons, List.length_nil, conL]; omega) ?_
   rw [List.append_assoc (conL ++ dg port ++ adL (ads.take i)), List.append_assoc (conL ++ dg port), ← et]
   (refine Go.run (g:=?_))
   refine Go.again (i + 1, H6) ⟨(by show i + 1 ≤ _; omega), s.trans s6⟩ (by show ads.length - (i + 1) < ads.length - i; omega) ⟨rfl, rfl, rfl, trivial⟩ rfl rfl
  ·
   obtain rfl : i = ads.length := by omega
   rw [List.take_length]
   (refine Go.run (g:=?_))
   (first|refine Go.finA rfl ?_|refine Go.finB rfl (hq:=?_))
   exact fin_str (by simp [opX])
 by_cases k2 : k = 2
 ·
  subst k2
  by_cases hp : port = 0
  ·
   subst hp
   by_cases hl : ads.length = 0
   ·
    (refine Go.run (g:=?_))
    refine GoR.strAdd (a := sendL) rfl rfl rfl rfl rfl rfl (by simp only [List.length_append, List.length_cons, List.length_nil, sendL]; omega) ?_
    refine GoR.strAdd (b := [32]) rfl rfl rfl rfl rfl rfl (by simp only [List.length_append, List.length_cons, List.length_nil, sendL]; omega) ?_
    (refine Go.run (g:=?_))
    refine GoR.call rfl rfl rfl rfl rfl rfl rfl (((messageR_spec sid ppid un da dc zs hsid hppid (by omega) _ hD2).argA).mono ?_)
    rintro _ H3 rfl s3
    refine GoR.strAdd rfl rfl rfl rfl rfl rfl (by simp only [List.length_append, List.length_cons, List.length_nil, sendL]; omega) ?_
    (refine Go.run (g:=?_))
    (first|refine Go.finA rfl ?_|refine Go.finB rfl (hq:=?_))
    exact fin_str (by simp [opX, hl])
   ·
    (refine Go.run (g:=?_))
    (first|refine Go.finA rfl ?_|refine Go.finB rfl (hq:=?_))
    exact fin_str (by simp [opX, hl])
  ·
   (refine Go.run (g:=?_))
   (first|refine Go.finA rfl ?_|refine Go.finB rfl (hq:=?_))
   exact fin_str (by simp [opX, hp])
 by_cases hb : port = 0 ∧ ads.length = 0 ∧ em = true
 case neg =>
  have eb : (decide (port = 0) && (decide (ads.length = 0) && em)) = false := by
   cases em <;> simp at hb ⊢
   exact hb
  rw [eb]
  (refine Go.run (g:=?_))
  (first|refine Go.finA rfl ?_|refine Go.finB rfl (hq:=?_))
  exact fin_str (by
   unfold opX; rw [if_neg k1, if_neg k2, if_pos]
   by_cases hp : port = 0
   ·
    by_cases hl : ads.length = 0
    ·
     exact .inr (.inr (by
                cases em; · rfl
                · exact absurd ⟨hp, hl, rfl⟩ hb))
    · exact .inr (.inl hl)
   · exact .inl hp)
 obtain ⟨rfl, hl, rfl⟩ := hb
 rw [show (decide ((0 : Nat) = 0) && (decide (ads.length = 0) && true)) = true from by simp [hl]]
 by_cases k3 : k = 3
 ·
  subst k3
  (refine Go.run (g:=?_))
  refine GoR.strAdd (a := kwL 3 ++ [32]) rfl rfl rfl rfl rfl rfl (by simp only [List.length_append, List.length_cons, List.length_nil, kwL]; omega) ?_
  (refine Go.run (g:=?_))
  (first|refine Go.finA rfl ?_|refine Go.finB rfl (hq:=?_))
  exact fin_str (by unfold opX; rw [if_neg k1, if_neg k2, if_neg (by simp [hl]), if_pos (by omega)])
 by_cases k4 : k = 4
 ·
  subst k4
  (refine Go.run (g:=?_))
  refine GoR.strAdd (a := kwL 4 ++ [32]) rfl rfl rfl rfl rfl rfl (by simp only [List.length_append, List.length_cons, List.length_nil, kwL]; omega) ?_
  (refine Go.run (g:=?_))
  (first|refine Go.finA rfl ?_|refine Go.finB rfl (hq:=?_))
  exact fin_str (by unfold opX; rw [if_neg k1, if_neg k2, if_neg (by simp [hl]), if_pos (by omega)])
 by_cases k5 : k = 5
 ·
  subst k5
  (refine Go.run (g:=?_))
  refine GoR.strAdd (a := kwL 5 ++ [32]) rfl rfl rfl rfl rfl rfl (by simp only [List.length_append, List.length_cons, List.length_nil, kwL]; omega) ?_
  (refine Go.run (g:=?_))
  (first|refine Go.finA rfl ?_|refine Go.finB rfl (hq:=?_))
  exact fin_str (by unfold opX; rw [if_neg k1, if_neg k2, if_neg (by simp [hl]), if_pos (by omega)])
 by_cases k6 : k = 6
 ·
  subst k6
  (refine Go.run (g:=?_))
  refine GoR.strAdd (a := kwL 6 ++ [32]) rfl rfl rfl rfl rfl rfl (by simp only [List.length_append, List.length_cons, List.length_nil, kwL]; omega) ?_
  (refine Go.run (g:=?_))
  (first|refine Go.finA rfl ?_|refine Go.finB rfl (hq:=?_))
  exact fin_str (by unfold opX; rw [if_neg k1, if_neg k2, if_neg (by simp [hl]), if_pos (by omega)])
 by_cases hid : id = 0
 case neg =>
  (refine Go.run (g:=?_))
  (first|refine Go.finA rfl ?_|refine Go.finB rfl (hq:=?_))
  exact fin_str (by unfold opX; rw [if_neg k1, if_neg k2, if_neg (by simp [hl]), if_neg (by omega), if_pos hid])
 subst hid
 by_cases k7 : k = 7
 ·
  subst k7
  (refine Go.run (g:=?_))
  (first|refine Go.finA rfl ?_|refine Go.finB rfl (hq:=?_))
  exact fin_str (X := [99, 108, 111, 115, 101]) (by simp [opX, hl])
 by_cases k8 : k = 8
 ·
  subst k8
  (refine Go.run (g:=?_))
  (first|refine Go.finA rfl ?_|refine Go.finB rfl (hq:=?_))
  exact fin_str (X := [110, 111, 116, 101]) (by simp [opX, hl])
 (refine Go.run (g:=?_))
 (first|refine Go.finA rfl ?_|refine Go.finB rfl (hq:=?_))
 exact fin_str (by unfold opX; rw [if_neg k1, if_neg k2, if_neg (by simp [hl]), if_neg (by omega), if_neg (by simp), if_neg k7, if_neg k8])
end Go.Proofs.YtncbbeghkpjpbaaGreatDoor
namespace Go.Proofs.YtncbbeghkpjpbaaGreatDoor
open Go.RowKit
set_option maxRecDepth 100000
attribute [local irreducible] Go GoR GoL
theorem aGrow_of {P : Program} {h : AHeap} {e : TypeId} {inf : TypeInfo} (hs : sizeT P e = some inf.size) (hsz : 0 < inf.size) {a : Option Addr} {len cap n : Nat} {cs new : List Value} (hS : Sv h e inf.size a len cap cs) (hnl : new.length = n * inf.size) (h1 : len + n ≤ 1099511627776) (h2 : (len + n) * inf.bytes ≤ 140737488355328) (hone : new.all Value.oneCell' = true) :
  ∃ v h' rd wr, aGrow P h e inf n new [] (.slice a len cap) = some (v, h', rd, wr) ∧ (∀ i ∈ wr, i ∈ blk a) ∧ (∀ i ∈ rd, i ∈ blk a) ∧ ∃ a₂ cap₂, v = .slice a₂ (len + n) cap₂ ∧ Sv h' e inf.size a₂ (len + n) cap₂ (cs ++ new) ∧ Keeps (blk a) h h' ∧ (∀ i ∈ blk a₂, i ∈ blk a ∨ h.n ≤ i) := by
 cases hS with
 | nil =>
  simp only [aGrow]
  by_cases h0 : n = 0
  ·
   subst h0
   have : new = [] := List.length_eq_zero_iff.1 (by simpa using hnl)
   subst this
   rw [if_pos rfl]
   exact ⟨_, _, _, _, rfl, (fun i hi => by cases hi), (fun i hi => by cases hi), none, 0, rfl, .nil, ⟨Nat.le_refl _, fun i _ _ => rfl⟩, fun i hi => by cases hi⟩
  ·
   rw [if_neg h0, if_pos ⟨by omega, by simpa using h2⟩]
   refine ⟨_, _, _, _, rfl, (fun i hi => by cases hi), (fun i hi => by cases hi), some ⟨h.n, 0, none⟩, n, by simp, by simpa using Sv.new h new e hnl, ((Same.refl h).push _).keeps _, fun i hi => ?_⟩
   simp [blk] at hi
   omega
 | @mk b o _ _ c _ hg ho hle hc =>
  have m : len * inf.size ≤ cap * inf.size := Nat.mul_le_mul_right _ hle
  have hcl : cs.length = len * inf.size := by subst hc; simp; omega
  simp only [aGrow]
  by_cases hfit : len + n ≤ cap
  ·
   rw [if_pos hfit]
   have m2 : (len + n) * inf.size ≤ cap * inf.size := Nat.mul_le_mul_right _ hfit
   have m3 : (len + n) * inf.size = len * inf.size + n * inf.size := Nat.add_mul _ _ _
   by_cases he : new.isEmpty = true
   ·
    rw [if_pos he]
    have he' : new = [] := List.isEmpty_iff.1 he
    subst he'
    have hn0 : n = 0 := by
     have : n * inf.size = 0 := by simpa using hnl.symm
     rcases Nat.mul_eq_zero.1 this with h | h <;> omega
    subst hn0
    refine ⟨_, _, _, _, rfl, (fun i hi => by cases hi), (fun i hi => by cases hi), _, _, rfl, ?_, ⟨Nat.le_refl _, fun i _ _ => rfl⟩, fun i hi => .inl hi⟩
    rw [List.append_nil]
    exact .mk hg ho hle hc
   ·
    rw [if_neg he]
    simp only [hg]
    rw [if_pos ⟨by omega, hone⟩]
    refine ⟨_, _, _, _, rfl, (fun i hi => by simpa [blk] using hi), (fun i hi => ?_), _, _, rfl, ?_, ⟨Nat.le_refl _, fun i _ hn => AHeap.get_put_ne _ _ fun e => hn (by simp [blk, e])⟩, fun i hi => .inl hi⟩
    ·
     rcases List.mem_cons.1 hi with rfl | hi
     · exact (by simp [blk])
     · cases hi
    ·
     refine .mk (get_put_self hg) (by rw [setL_length (by omega)]; exact ho) hfit ?_
     rw [m3, ← hnl]
     exact setL_end hc (by omega)
  ·
   rw [if_neg hfit, if_pos ⟨h1, h2⟩]
   obtain ⟨rd₂, hold, hrd₂⟩ := aSrc_of (Rv.mk (P := P) (.inl ⟨e, hg, hs⟩) (by omega) hle hc)
   simp only [hold]
   have hlen2 : (cs ++ new).length = (len + n) * inf.size := by rw [List.length_append, hcl, hnl, Nat.add_mul]
   split
   ·
    refine ⟨_, _, _, _, rfl, (fun i hi => by cases hi), (fun i hi => ?_), _, _, rfl, Sv.new h _ e hlen2, ((Same.refl h).push _).keeps _, fun i hi => ?_⟩
    · exact hrd₂ i (by simpa using hi)
    · simp [blk] at hi; omega
   ·
    rename_i htight
    have ht : o + cap * inf.size = c.length := by
     simp [tight, hg, hs] at htight
     exact htight
    simp only [hg]
    rw [if_pos ⟨trivial, ht, hone, hle⟩]
    refine ⟨_, _, _, _, rfl, (fun i hi => by simpa [blk] using hi), (fun i hi => ?_), some ⟨h.n, 0, none⟩, _, rfl, ?_, ⟨Nat.le_succ _, fun i hi hn => ?_⟩, fun i hi => ?_⟩
    ·
     rcases List.mem_cons.1 hi with rfl | hi
     · simp [blk]
     · exact hrd₂ i (by simpa using hi)
    · exact Sv.new (h.put b none) _ e hlen2
    · rw [AHeap.get_push_ne _ _ (by simp; omega), AHeap.get_put_ne _ _ fun e => hn (by simp [blk, e])]
    · simp [blk] at hi; omega
section
variable {P : Program} {W : Nat → Prop} {q : Bool} {N : Nat} {k : List It} {ov : Ov} {df : List Nat} {h : AHeap} {Q : PQ} {id : Nat} {ops : Array Oper} {os : List Oper} {o : Oper} {d : Nat} {b₀ : Bool} {tr : List (Option LE)}
theorem GoR.appendStr {x y : Operand} {t t₂ e : TypeId} {bytes : Nat} {a : Option Addr} {len cap : Nat} {cs : List Value} {zs : List UInt8} (ho : o.op = .call ⟨.builtin .append, #[x, y], #[t, t₂]⟩) (hd : o.dst = some d) (hN : dOk d N = true) (hgd : o.guard = none) (hx : evO ov x = some (.slice a len cap)) (hy : evO ov y = some (.string ⟨zs.toArray⟩)) [hA : AP P t t e 1 bytes] (hu : P.underlying t₂ = some .string)
  (hS : Sv h e 1 a len cap cs) (hw : ∀ i ∈ blk a, W i) (h1 : len + zs.length ≤ 1099511627776) (h2 : (len + zs.length) * bytes ≤ 140737488355328)
  (g : ∀ a₂ cap₂ h', Sv h' e 1 a₂ (len + zs.length) cap₂ (cs ++ zs.map bv) → Keeps (blk a) h h' → (∀ i ∈ blk a₂, i ∈ blk a ∨ h.n ≤ i) → GoR P W q N ops true os k ((d, .slice a₂ (len + zs.length) cap₂) :: ov) df h' Q) : GoR P W q N ops true (o :: os) k ov df h Q := by
 obtain ⟨inf, z, hi, he1, rfl, hz, hsz, hzf, hzl⟩ := hA.i
 have hone : (zs.map bv).all Value.oneCell' = true := by simp [bv, Value.oneCell']
 have hnew : aNew P h e inf t₂ (.string ⟨zs.toArray⟩) = some (zs.length, zs.map bv, []) := by
  have : (⟨zs.toArray⟩ : ByteArray).size = zs.length := by simp [ByteArray.size]
  simp only [aNew, hu, he1, this, aSrc]
  simp [bv]
 obtain ⟨v, h', rd, wr, he, hwr, hrd, a₂, cap₂, rfl, h5, h6, h7⟩ := aGrow_of (inf := inf) (n := zs.length) (new := zs.map bv) (by rw [he1]; exact hA.s) (by omega) (by rw [he1]; exact hS) (by rw [he1]; simp) h1 h2 hone
 refine GoR.append ho hd hN hgd hx hy (v := .slice a₂ (len + zs.length) cap₂) (h' := h') (rd := rd) (wr := wr) ?_ (fun i hi => hw i (hwr i hi)) (g a₂ cap₂ h' (by rw [he1] at h5; exact h5) h6 h7)
 simp only [aAppend, hA.u, hi, hz]
 rw [if_pos ⟨by omega, hzf, by rw [hzl, he1]⟩]
 simp only [hnew]
 exact he
theorem run_sdNil (w : World) (ts : Array TypeId) (ty : TypeId) (len cap : Nat) : (Builtin.unsafeSliceData_ ts ty #[.slice none len cap]).run P w = .ok (.pointer none) w := rfl
theorem OpRun.sliceDataNil {D : Nat → Prop} {tm : List Value} {x : Operand} {t : TypeId} (ho : o.op = .call { callee := .builtin .unsafeSliceData, args := #[x], argTypes := #[t] }) (hx : evalT tm x = .slice none 0 0) : OpRun P D W o tm h (.pointer none) h :=
 .ofPure (by simp [ho]) fun m w A hm hxs H => by
  have h1 := hxs x (by simp [ho, Op.operands, Call.operands])
  rw [hx] at h1
  generalize hy : A.eval x = y at h1
  cases h1 with
  | snil =>
   refine ⟨_, .pnil, ?_⟩
   rw [exec_builtin ho]
   simp [hy, builtin, run_sdNil]
theorem OpRun.unsafeStrNil {D : Nat → Prop} {tm : List Value} {p x : Operand} {pt it : TypeId} (ho : o.op = .call { callee := .builtin .unsafeString, args := #[p, x], argTypes := #[pt, it] }) (hx : evalT tm p = .pointer none) (hn : evalT tm x = .int .i64 0) : OpRun P D W o tm h (.string ⟨#[]⟩) h :=
 .ofPure (by simp [ho]) fun m w A hm hxs H => by
  have h1 := hxs p (by simp [ho, Op.operands, Call.operands])
  have h2 := hxs x (by simp [ho, Op.operands, Call.operands])
  rw [hx] at h1
  rw [hn] at h2
  have h2 := VRel.eq_of_flat h2 rfl
  generalize hy : A.eval p = y at h1
  cases h1 with
  | pnil =>
   refine ⟨_, .string _, ?_⟩
   rw [exec_builtin ho]
   simp [hy, h2, builtin, Go.Lib.run_unsafeString_none]
   rfl
theorem GoL.callS {f : Operand} {xs : Array Operand} {ts : Array TypeId} {g : FuncId} {first cap : Array Value} {us : List Value} (ho : o.op = .call ⟨.value f, xs, ts⟩) (hd : o.dst = some d) (hN : dOk d N = true) (hgd : o.guard = none) (hf : evO ov f = some (.func (.func g) first cap)) (hx : evOs ov xs.toList = some us) (hc : calls P g = true)
  (hk : CallS P [] g (first.toList ++ us ++ cap.toList) h fun v h' => Same h h' → GoL P W q N ops (tr ++ [some ⟨h.n, h'.n, [], [], true, false⟩]) os k ((d, v) :: ov) df h' Q) : GoL P W q N ops tr (o :: os) k ov df h Q :=
 GoL.call (wr := []) ho hd hN hgd hf hx hc (hk.mono fun v h' g kp => ⟨fun i hi => absurd hi List.not_mem_nil, g ⟨kp.1, fun i hi => kp.2 i hi List.not_mem_nil⟩⟩)
theorem GoL.sliceDataNil {x : Operand} {t : TypeId} (ho : o.op = .call ⟨.builtin .unsafeSliceData, #[x], #[t]⟩) (hdd : o.dst = some d) (hN : dOk d N = true) (hgd : o.guard = none) (hx : evO ov x = some (.slice none 0 0)) (g : GoL P W q N ops (tr ++ [none]) os k ((d, .pointer none) :: ov) df h Q) : GoL P W q N ops tr (o :: os) k ov df h Q :=
 GoL.step (r := ⟨.pointer none, h, [], [], false, true⟩) none ⟨rfl, rfl, rfl, rfl, rfl⟩ hgd hdd hN (fun tm hr => .pure fun D W => OpRun.sliceDataNil ho (evO_eq hr hx)) (fun i hi => by cases hi) g
theorem GoL.unsafeStrNil {p x : Operand} {pt it : TypeId} (ho : o.op = .call ⟨.builtin .unsafeString, #[p, x], #[pt, it]⟩) (hdd : o.dst = some d) (hN : dOk d N = true) (hgd : o.guard = none) (hx : evO ov p = some (.pointer none)) (hn : evO ov x = some (.int .i64 0)) (g : GoL P W q N ops (tr ++ [none]) os k ((d, .string ⟨#[]⟩) :: ov) df h Q) : GoL P W q N ops tr (o :: os) k ov df h Q :=
 GoL.step (r := ⟨.string ⟨#[]⟩, h, [], [], false, true⟩) none ⟨rfl, rfl, rfl, rfl, rfl⟩ hgd hdd hN (fun tm hr => .pure fun D W => OpRun.unsafeStrNil ho (evO_eq hr hx) (evO_eq hr hn)) (fun i hi => by cases hi) g
end
set_option maxHeartbeats 4000000 in
theorem bLen_spec (bb : Nat) (p a : Option Addr) (cap : Nat) (zs : List UInt8) (h : AHeap) (B : BU h bb p a cap zs) : CallS Tryz.prog [] 12 [.pointer (some ⟨bb, 0, none⟩)] h fun v h' => v = .int .i64 (zs.length : Nat) ∧ h' = h := by
 have g := B.g
 (refine CallS.of1 Tryz.func12 rfl Tryz.ntmps12 Tryz.results12 rfl ?_)
 (refine Go.run (g:=?_))
 (first|refine Go.finA rfl ?_|refine Go.finB rfl (hq:=?_))
 exact ⟨rfl, rfl⟩
set_option maxHeartbeats 4000000 in
theorem writeString_spec (bb : Nat) (p a : Option Addr) (cap : Nat) (zs ws : List UInt8) (hz : zs.length ≤ 1000000000) (hw : ws.length ≤ 1000000000) (h : AHeap) (B : BU h bb p a cap zs) : CallS Tryz.prog (bb :: blk a) 13 [.pointer (some ⟨bb, 0, none⟩), .string ⟨ws.toArray⟩] h fun _ h' => ∃ p' a' cap', BU h' bb p' a' cap' (zs ++ ws) ∧ ∀ i ∈ blk a', i ∈ blk a ∨ h.n ≤ i := by
 have hbn := AHeap.lt B.g
 (refine CallS.of2 Tryz.func13 rfl Tryz.ntmps13 Tryz.results13 rfl ?_)
 (refine Go.run (g:=?_))
 refine GoR.callW rfl rfl rfl rfl rfl rfl rfl (((copyCheck_spec bb p B.p _ rfl _ B.g).argA).mono ?_)
 rintro _ h1 g1 k1
 refine ⟨fun i hi => by simp at hi; subst hi; exact .inl (List.mem_cons_self ..), ?_⟩
 have n1 := k1.1
 have hv1 : Sv h1 5 1 a zs.length cap (zs.map bv) := B.v.keeps k1 fun i hi e => by
  simp at e; subst e; exact B.o hi
 have lt1 := hv1.lt
 have lt0 := B.v.lt
 (refine Go.run (g:=?_))
 refine GoR.appendStr (zs := ws) rfl rfl rfl rfl rfl rfl (by kernel_rfl) hv1 (fun i hi => .inl (List.mem_cons_of_mem _ hi)) (by omega) (by omega) ?_
 intro b3 c3 h3 v3 k3 o3
 have m3 := k3.1
 have g3 := k3.get g1 B.o
 rw [← List.map_append] at v3
 (refine Go.run (g:=?_))
 (first|refine Go.finA rfl ?_|refine Go.finB rfl (hq:=?_))
 have ho3 : bb ∉ blk b3 := fun e => by
  rcases o3 bb e with x | x
  · exact B.o x
  · omega
 refine ⟨some ⟨bb, 0, none⟩, b3, c3, ⟨?_, .inr rfl, ?_, ho3⟩, fun i hi => (o3 i hi).imp id fun x => by omega⟩
 ·
  rw [List.length_append]
  exact AHeap.get_put_same _ (by omega) _
 ·
  rw [List.length_append]
  exact v3.put ho3 _
set_option maxHeartbeats 4000000 in
theorem bstring0_spec (bb : Nat) (h : AHeap) (B : BU h bb none none 0 []) : CallS Tryz.prog [] 14 [.pointer (some ⟨bb, 0, none⟩)] h fun v _ => v = .string ⟨#[]⟩ := by
 have g := B.g
 (refine CallS.of1 Tryz.func14 rfl Tryz.ntmps14 Tryz.results14 rfl ?_)
 refine Go.runN (g:=?_)
 refine Go.loud (by kernel_rfl) rfl ?_
 (refine Go.runL (g:=?_))
 refine GoL.sliceDataNil rfl rfl rfl rfl rfl ?_
 (refine Go.runL (g:=?_))
 refine GoL.unsafeStrNil rfl rfl rfl rfl rfl rfl ?_
 (refine Go.runL (g:=?_))
 (refine GoL.end_ (g:=?_))
 (refine Go.run (g:=?_))
 (first|refine Go.finA rfl ?_|refine Go.finB rfl (hq:=?_))
 rfl
end Go.Proofs.YtncbbeghkpjpbaaGreatDoor
namespace Go.Proofs.YtncbbeghkpjpbaaGreatDoor
open Go.RowKit
set_option maxRecDepth 100000
attribute [local irreducible] Go GoR GoL
abbrev MvV.ob (m : MvV) : AObj := .cells m.cs 39
abbrev OpV.ob (o : OpV) : AObj := .cells o.cs 35
theorem mwL_ne {k : Nat} (h : mwL k ≠ []) : k = 2 ∨ k = 3 ∨ k = 4 ∨ k = 5 ∨ k = 6 ∨ k = 8 := by
 unfold mwL at h
 split at h <;> first | omega | exact absurd rfl h
theorem mwL_len (k : Nat) : (mwL k).length ≤ 7 := by unfold mwL; split <;> simp
theorem sc2_get {h Hb : AHeap} {a z b : AObj} (eb : Hb = ((h.push a).push z).put (h.push a).n (some b)) : Hb.get h.n = some a ∧ Hb.get (h.n + 1) = some b ∧ Same h Hb := by
 subst eb
 refine ⟨?_, ?_, ⟨?_, ?_⟩⟩
 · rw [AHeap.get_put_ne _ _ (by simp), AHeap.get_push_ne _ _ (by simp), AHeap.get_push_same]
 · exact AHeap.get_put_same _ (by simp) _
 · simp; omega
 ·
  intro i hi
  rw [AHeap.get_put_ne _ _ (by simp; omega), AHeap.get_push_ne _ _ (by simp; omega), AHeap.get_push_ne _ _ (by omega)]
set_option maxHeartbeats 64000000 in
theorem line_spec (m : MvV) (h : AHeap) (hG : Holds GH h) (ok : MvOk h m) : CallS Tryz.prog [] 8 [m.v] h fun v _ => v = .tuple #[stv (lineL m), .bool (decide (lineL m ≠ []))] := by
 have he := empty_spec m.o
 have hn := nothing_spec m
 have hc := fun h hG ok => call_spec m.o h hG ok
 obtain ⟨hk, hho, n0, n1, b0, b1, hop, hfr, hto, hB, hbl⟩ := ok
 obtain ⟨k, host, n, bit, o, fr, to, ba, bc, bs⟩ := m
 simp only at hk hho n0 n1 b0 b1 hop hfr hto hB hbl
 have ln := dgI_len n0 n1
 have lb := dgI_len b0 b1
 have lf := dg_len 19 fr (by omega)
 have lt := dg_len 19 to (by omega)
 have lh := dg_len 19 host (by omega)
 have lx := hxL_len bs
 have lo := opL_len hop
 have lm := mwL_len k
 dsimp only [OpV.mv, OpV.v, MvV.v] at he hn hc ⊢
 generalize hst : MvV.still _ = st at hn
 generalize hqu : MvV.quiet ⟨k, host, n, bit, o, fr, to, ba, bc, bs⟩ = qu
 have hqe : qu = (decide (o.k = 0) && (decide (o.id = 0) && (decide (o.ads.length = 0) && (decide (o.port = 0) && (o.em && !o.blk))))) := by rw [← hqu]; rfl
 (refine CallS.of1 Tryz.func8 rfl Tryz.ntmps8 Tryz.results8 rfl ?_)
 (iterate 25 (refine Go.one (g:=?_)))
 refine Go.name ?_
 intro Hb eb
 obtain ⟨gb, ob, sb⟩ := sc2_get eb
 have ob' : Hb.get (h.push (MvV.ob ⟨k, host, n, bit, o, fr, to, ba, bc, bs⟩)).n = some o.ob := ob
 clear eb
 refine Go.join1 (α := AHeap) (fun _ => [(1, .pointer (some ⟨h.n, 0, none⟩)), (4, .bool (decide ((k : Int) = 1))), (5, .bool (decide ((k : Int) = 7))), (6, .pointer (some ⟨h.n + 1, 0, none⟩)), (7, .bool qu)]) (fun _ => []) (fun H => H) (fun H => Same h H ∧ H.get h.n = some (MvV.ob ⟨k, host, n, bit, o, fr, to, ba, bc, bs⟩) ∧ H.get (h.n + 1) = some o.ob) ?_ ?_
 ·
  by_cases q1 : o.k = 0
  case neg =>
   (refine Go.run (g:=?_))
   exact Go.joined Hb ⟨sb, gb, ob⟩ ⟨rfl, rfl, rfl, rfl, (by rw [hqe]; simp [q1]; rfl), trivial⟩ rfl rfl
  by_cases q2 : o.id = 0
  case neg =>
   (refine Go.run (g:=?_))
   exact Go.joined Hb ⟨sb, gb, ob⟩ ⟨rfl, rfl, rfl, rfl, (by rw [hqe]; simp [q2]; rfl), trivial⟩ rfl rfl
  by_cases q3 : o.ads.length = 0
  case neg =>
   have hz : decide ((o.ads.length : Int) = 0) = !true := decide_eq_false (by omega)
   (refine Go.run (g:=?_))
   exact Go.joined Hb ⟨sb, gb, ob⟩ ⟨rfl, rfl, rfl, rfl, (by rw [hqe]; simp [q3]; rfl), trivial⟩ rfl rfl
  by_cases q4 : o.port = 0
  case neg =>
   (refine Go.run (g:=?_))
   exact Go.joined Hb ⟨sb, gb, ob⟩ ⟨rfl, rfl, rfl, rfl, (by rw [hqe]; simp [q4]; rfl), trivial⟩ rfl rfl
  (refine Go.run (g:=?_))
  refine GoR.call rfl rfl rfl rfl rfl rfl rfl (((he _).argA).mono ?_)
  rintro _ H1 rfl s1
  have g1 := s1.get gb
  have o1 := s1.get ob
  have o1' := s1.get ob'
  cases hem : o.em
  ·
   (refine Go.run (g:=?_))
   exact Go.joined H1 ⟨sb.trans s1, g1, o1⟩ ⟨rfl, rfl, rfl, rfl, (by rw [hqe]; simp [hem]; rfl), trivial⟩ rfl rfl
  ·
   (refine Go.run (g:=?_))
   exact Go.joined H1 ⟨sb.trans s1, g1, o1⟩ ⟨rfl, rfl, rfl, rfl, (by rw [hqe]; simp [q1, q2, q3, q4, hem]; rfl), trivial⟩ rfl rfl
 rintro H0 ⟨s0, g0, o0⟩
 dsimp only [MvV.ob, MvV.cs, OpV.ob, OpV.cs] at g0 o0
 have hG0 := hG.same s0
 have hB0 := hB.same s0
 have hop0 := hop.same s0
 clear gb ob ob' sb
 unfold lineL
 dsimp only
 rw [hst, hqu]
 by_cases k1 : k = 1
 ·
  subst k1
  (refine Go.run (g:=?_))
  refine GoR.call rfl rfl rfl rfl rfl rfl rfl (((hn _).argA).mono ?_)
  rintro _ H1 rfl s1
  have g1 := s1.get g0
  have o1 := s1.get o0
  have hGx := hG0.same s1
  have hop1 := hop0.same s1
  cases st
  ·
   (refine Go.run (g:=?_))
   (first|refine Go.finA rfl ?_|refine Go.finB rfl (hq:=?_))
   exact fin_none (by simp)
  by_cases hb : bit = 0
  case neg =>
   (refine Go.run (g:=?_))
   (first|refine Go.finA rfl ?_|refine Go.finB rfl (hq:=?_))
   exact fin_none (by simp [hb])
  by_cases hh : host ≤ 1
  case neg =>
   (refine Go.run (g:=?_))
   (first|refine Go.finA rfl ?_|refine Go.finB rfl (hq:=?_))
   exact fin_none (by simp [hh])
  (refine Go.run (g:=?_))
  refine GoR.call rfl rfl rfl rfl rfl rfl rfl (((itoa_spec n n0 n1 _ hGx).argA).mono ?_)
  rintro _ H2 rfl s2
  have g2 := s2.get g1
  have o2 := s2.get o1
  have hGx := hGx.same s2
  have hop2 := hop1.same s2
  refine GoR.strAdd (a := [32]) rfl rfl rfl rfl rfl rfl (by simp only [List.length_cons, List.length_nil]; omega) ?_
  refine Go.runN (g:=?_)
  refine Go.loud (by kernel_rfl) rfl ?_
  (refine Go.runL (g:=?_))
  refine GoL.callS rfl rfl rfl rfl rfl rfl rfl (((moves_spec _ hGx).argA).mono ?_)
  rintro _ HM ⟨rfl, rfl⟩ sM
  clear sM
  (refine Go.runL (g:=?_))
  refine GoL.index rfl rfl rfl rfl rfl rfl (idx_moves (k := 1) (by omega)) ?_
  (refine Go.runL (g:=?_))
  (refine GoL.end_ (g:=?_))
  rw [show (!decide (mwL 1 = [])) = false from rfl]
  by_cases hn0 : n = 0
  case neg =>
   (refine Go.run (g:=?_))
   (first|refine Go.finA rfl ?_|refine Go.finB rfl (hq:=?_))
   exact fin_none (by simp [hn0])
  subst hn0
  (refine Go.run (g:=?_))
  refine GoR.call rfl rfl rfl rfl rfl rfl rfl (((itoa_spec (host : Nat) (by omega) (by omega) _ hGx).argA).mono ?_)
  rintro _ H4 hv4 s4
  rw [dgI_nat] at hv4; subst hv4
  have g4 := s4.get g2
  have o4 := s4.get o2
  have hG4 := hGx.same s4
  have hop4 := hop2.same s4
  refine GoR.strAdd (a := callL) rfl rfl rfl rfl rfl rfl (by simp only [List.length_cons, List.length_nil, callL]; omega) ?_
  cases hbk : o.blk
  ·
   rw [hbk] at o4
   (refine Go.run (g:=?_))
   refine GoR.call rfl rfl rfl rfl rfl rfl rfl (((hc _ hG4 hop4).argA).mono ?_)
   rintro _ H5 rfl s5
   rcases Bool.eq_false_or_eq_true (decide (opL o ≠ [])) with hob | hob
   case inr =>
    rw [hob]
    (refine Go.run (g:=?_))
    (first|refine Go.finA rfl ?_|refine Go.finB rfl (hq:=?_))
    exact fin_none (by have := of_decide_eq_false hob; simp at this; simp [this])
   rw [hob]
   have hon : opL o ≠ [] := of_decide_eq_true hob
   have hol : 0 < (opL o).length := List.length_pos_iff.2 hon
   (refine Go.run (g:=?_))
   refine GoR.strAdd (b := [32]) rfl rfl rfl rfl rfl rfl (by simp only [List.length_append, List.length_cons, List.length_nil, callL, blockL]; omega) ?_
   (refine Go.run (g:=?_))
   refine GoR.strAdd (b := opL o) rfl rfl rfl rfl rfl rfl (by simp only [List.length_append, List.length_cons, List.length_nil, callL, blockL]; omega) ?_
   (refine Go.run (g:=?_))
   (first|refine Go.finA rfl ?_|refine Go.finB rfl (hq:=?_))
   exact fin_some (by simp [hh, hb, hon, callL]) (by simp; omega)
  ·
   rw [hbk] at o4
   (refine Go.run (g:=?_))
   refine GoR.strAdd (b := blockL) rfl rfl rfl rfl rfl rfl (by simp only [List.length_append, List.length_cons, List.length_nil, callL, blockL]; omega) ?_
   (refine Go.run (g:=?_))
   refine GoR.call rfl rfl rfl rfl rfl rfl rfl (((hc _ hG4 hop4).argA).mono ?_)
   rintro _ H5 rfl s5
   rcases Bool.eq_false_or_eq_true (decide (opL o ≠ [])) with hob | hob
   case inr =>
    rw [hob]
    (refine Go.run (g:=?_))
    (first|refine Go.finA rfl ?_|refine Go.finB rfl (hq:=?_))
    exact fin_none (by have := of_decide_eq_false hob; simp at this; simp [this])
   rw [hob]
   have hon : opL o ≠ [] := of_decide_eq_true hob
   have hol : 0 < (opL o).length := List.length_pos_iff.2 hon
   (refine Go.run (g:=?_))
   refine GoR.strAdd (b := [32]) rfl rfl rfl rfl rfl rfl (by simp only [List.length_append, List.length_cons, List.length_nil, callL, blockL]; omega) ?_
   (refine Go.run (g:=?_))
   refine GoR.strAdd (b := opL o) rfl rfl rfl rfl rfl rfl (by simp only [List.length_append, List.length_cons, List.length_nil, callL, blockL]; omega) ?_
   (refine Go.run (g:=?_))
   (first|refine Go.finA rfl ?_|refine Go.finB rfl (hq:=?_))
   exact fin_some (by simp [hh, hb, hon, callL]) (by simp; omega)
 by_cases hh : host = 0
 case neg =>
  (refine Go.run (g:=?_))
  (first|refine Go.finA rfl ?_|refine Go.finB rfl (hq:=?_))
  exact fin_none (by rw [if_neg k1, if_pos (.inl hh)])
 subst hh
 cases qu
 ·
  (refine Go.run (g:=?_))
  (first|refine Go.finA rfl ?_|refine Go.finB rfl (hq:=?_))
  exact fin_none (by rw [if_neg k1, if_pos (.inr rfl)])
 rw [if_neg k1, if_neg (by simp)]
 by_cases k7 : k = 7
 ·
  subst k7
  have g1 := g0
  have hGx := hG0
  by_cases hb : bit = 0
  case neg =>
   (refine Go.run (g:=?_))
   (first|refine Go.finA rfl ?_|refine Go.finB rfl (hq:=?_))
   exact fin_none (by simp [hb])
  (refine Go.run (g:=?_))
  refine GoR.call rfl rfl rfl rfl rfl rfl rfl (((itoa_spec n n0 n1 _ hGx).argA).mono ?_)
  rintro _ H2 rfl s2
  have g2 := s2.get g1
  have hGx := hGx.same s2
  refine GoR.strAdd (a := [32]) rfl rfl rfl rfl rfl rfl (by simp only [List.length_cons, List.length_nil]; omega) ?_
  have hB2 := hB0.same s2
  refine Go.runN (g:=?_)
  refine Go.loud (by kernel_rfl) rfl ?_
  (refine Go.runL (g:=?_))
  refine GoL.callS rfl rfl rfl rfl rfl rfl rfl (((moves_spec _ hGx).argA).mono ?_)
  rintro _ HM ⟨rfl, rfl⟩ sM
  clear sM
  (refine Go.runL (g:=?_))
  refine GoL.index rfl rfl rfl rfl rfl rfl (idx_moves (k := 7) (by omega)) ?_
  (refine Go.runL (g:=?_))
  (refine GoL.end_ (g:=?_))
  rw [show (!decide (mwL 7 = [])) = false from rfl]
  by_cases hn0 : n = 0
  case neg =>
   (refine Go.run (g:=?_))
   (first|refine Go.finA rfl ?_|refine Go.finB rfl (hq:=?_))
   exact fin_none (by simp [hn0])
  subst hn0
  refine Go.runN (g:=?_)
  refine Go.loud (by kernel_rfl) rfl ?_
  (refine Go.runL (g:=?_))
  refine GoL.callS rfl rfl rfl rfl rfl rfl rfl (((utoa_spec fr (by omega) _ hGx).argA).mono ?_)
  rintro _ H4 rfl s4
  have g4 := s4.get g2
  have hG4 := hGx.same s4
  refine GoL.strAdd (a := injL) rfl rfl rfl rfl rfl rfl (by simp only [List.length_cons, List.length_nil, injL]; omega) ?_
  refine GoL.strAdd (b := [32]) rfl rfl rfl rfl rfl rfl (by simp only [List.length_append, List.length_cons, List.length_nil, injL]; omega) ?_
  (refine Go.runL (g:=?_))
  refine GoL.callS rfl rfl rfl rfl rfl rfl rfl (((utoa_spec to (by omega) _ hG4).argA).mono ?_)
  rintro _ H5 rfl s5
  have g5 := s5.get g4
  refine GoL.strAdd rfl rfl rfl rfl rfl rfl (by simp only [List.length_append, List.length_cons, List.length_nil, injL]; omega) ?_
  refine GoL.strAdd (b := [32]) rfl rfl rfl rfl rfl rfl (by simp only [List.length_append, List.length_cons, List.length_nil, injL]; omega) ?_
  (refine Go.runL (g:=?_))
  refine GoL.callS rfl rfl rfl rfl rfl rfl rfl (((hex_spec ba bc bs (by omega) _ ((hB2.same s4).same s5)).argA).mono ?_)
  rintro _ H6 rfl s6
  refine GoL.strAdd rfl rfl rfl rfl rfl rfl (by simp only [List.length_append, List.length_cons, List.length_nil, injL]; omega) ?_
  (refine Go.runL (g:=?_))
  (refine GoL.end_ (g:=?_))
  (refine Go.run (g:=?_))
  (first|refine Go.finA rfl ?_|refine Go.finB rfl (hq:=?_))
  exact fin_some (by simp [hb]) (by simp [injL])
 rw [if_neg k7]
 (refine Go.run (g:=?_))
 refine GoR.call rfl rfl rfl rfl rfl rfl rfl (((hn _).argA).mono ?_)
 rintro _ H1 rfl s1
 have g1 := s1.get g0
 have o1 := s1.get o0
 have hGx := hG0.same s1
 cases st
 case false =>
  (refine Go.run (g:=?_))
  (first|refine Go.finA rfl ?_|refine Go.finB rfl (hq:=?_))
  exact fin_none (by simp)
 by_cases k6 : k = 6
 ·
  subst k6
  (refine Go.run (g:=?_))
  refine GoR.call rfl rfl rfl rfl rfl rfl rfl (((itoa_spec n n0 n1 _ hGx).argA).mono ?_)
  rintro _ H2 rfl s2
  have g2 := s2.get g1
  have hGx := hGx.same s2
  refine GoR.strAdd (a := [32]) rfl rfl rfl rfl rfl rfl (by simp only [List.length_cons, List.length_nil]; omega) ?_
  refine Go.runN (g:=?_)
  refine Go.loud (by kernel_rfl) rfl ?_
  (refine Go.runL (g:=?_))
  refine GoL.callS rfl rfl rfl rfl rfl rfl rfl (((moves_spec _ hGx).argA).mono ?_)
  rintro _ HM ⟨rfl, rfl⟩ sM
  clear sM
  (refine Go.runL (g:=?_))
  refine GoL.index rfl rfl rfl rfl rfl rfl (idx_moves (k := 6) (by omega)) ?_
  (refine Go.runL (g:=?_))
  (refine GoL.end_ (g:=?_))
  rw [show (!decide (mwL 6 = [])) = true from rfl]
  (refine Go.run (g:=?_))
  refine GoR.call rfl rfl rfl rfl rfl rfl rfl (((itoa_spec bit b0 b1 _ hGx).argA).mono ?_)
  rintro _ H4 rfl s4
  have g4 := s4.get g2
  have hGx := hGx.same s4
  refine GoR.strAdd (a := [32]) rfl rfl rfl rfl rfl rfl (by simp only [List.length_cons, List.length_nil]; omega) ?_
  refine GoR.strAdd rfl rfl rfl rfl rfl rfl (by simp only [List.length_append, List.length_cons, List.length_nil]; omega) ?_
  refine Go.runN (g:=?_)
  refine Go.loud (by kernel_rfl) rfl ?_
  (refine Go.runL (g:=?_))
  refine GoL.callS rfl rfl rfl rfl rfl rfl rfl (((moves_spec _ hGx).argA).mono ?_)
  rintro _ HM ⟨rfl, rfl⟩ sM
  clear sM
  (refine Go.runL (g:=?_))
  refine GoL.index rfl rfl rfl rfl rfl rfl (idx_moves (k := 6) (by omega)) ?_
  (refine Go.runL (g:=?_))
  refine GoL.strAdd (a := mwL 6) rfl rfl rfl rfl rfl rfl (by simp only [List.length_append, List.length_cons, List.length_nil]; omega) ?_
  (refine Go.runL (g:=?_))
  (refine GoL.end_ (g:=?_))
  (refine Go.run (g:=?_))
  (first|refine Go.finA rfl ?_|refine Go.finB rfl (hq:=?_))
  exact fin_some (by simp) (by simp [mwL])
 by_cases hb : bit = 0
 case neg =>
  (refine Go.run (g:=?_))
  (first|refine Go.finA rfl ?_|refine Go.finB rfl (hq:=?_))
  exact fin_none (by simp [hb, k6])
 rw [if_neg (by simp [hb]), if_neg k6]
 (refine Go.run (g:=?_))
 refine GoR.call rfl rfl rfl rfl rfl rfl rfl (((itoa_spec n n0 n1 _ hGx).argA).mono ?_)
 rintro _ H2 rfl s2
 have g2 := s2.get g1
 have hGx := hGx.same s2
 refine GoR.strAdd (a := [32]) rfl rfl rfl rfl rfl rfl (by simp only [List.length_cons, List.length_nil]; omega) ?_
 by_cases k9 : k < 9
 case neg =>
  have hL : (if k = 2 ∨ k = 3 ∨ k = 4 ∨ k = 5 ∨ k = 8 then mwL k ++ [32] ++ dgI n else []) = [] := if_neg (by omega)
  refine Go.runN (g:=?_)
  refine Go.loud (by kernel_rfl) rfl ?_
  (refine Go.runL (g:=?_))
  (refine GoL.end_ (g:=?_))
  by_cases hn0 : n = 0
  ·
   (refine Go.run (g:=?_))
   (first|refine Go.finA rfl ?_|refine Go.finB rfl (hq:=?_))
   exact fin_none hL
  ·
   (refine Go.run (g:=?_))
   (first|refine Go.finA rfl ?_|refine Go.finB rfl (hq:=?_))
   exact fin_none hL
 refine Go.runN (g:=?_)
 refine Go.loud (by kernel_rfl) rfl ?_
 (refine Go.runL (g:=?_))
 refine GoL.callS rfl rfl rfl rfl rfl rfl rfl (((moves_spec _ hGx).argA).mono ?_)
 rintro _ HM ⟨rfl, rfl⟩ sM
 clear sM
 (refine Go.runL (g:=?_))
 refine GoL.index rfl rfl rfl rfl rfl rfl (idx_moves (k := k) (by omega)) ?_
 (refine Go.runL (g:=?_))
 (refine GoL.end_ (g:=?_))
 by_cases hw : mwL k = []
 ·
  have hL : (if k = 2 ∨ k = 3 ∨ k = 4 ∨ k = 5 ∨ k = 8 then mwL k ++ [32] ++ dgI n else []) = [] := if_neg (by
   rintro (rfl | rfl | rfl | rfl | rfl) <;> simp [mwL] at hw)
  rw [show (!decide (mwL k = [])) = false from by simp [hw]]
  by_cases hn0 : n = 0
  ·
   (refine Go.run (g:=?_))
   (first|refine Go.finA rfl ?_|refine Go.finB rfl (hq:=?_))
   exact fin_none hL
  ·
   (refine Go.run (g:=?_))
   (first|refine Go.finA rfl ?_|refine Go.finB rfl (hq:=?_))
   exact fin_none hL
 ·
  have hL : (if k = 2 ∨ k = 3 ∨ k = 4 ∨ k = 5 ∨ k = 8 then mwL k ++ [32] ++ dgI n else []) = mwL k ++ ([32] ++ dgI n) := by
   rw [if_pos (by have := mwL_ne hw; omega), List.append_assoc]
  rw [show (!decide (mwL k = [])) = true from by simp [hw]]
  refine Go.runN (g:=?_)
  refine Go.loud (by kernel_rfl) rfl ?_
  (refine Go.runL (g:=?_))
  refine GoL.callS rfl rfl rfl rfl rfl rfl rfl (((moves_spec _ hGx).argA).mono ?_)
  rintro _ HM ⟨rfl, rfl⟩ sM
  clear sM
  (refine Go.runL (g:=?_))
  refine GoL.index rfl rfl rfl rfl rfl rfl (idx_moves (k := k) (by omega)) ?_
  (refine Go.runL (g:=?_))
  refine GoL.strAdd (a := mwL k) rfl rfl rfl rfl rfl rfl (by simp only [List.length_append, List.length_cons, List.length_nil]; omega) ?_
  (refine Go.runL (g:=?_))
  (refine GoL.end_ (g:=?_))
  (refine Go.run (g:=?_))
  (first|refine Go.finA rfl ?_|refine Go.finB rfl (hq:=?_))
  exact fin_some hL (by simp; omega)
end Go.Proofs.YtncbbeghkpjpbaaGreatDoor
namespace Go.Proofs.YtncbbeghkpjpbaaGreatDoor
open Go.RowKit
set_option maxRecDepth 100000
attribute [local irreducible] Go GoR GoL
set_option maxHeartbeats 64000000 in
theorem refLine_spec (m : MvV) (h : AHeap) (ok : MvOk h m) : CallS Tryz.prog [] 9 [m.v] h fun v _ => v = stv (lineL m) := by
 have he := none_spec m.o
 have hc := fun h ok => refOp_spec m.o h ok
 obtain ⟨hk, hho, n0, n1, b0, b1, hop, hfr, hto, hB, hbl⟩ := ok
 obtain ⟨k, host, n, bit, o, fr, to, ba, bc, bs⟩ := m
 simp only at hk hho n0 n1 b0 b1 hop hfr hto hB hbl
 have ln := dgI_len n0 n1
 have lb := dgI_len b0 b1
 have lf := dg_len 19 fr (by omega)
 have lt := dg_len 19 to (by omega)
 have lh := dg_len 19 host (by omega)
 have lx := hxL_len bs
 have lo := opL_len hop
 have lm := mwL_len k
 dsimp only [OpV.mv, OpV.v, MvV.v] at he hc ⊢
 generalize hst : MvV.still ⟨k, host, n, bit, o, fr, to, ba, bc, bs⟩ = st
 generalize hqu : MvV.quiet ⟨k, host, n, bit, o, fr, to, ba, bc, bs⟩ = qu
 have hqe : qu = (decide (o.k = 0) && (decide (o.id = 0) && (decide (o.ads.length = 0) && (decide (o.port = 0) && (o.em && !o.blk))))) := by rw [← hqu]; rfl
 have hse : st = (decide (fr = 0) && (decide (to = 0) && decide (bs.length = 0))) := by rw [← hst]; rfl
 (refine CallS.of1 Tryz.func9 rfl Tryz.ntmps9 Tryz.results9 rfl ?_)
 (iterate 13 (refine Go.one (g:=?_)))
 refine Go.name ?_
 intro Hb eb
 obtain ⟨gb, ob, sb⟩ := sc2_get eb
 have ob' : Hb.get (h.push (MvV.ob ⟨k, host, n, bit, o, fr, to, ba, bc, bs⟩)).n = some o.ob := ob
 clear eb
 refine Go.join1 (α := AHeap) (fun _ => [(1, .pointer (some ⟨h.n, 0, none⟩)), (3, .pointer (some ⟨h.n + 1, 0, none⟩)), (4, .bool (decide (host ≠ 0) || !qu))]) (fun _ => []) (fun H => H) (fun H => Same h H ∧ H.get h.n = some (MvV.ob ⟨k, host, n, bit, o, fr, to, ba, bc, bs⟩) ∧ H.get (h.n + 1) = some o.ob) ?_ ?_
 ·
  by_cases q0 : host = 0
  case neg =>
   (refine Go.run (g:=?_))
   exact Go.joined Hb ⟨sb, gb, ob⟩ ⟨rfl, rfl, (by rw [hqe]; simp [*]; try rfl), trivial⟩ rfl rfl
  by_cases q1 : o.k = 0
  case neg =>
   (refine Go.run (g:=?_))
   exact Go.joined Hb ⟨sb, gb, ob⟩ ⟨rfl, rfl, (by rw [hqe]; simp [*]; try rfl), trivial⟩ rfl rfl
  by_cases q2 : o.id = 0
  case neg =>
   (refine Go.run (g:=?_))
   exact Go.joined Hb ⟨sb, gb, ob⟩ ⟨rfl, rfl, (by rw [hqe]; simp [*]; try rfl), trivial⟩ rfl rfl
  by_cases q3 : o.ads.length = 0
  case neg =>
   have hz : decide ((o.ads.length : Int) > 0) = !false := decide_eq_true (by omega)
   (refine Go.run (g:=?_))
   exact Go.joined Hb ⟨sb, gb, ob⟩ ⟨rfl, rfl, (by rw [hqe]; simp [*]; try rfl), trivial⟩ rfl rfl
  by_cases q4 : o.port = 0
  case neg =>
   (refine Go.run (g:=?_))
   exact Go.joined Hb ⟨sb, gb, ob⟩ ⟨rfl, rfl, (by rw [hqe]; simp [*]; try rfl), trivial⟩ rfl rfl
  (refine Go.run (g:=?_))
  refine GoR.call rfl rfl rfl rfl rfl rfl rfl (((he _).argA).mono ?_)
  rintro _ H1 rfl s1
  have g1 := s1.get gb
  have o1 := s1.get ob
  have o1' := s1.get ob'
  cases hem : o.em
  ·
   (refine Go.run (g:=?_))
   exact Go.joined H1 ⟨sb.trans s1, g1, o1⟩ ⟨rfl, rfl, (by rw [hqe]; simp [hem]; rfl), trivial⟩ rfl rfl
  ·
   (refine Go.run (g:=?_))
   exact Go.joined H1 ⟨sb.trans s1, g1, o1⟩ ⟨rfl, rfl, (by rw [hqe]; simp [q0, q1, q2, q3, q4, hem]; rfl), trivial⟩ rfl rfl
 rintro H0 ⟨s0, g0, o0⟩
 dsimp only [MvV.ob, MvV.cs, OpV.ob, OpV.cs] at g0 o0
 have hB0 := hB.same s0
 have hop0 := hop.same s0
 clear gb ob ob' sb
 (iterate 1 (refine Go.one (g:=?_)))
 refine Go.join1 (α := Unit) (fun _ => [(1, .pointer (some ⟨h.n, 0, none⟩)), (3, .pointer (some ⟨h.n + 1, 0, none⟩)), (4, .bool (decide (host ≠ 0) || !qu)), (5, .bool (!st))]) (fun _ => []) (fun _ => H0) (fun _ => True) ?_ ?_
 ·
  by_cases q1 : fr = 0
  case neg =>
   (refine Go.run (g:=?_))
   exact Go.joined () trivial ⟨rfl, rfl, rfl, (by rw [hse]; simp [q1]; rfl), trivial⟩ rfl rfl
  by_cases q2 : to = 0
  case neg =>
   (refine Go.run (g:=?_))
   exact Go.joined () trivial ⟨rfl, rfl, rfl, (by rw [hse]; simp [q2]; rfl), trivial⟩ rfl rfl
  subst q1 q2
  rcases Nat.eq_zero_or_pos bs.length with q3 | q3
  ·
   have hz : (0 : Int) ≤ 0 := Int.le_refl _
   (refine Go.run (g:=?_))
   exact Go.joined () trivial ⟨rfl, rfl, rfl, (by rw [hse]; simp [q3]; rfl), trivial⟩ rfl rfl
  ·
   (refine Go.run (g:=?_))
   exact Go.joined () trivial ⟨rfl, rfl, rfl, (by show some (Value.bool (decide ((0 : Int) < bs.length))) = _; rw [hse, decide_eq_true (by omega : (0 : Int) < bs.length), decide_eq_false (Nat.ne_of_gt q3)]; rfl), trivial⟩ rfl rfl
 rintro - -
 unfold lineL
 dsimp only
 rw [hst, hqu]
 by_cases k1 : k = 1
 ·
  subst k1
  by_cases hh : host ≤ 1
  case neg =>
   (refine Go.run (g:=?_))
   (first|refine Go.finA rfl ?_|refine Go.finB rfl (hq:=?_))
   exact fin_str (by simp [hh])
  cases st
  ·
   (refine Go.run (g:=?_))
   (first|refine Go.finA rfl ?_|refine Go.finB rfl (hq:=?_))
   exact fin_str (by simp)
  by_cases hn0 : n = 0
  case neg =>
   (refine Go.run (g:=?_))
   (first|refine Go.finA rfl ?_|refine Go.finB rfl (hq:=?_))
   exact fin_str (by simp [hn0])
  by_cases hb : bit = 0
  case neg =>
   (refine Go.run (g:=?_))
   (first|refine Go.finA rfl ?_|refine Go.finB rfl (hq:=?_))
   exact fin_str (by simp [hb])
  (refine Go.run (g:=?_))
  refine GoR.call rfl rfl rfl rfl rfl rfl rfl (((hc _ hop0).argA).mono ?_)
  rintro _ H1 rfl s1
  have g1 := s1.get g0
  have o1 := s1.get o0
  have hop1 := hop0.same s1
  by_cases hon : opL o = []
  ·
   have hz : decide (opL o = []) = true := decide_eq_true hon
   (refine Go.run (g:=?_))
   (first|refine Go.finA rfl ?_|refine Go.finB rfl (hq:=?_))
   exact fin_str (by simp [hon])
  have hz : decide (opL o = []) = false := decide_eq_false hon
  have hol : 0 < (opL o).length := List.length_pos_iff.2 hon
  (refine Go.run (g:=?_))
  refine GoR.call rfl rfl rfl rfl rfl rfl rfl (((digits_spec (host : Nat) (by omega) (by omega) _).argA).mono ?_)
  rintro _ H4 hv4 s4
  rw [dgI_nat] at hv4; subst hv4
  have g4 := s4.get g1
  have o4 := s4.get o1
  have hop4 := hop1.same s4
  refine GoR.strAdd (a := callL) rfl rfl rfl rfl rfl rfl (by simp only [List.length_cons, List.length_nil, callL]; omega) ?_
  cases hbk : o.blk
  ·
   rw [hbk] at o4
   (refine Go.run (g:=?_))
   refine GoR.strAdd (b := [32]) rfl rfl rfl rfl rfl rfl (by simp only [List.length_append, List.length_cons, List.length_nil, callL, blockL]; omega) ?_
   (refine Go.run (g:=?_))
   refine GoR.call rfl rfl rfl rfl rfl rfl rfl (((hc _ hop4).argA).mono ?_)
   rintro _ H5 rfl s5
   refine GoR.strAdd (b := opL o) rfl rfl rfl rfl rfl rfl (by simp only [List.length_append, List.length_cons, List.length_nil, callL, blockL]; omega) ?_
   (refine Go.run (g:=?_))
   (first|refine Go.finA rfl ?_|refine Go.finB rfl (hq:=?_))
   exact fin_str (by simp [hh, hb, hn0, hon, callL])
  ·
   rw [hbk] at o4
   (refine Go.run (g:=?_))
   refine GoR.strAdd (b := blockL) rfl rfl rfl rfl rfl rfl (by simp only [List.length_append, List.length_cons, List.length_nil, callL, blockL]; omega) ?_
   (refine Go.run (g:=?_))
   refine GoR.strAdd (b := [32]) rfl rfl rfl rfl rfl rfl (by simp only [List.length_append, List.length_cons, List.length_nil, callL, blockL]; omega) ?_
   (refine Go.run (g:=?_))
   refine GoR.call rfl rfl rfl rfl rfl rfl rfl (((hc _ hop4).argA).mono ?_)
   rintro _ H5 rfl s5
   refine GoR.strAdd (b := opL o) rfl rfl rfl rfl rfl rfl (by simp only [List.length_append, List.length_cons, List.length_nil, callL, blockL]; omega) ?_
   (refine Go.run (g:=?_))
   (first|refine Go.finA rfl ?_|refine Go.finB rfl (hq:=?_))
   exact fin_str (by simp [hh, hb, hn0, hon, callL])
 by_cases hh : host = 0
 case neg =>
  rw [show (decide (host ≠ 0) || !qu) = true from by simp [hh]]
  (refine Go.run (g:=?_))
  (first|refine Go.finA rfl ?_|refine Go.finB rfl (hq:=?_))
  exact fin_str (by rw [if_neg k1, if_pos (.inl hh)])
 cases qu
 ·
  rw [show (decide (host ≠ 0) || !false) = true from by simp]
  (refine Go.run (g:=?_))
  (first|refine Go.finA rfl ?_|refine Go.finB rfl (hq:=?_))
  exact fin_str (by rw [if_neg k1, if_pos (.inr rfl)])
 rw [show (decide (host ≠ 0) || !true) = false from by simp [hh]]
 subst hh
 rw [if_neg k1, if_neg (by simp)]
 by_cases k7 : k = 7
 ·
  subst k7
  by_cases hn0 : n = 0
  case neg =>
   (refine Go.run (g:=?_))
   (first|refine Go.finA rfl ?_|refine Go.finB rfl (hq:=?_))
   exact fin_str (by simp [hn0])
  by_cases hb : bit = 0
  case neg =>
   (refine Go.run (g:=?_))
   (first|refine Go.finA rfl ?_|refine Go.finB rfl (hq:=?_))
   exact fin_str (by simp [hb])
  refine Go.runN (g:=?_)
  refine Go.loud (by kernel_rfl) rfl ?_
  (refine Go.runL (g:=?_))
  refine GoL.callS rfl rfl rfl rfl rfl rfl rfl (((digits_spec (fr : Nat) (by omega) (by omega) _).argA).mono ?_)
  rintro _ H4 hv4 s4
  rw [dgI_nat] at hv4; subst hv4
  have g4 := s4.get g0
  refine GoL.strAdd (a := injL) rfl rfl rfl rfl rfl rfl (by simp only [List.length_cons, List.length_nil, injL]; omega) ?_
  refine GoL.strAdd (b := [32]) rfl rfl rfl rfl rfl rfl (by simp only [List.length_append, List.length_cons, List.length_nil, injL]; omega) ?_
  (refine Go.runL (g:=?_))
  refine GoL.callS rfl rfl rfl rfl rfl rfl rfl (((digits_spec (to : Nat) (by omega) (by omega) _).argA).mono ?_)
  rintro _ H5 hv5 s5
  rw [dgI_nat] at hv5; subst hv5
  have g5 := s5.get g4
  refine GoL.strAdd rfl rfl rfl rfl rfl rfl (by simp only [List.length_append, List.length_cons, List.length_nil, injL]; omega) ?_
  refine GoL.strAdd (b := [32]) rfl rfl rfl rfl rfl rfl (by simp only [List.length_append, List.length_cons, List.length_nil, injL]; omega) ?_
  (refine Go.runL (g:=?_))
  refine GoL.callS rfl rfl rfl rfl rfl rfl rfl (((hexR_spec ba bc bs (by omega) _ ((hB0.same s4).same s5)).argA).mono ?_)
  rintro _ H6 rfl s6
  refine GoL.strAdd rfl rfl rfl rfl rfl rfl (by simp only [List.length_append, List.length_cons, List.length_nil, injL]; omega) ?_
  (refine Go.runL (g:=?_))
  (refine GoL.end_ (g:=?_))
  (refine Go.run (g:=?_))
  (first|refine Go.finA rfl ?_|refine Go.finB rfl (hq:=?_))
  exact fin_str (by simp [hn0, hb])
 rw [if_neg k7]
 cases st
 ·
  (refine Go.run (g:=?_))
  (first|refine Go.finA rfl ?_|refine Go.finB rfl (hq:=?_))
  exact fin_str (by simp)
 by_cases k6 : k = 6
 ·
  subst k6
  (refine Go.run (g:=?_))
  refine GoR.call rfl rfl rfl rfl rfl rfl rfl (((digits_spec n n0 n1 _).argA).mono ?_)
  rintro _ H4 rfl s4
  have g4 := s4.get g0
  (refine Go.run (g:=?_))
  refine GoR.strAdd (a := mwL 6 ++ [32]) rfl rfl rfl rfl rfl rfl (by simp only [List.length_append, List.length_cons, List.length_nil, mwL]; omega) ?_
  refine GoR.strAdd (b := [32]) rfl rfl rfl rfl rfl rfl (by simp only [List.length_append, List.length_cons, List.length_nil, mwL]; omega) ?_
  (refine Go.run (g:=?_))
  refine GoR.call rfl rfl rfl rfl rfl rfl rfl (((digits_spec bit b0 b1 _).argA).mono ?_)
  rintro _ H5 rfl s5
  refine GoR.strAdd rfl rfl rfl rfl rfl rfl (by simp only [List.length_append, List.length_cons, List.length_nil, mwL]; omega) ?_
  (refine Go.run (g:=?_))
  (first|refine Go.finA rfl ?_|refine Go.finB rfl (hq:=?_))
  exact fin_str (by simp)
 by_cases hb : bit = 0
 case neg =>
  (refine Go.run (g:=?_))
  (first|refine Go.finA rfl ?_|refine Go.finB rfl (hq:=?_))
  exact fin_str (by simp [hb, k6])
 rw [if_neg (by simp [hb]), if_neg k6]
 (refine Go.run (g:=?_))
 refine GoR.call rfl rfl rfl rfl rfl rfl rfl (((digits_spec n n0 n1 _).argA).mono ?_)
 rintro _ H4 rfl s4
 have g4 := s4.get g0
 by_cases k2 : k = 2
 ·
  subst k2
  (refine Go.run (g:=?_))
  refine GoR.strAdd (a := mwL 2 ++ [32]) rfl rfl rfl rfl rfl rfl (by simp only [List.length_append, List.length_cons, List.length_nil, mwL]; omega) ?_
  (refine Go.run (g:=?_))
  (first|refine Go.finA rfl ?_|refine Go.finB rfl (hq:=?_))
  exact fin_str (if_pos (by omega))
 by_cases k3 : k = 3
 ·
  subst k3
  (refine Go.run (g:=?_))
  refine GoR.strAdd (a := mwL 3 ++ [32]) rfl rfl rfl rfl rfl rfl (by simp only [List.length_append, List.length_cons, List.length_nil, mwL]; omega) ?_
  (refine Go.run (g:=?_))
  (first|refine Go.finA rfl ?_|refine Go.finB rfl (hq:=?_))
  exact fin_str (if_pos (by omega))
 by_cases k4 : k = 4
 ·
  subst k4
  (refine Go.run (g:=?_))
  refine GoR.strAdd (a := mwL 4 ++ [32]) rfl rfl rfl rfl rfl rfl (by simp only [List.length_append, List.length_cons, List.length_nil, mwL]; omega) ?_
  (refine Go.run (g:=?_))
  (first|refine Go.finA rfl ?_|refine Go.finB rfl (hq:=?_))
  exact fin_str (if_pos (by omega))
 by_cases k5 : k = 5
 ·
  subst k5
  (refine Go.run (g:=?_))
  refine GoR.strAdd (a := mwL 5 ++ [32]) rfl rfl rfl rfl rfl rfl (by simp only [List.length_append, List.length_cons, List.length_nil, mwL]; omega) ?_
  (refine Go.run (g:=?_))
  (first|refine Go.finA rfl ?_|refine Go.finB rfl (hq:=?_))
  exact fin_str (if_pos (by omega))
 by_cases k8 : k = 8
 ·
  subst k8
  (refine Go.run (g:=?_))
  refine GoR.strAdd (a := mwL 8 ++ [32]) rfl rfl rfl rfl rfl rfl (by simp only [List.length_append, List.length_cons, List.length_nil, mwL]; omega) ?_
  (refine Go.run (g:=?_))
  (first|refine Go.finA rfl ?_|refine Go.finB rfl (hq:=?_))
  exact fin_str (if_pos (by omega))
 (refine Go.run (g:=?_))
 (first|refine Go.finA rfl ?_|refine Go.finB rfl (hq:=?_))
 exact fin_str (if_neg (by omega))
end Go.Proofs.YtncbbeghkpjpbaaGreatDoor
namespace Go.Proofs.YtncbbeghkpjpbaaGreatDoor
open Go.RowKit
set_option maxRecDepth 100000
attribute [local irreducible] Go GoR GoL
def mvcs (ms : List MvV) : List Value := ms.flatMap MvV.cs
theorem mvcs_len (ms : List MvV) : (mvcs ms).length = 16 * ms.length := by
 induction ms with
 | nil => rfl
 | cons m ms ih => simp only [mvcs, List.flatMap_cons, List.length_append, List.length_cons, List.length_nil] at *; omega
theorem mvcs_drop : ∀ (ms : List MvV) (i : Nat), (mvcs ms).drop (i * 16) = mvcs (ms.drop i)
 | [], i => by simp [mvcs]
 | m :: ms, 0 => by simp
 | m :: ms, i + 1 => by
  have e : (i + 1) * 16 = 16 + i * 16 := by omega
  rw [e, ← List.drop_drop]
  have : (mvcs (m :: ms)).drop 16 = mvcs ms := rfl
  rw [this, mvcs_drop ms i, List.drop_succ_cons]
theorem drop_at {α : Type} {l : List α} {i : Nat} {x : α} (h : l[i]? = some x) : l.drop i = x :: l.drop (i + 1) := by
 obtain ⟨hi, rfl⟩ := List.getElem?_eq_some_iff.1 h
 exact List.drop_eq_getElem_cons hi
theorem mvcs_at {ms : List MvV} {i : Nat} {m : MvV} (h : ms[i]? = some m) : (mvcs ms).drop (i * 16) = m.cs ++ mvcs (ms.drop (i + 1)) := by
 rw [mvcs_drop, drop_at h]; rfl
theorem mvcs_take {ms : List MvV} {i : Nat} {m : MvV} (h : ms[i]? = some m) : ((mvcs ms).drop (i * 16)).take 16 = m.cs := by
 rw [mvcs_at h]; rfl
theorem mvcs_cell {ms : List MvV} {i : Nat} {m : MvV} (h : ms[i]? = some m) (j : Nat) {v : Value} (hv : m.cs[j]? = some v) : (mvcs ms)[i * 16 + j]? = some v := by
 have := congrArg (·[j]?) (mvcs_at h)
 simp only [List.getElem?_drop] at this
 rw [this, List.getElem?_append_left (List.getElem?_eq_some_iff.1 hv).1]
 exact hv
structure MvsOk (h : AHeap) (a : Option Addr) (cap : Nat) (ms : List MvV) : Prop where
 R : Rv Tryz.prog h 16 a ms.length cap (mvcs ms)
 l : ms.length ≤ 2000000
 ok : ∀ m ∈ ms, MvOk h m
theorem MvsOk.same {h h' : AHeap} {a : Option Addr} {cap : Nat} {ms : List MvV} (k : MvsOk h a cap ms) (s : Same h h') : MvsOk h' a cap ms := ⟨k.R.same s, k.l, fun m hm => (k.ok m hm).same s⟩
set_option maxHeartbeats 16000000 in
theorem great_spec (a : Option Addr) (cap : Nat) (ms : List MvV) (h : AHeap) (ok : MvsOk h a cap ms) : CallS Tryz.prog [] 5 [.slice a ms.length cap] h fun v h' => ∃ b, v = .bool b := by
 obtain ⟨hR, hl, hok⟩ := ok
 (refine CallS.of1 Tryz.func5 rfl Tryz.ntmps5 Tryz.results5 rfl ?_)
 (refine Go.run (g:=?_))
 refine Go.loop (α := Nat × Nat) (fun s => [(0, .slice a ms.length cap), (3, .int .i64 (s.2 : Nat)), (4, .int .i64 (s.1 : Nat))]) (fun _ => []) (fun s => h) (fun s => s.1 ≤ ms.length ∧ s.2 ≤ 1500) (fun s => ms.length - s.1) (0, 0) ⟨Nat.zero_le _, Nat.zero_le _⟩ ⟨rfl, rfl, rfl, trivial⟩ rfl rfl ?_
 rintro ⟨i, n⟩ ⟨e1, e2⟩
 simp only at e1 e2 ⊢
 rcases Nat.lt_or_ge i ms.length with hi | hi
 ·
  obtain ⟨m, hm⟩ : ∃ m, ms[i]? = some m := ⟨_, List.getElem?_eq_getElem hi⟩
  have mok := hok m (List.mem_of_getElem? hm)
  have c1 := mvcs_cell hm 6 rfl
  have c2 := mvcs_cell hm 11 rfl
  have c3 := mvcs_cell hm 15 rfl
  have hlen := mvcs_len ms
  have b1 := mok.o.al
  have b2 := mok.o.zl
  have b3 := mok.bl
  have l1 : i * 16 < (mvcs ms).length := by omega
  have l2 : i * 16 + 4 < (mvcs ms).length := by omega
  have l3 : i * 16 + 4 + 4 < (mvcs ms).length := by omega
  have l4 : i * 16 + 13 < (mvcs ms).length := by omega
  have d1 : (mvcs ms)[i * 16 + 4 + 2]? = _ := c1
  have d2 : (mvcs ms)[i * 16 + 4 + 4 + 3]? = _ := c2
  have d3 : (mvcs ms)[i * 16 + 13 + 2]? = _ := c3
  (refine Go.run (g:=?_))
  generalize hN : n + 1 + (m.o.ads.length + m.o.zs.length + m.bs.length) / 16 = n2
  rcases Nat.lt_or_ge 1500 n2 with hn | hn
  ·
   (refine Go.run (g:=?_))
   (first|refine Go.finA rfl ?_|refine Go.finB rfl (hq:=?_))
   exact ⟨_, rfl⟩
  ·
   (refine Go.run (g:=?_))
   refine Go.again (i + 1, n2) ⟨(by show i + 1 ≤ _; omega), hn⟩ (by show ms.length - (i + 1) < ms.length - i; omega) ⟨rfl, rfl, rfl, trivial⟩ rfl rfl
 ·
  obtain rfl : i = ms.length := by omega
  (refine Go.run (g:=?_))
  (first|refine Go.finA rfl ?_|refine Go.finB rfl (hq:=?_))
  exact ⟨_, rfl⟩
end Go.Proofs.YtncbbeghkpjpbaaGreatDoor
namespace Go.Proofs.YtncbbeghkpjpbaaGreatDoor
open Go.RowKit
set_option maxRecDepth 100000
attribute [local irreducible] Go GoR GoL
def txt (ms : List MvV) : List UInt8 := ms.flatMap fun m => lineL m ++ [10]
def badIx : List MvV → Option Nat
 | [] => none
 | m :: ms => if lineL m = [] then some 0 else (badIx ms).map (· + 1)
def prV (s : List UInt8) (n e : Nat) : Value := .tuple #[stv s, .int .i64 (n : Nat), .int .i64 (e : Nat)]
def printL (ms : List MvV) : Value :=
 if 5000 < ms.length then prV [] 0 3 else match badIx ms with
  | some i => prV [] i 2
  | none => if 262144 < (txt ms).length then prV [] 0 3 else prV (txt ms) 0 0
theorem badIx_at {ms : List MvV} {i : Nat} {m : MvV} (h : ms[i]? = some m) (hi : badIx ms = (badIx (ms.drop i)).map (· + i)) : badIx ms = if lineL m = [] then some i else (badIx (ms.drop (i + 1))).map (· + (i + 1)) := by
 rw [hi, drop_at h, badIx]
 split
 · simp
 ·
  cases badIx (ms.drop (i + 1)) with
  | none => rfl
  | some j => simp; omega
theorem txt_snoc {ms : List MvV} {i : Nat} {m : MvV} (h : ms[i]? = some m) : txt (ms.take (i + 1)) = txt (ms.take i) ++ (lineL m ++ [10]) := by
 rw [take_snoc h]; simp [txt]
theorem lineL_len {h : AHeap} {m : MvV} (ok : MvOk h m) : (lineL m).length ≤ 400000000 := by
 obtain ⟨hk, hho, n0, n1, b0, b1, hop, hfr, hto, hB, hbl⟩ := ok
 have ln := dgI_len n0 n1
 have lb := dgI_len b0 b1
 have lf := dg_len 19 m.fr (by omega)
 have lt := dg_len 19 m.to (by omega)
 have lh := dg_len 19 m.host (by omega)
 have lx := hxL_len m.bs
 have lo := opL_len hop
 have lm := mwL_len m.k
 have lm6 := mwL_len 6
 have lbl : blockL.length = 6 := rfl
 unfold lineL
 (repeat' split) <;> simp only [List.length_append, List.length_cons, List.length_nil, callL, blockL, injL] <;> omega
theorem txt_len {h : AHeap} {ms : List MvV} (ok : ∀ m ∈ ms, MvOk h m) : (txt ms).length ≤ ms.length * 400000001 := by
 induction ms with
 | nil => simp [txt]
 | cons m ms ih =>
  have h1 := lineL_len (ok m (List.mem_cons_self ..))
  have h2 := ih fun x hx => ok x (List.mem_cons_of_mem _ hx)
  simp only [txt, List.flatMap_cons, List.length_append, List.length_cons, List.length_nil] at *
  omega
theorem printL_bad {ms : List MvV} {i : Nat} (h0 : ms.length ≤ 5000) (h : badIx ms = some i) : printL ms = prV [] i 2 := by
 unfold printL; rw [if_neg (by omega), h]
theorem printL_long {ms : List MvV} (h0 : ms.length ≤ 5000) (h : badIx ms = none) (h1 : 262144 < (txt ms).length) : printL ms = prV [] 0 3 := by
 unfold printL; rw [if_neg (by omega), h]; exact if_pos h1
theorem printL_ok {ms : List MvV} (h0 : ms.length ≤ 5000) (h : badIx ms = none) (h1 : (txt ms).length ≤ 262144) : printL ms = prV (txt ms) 0 0 := by
 unfold printL; rw [if_neg (by omega), h]; exact if_neg (by omega)
set_option maxHeartbeats 16000000 in
theorem refPrint_spec (a : Option Addr) (cap : Nat) (ms : List MvV) (h : AHeap) (ok : MvsOk h a cap ms) : CallS Tryz.prog [] 7 [.slice a ms.length cap] h fun v _ => v = printL ms := by
 have hl := ok.l
 have hlen := mvcs_len ms
 (refine CallS.of1 Tryz.func7 rfl Tryz.ntmps7 Tryz.results7 rfl ?_)
 rcases Nat.lt_or_ge 5000 ms.length with h5 | h5
 ·
  (refine Go.run (g:=?_))
  (first|refine Go.finA rfl ?_|refine Go.finB rfl (hq:=?_))
  unfold printL; rw [if_pos h5]; rfl
 (refine Go.run (g:=?_))
 refine Go.loop (α := Nat × AHeap) (fun s => [(0, .slice a ms.length cap), (5, stv (txt (ms.take s.1))), (6, .int .i64 (s.1 : Nat))]) (fun _ => []) (fun s => s.2) (fun s => s.1 ≤ ms.length ∧ Same h s.2 ∧ badIx ms = (badIx (ms.drop s.1)).map (· + s.1)) (fun s => ms.length - s.1) (0, h) ⟨Nat.zero_le _, .refl _, by simp⟩ ⟨rfl, rfl, rfl, trivial⟩ rfl rfl ?_
 rintro ⟨i, H⟩ ⟨e1, s, hb⟩
 simp only at e1 s hb ⊢
 have ok' := ok.same s
 have hR' := ok'.R
 rcases Nat.lt_or_ge i ms.length with hi | hi
 ·
  obtain ⟨m, hm⟩ : ∃ m, ms[i]? = some m := ⟨_, List.getElem?_eq_getElem hi⟩
  have mok := ok'.ok m (List.mem_of_getElem? hm)
  have tk := mvcs_take hm
  have l1 : i * 16 + 16 ≤ (mvcs ms).length := by omega
  have hb2 := badIx_at hm hb
  have lL := lineL_len mok
  have tL := txt_len (ms := ms.take i) fun x hx => ok.ok x (List.mem_of_mem_take hx)
  have tl : (ms.take i).length ≤ ms.length := List.length_take_le' ..
  have ts := txt_snoc hm
  (refine Go.run (g:=?_))
  refine GoR.call rfl rfl rfl rfl rfl rfl rfl (((refLine_spec m _ mok).argA).mono ?_)
  rintro _ H2 rfl s2
  rcases Decidable.em (lineL m = []) with hz | hz
  ·
   have hz' : decide (lineL m = []) = true := decide_eq_true hz
   rw [if_pos hz] at hb2
   (refine Go.run (g:=?_))
   (first|refine Go.finA rfl ?_|refine Go.finB rfl (hq:=?_))
   rw [printL_bad h5 hb2]; rfl
  ·
   have hz' : decide (lineL m = []) = false := decide_eq_false hz
   rw [if_neg hz] at hb2
   (refine Go.run (g:=?_))
   refine GoR.strAdd (a := txt (ms.take i)) (b := lineL m) rfl rfl rfl rfl rfl rfl (by omega) ?_
   refine GoR.strAdd (b := [10]) rfl rfl rfl rfl rfl rfl (by simp only [List.length_append, List.length_cons, List.length_nil]; omega) ?_
   rw [List.append_assoc, ← ts]
   (refine Go.run (g:=?_))
   refine Go.again (i + 1, H2) ⟨(by show i + 1 ≤ _; omega), s.trans s2, hb2⟩ (by show ms.length - (i + 1) < ms.length - i; omega) ⟨rfl, rfl, rfl, trivial⟩ rfl rfl
 ·
  obtain rfl : i = ms.length := by omega
  rw [List.drop_length] at hb
  have hb : badIx ms = none := hb
  rw [List.take_length]
  rcases Nat.lt_or_ge 262144 (txt ms).length with ht | ht
  ·
   (refine Go.run (g:=?_))
   (first|refine Go.finA rfl ?_|refine Go.finB rfl (hq:=?_))
   rw [printL_long h5 hb ht]; rfl
  ·
   (refine Go.run (g:=?_))
   (first|refine Go.finA rfl ?_|refine Go.finB rfl (hq:=?_))
   rw [printL_ok h5 hb ht]; rfl
set_option maxHeartbeats 16000000 in
theorem print_spec (a : Option Addr) (cap : Nat) (ms : List MvV) (h : AHeap) (hG : Holds GH h) (ok : MvsOk h a cap ms) : CallS Tryz.prog [] 6 [.slice a ms.length cap] h fun v _ => v = printL ms := by
 have hl := ok.l
 have hlen := mvcs_len ms
 (refine CallS.of1 Tryz.func6 rfl Tryz.ntmps6 Tryz.results6 rfl ?_)
 rcases Nat.lt_or_ge 5000 ms.length with h5 | h5
 ·
  (refine Go.run (g:=?_))
  (first|refine Go.finA rfl ?_|refine Go.finB rfl (hq:=?_))
  unfold printL; rw [if_pos h5]; rfl
 (refine Go.run (g:=?_))
 refine Go.name ?_
 intro H1 eH1
 have s1 : Same h H1 := by rw [eH1]; exact (Same.refl h).push _
 have n1 : H1.n = h.n + 1 := by rw [eH1]; rfl
 have B1 : BU H1 h.n none none 0 [] := ⟨by rw [eH1]; exact AHeap.get_push_same _ _, .inl rfl, .nil, fun e => by cases e⟩
 clear eH1
 refine Go.loop (α := Nat × List UInt8 × Option Addr × Option Addr × Nat × AHeap) (fun s => [(15, .int .i64 (s.1 : Nat)), (14, .int .i64 (ms.length : Nat)), (13, .slice a ms.length cap), (5, .pointer (some ⟨h.n, 0, none⟩))]) (fun _ => []) (fun s => s.2.2.2.2.2) (fun s => s.1 ≤ ms.length ∧ Same h s.2.2.2.2.2 ∧ BU s.2.2.2.2.2 h.n s.2.2.1 s.2.2.2.1 s.2.2.2.2.1 s.2.1 ∧ (∀ i ∈ blk s.2.2.2.1, h.n ≤ i) ∧ h.n < s.2.2.2.2.2.n ∧ badIx ms = (badIx (ms.drop s.1)).map (· + s.1) ∧ (s.2.1 = txt (ms.take s.1) ∨ (262144 < s.2.1.length ∧ 262144 < (txt (ms.take s.1)).length)) ∧ s.2.1.length ≤ 500000000 ∧ (s.2.1 = [] → s.2.2.1 = none ∧ s.2.2.2.1 = none ∧ s.2.2.2.2.1 = 0)) (fun s => ms.length - s.1) (0, [], none, none, 0, H1) ?_ ?_ rfl rfl ?_
 · exact ⟨Nat.zero_le _, s1, B1, (fun i hi => by simp [blk] at hi), (by show h.n < H1.n; omega), by simp, .inl rfl, by simp, fun _ => ⟨rfl, rfl, rfl⟩⟩
 · exact ⟨rfl, rfl, rfl, rfl, trivial⟩
 rintro ⟨i, zs, p, b, c, H⟩ ⟨e1, s, B, ow, m0, hb, hz, hzl, h0⟩
 simp only at e1 s B ow m0 hb hz hzl h0 ⊢
 have ok' := ok.same s
 have hR' := ok'.R
 have gB := B.g
 rcases Nat.lt_or_ge i ms.length with hi | hi
 ·
  obtain ⟨m, hm⟩ : ∃ m, ms[i]? = some m := ⟨_, List.getElem?_eq_getElem hi⟩
  have mok := ok'.ok m (List.mem_of_getElem? hm)
  have tk := mvcs_take hm
  have l1 : i * 16 + 16 ≤ (mvcs ms).length := by omega
  have hb2 := badIx_at hm hb
  have lL := lineL_len mok
  have ts := txt_snoc hm
  (refine Go.run (g:=?_))
  refine GoR.name ?_
  intro H2 eH2
  have s2 : Same H H2 := by rw [eH2]; exact ((Same.refl H).push _).put (Nat.le_refl _) _
  have m2 := s2.1
  clear eH2
  have B2 := B.same s2
  refine GoR.call rfl rfl rfl rfl rfl rfl rfl (((line_spec m _ (hG.same (s.trans s2)) (mok.same s2)).argA).mono ?_)
  rintro _ H3 rfl s3
  have m3 := s3.1
  have B3 := B2.same s3
  have s03 := (s.trans s2).trans s3
  rcases Decidable.em (lineL m = []) with hzz | hzz
  ·
   rw [if_pos hzz] at hb2
   rw [show decide (lineL m ≠ []) = false from by simp [hzz]]
   (refine Go.run (g:=?_))
   (first|refine Go.finA rfl ?_|refine Go.finB rfl (hq:=?_))
   rw [printL_bad h5 hb2]; rfl
  rw [if_neg hzz] at hb2
  rw [show decide (lineL m ≠ []) = true from by simp [hzz]]
  (refine Go.run (g:=?_))
  refine GoR.call rfl rfl rfl rfl rfl rfl rfl (((bLen_spec h.n p b c zs _ B3).argA).mono ?_)
  rintro _ H4 ⟨rfl, rfl⟩ s4
  clear s4
  rcases Nat.lt_or_ge 262144 zs.length with ht | ht
  ·
   (refine Go.run (g:=?_))
   refine Go.again (i + 1, zs, p, b, c, H4) ⟨(by show i + 1 ≤ _; omega), s03, B3, ow, (by show h.n < H4.n; omega), hb2, .inr ⟨ht, ?_⟩, hzl, fun e => ?_⟩ (by show ms.length - (i + 1) < ms.length - i; omega) ⟨rfl, rfl, rfl, rfl, trivial⟩ rfl rfl
   ·
    show 262144 < (txt (ms.take (i + 1))).length
    rw [ts, List.length_append]
    rcases hz with rfl | hz
    · omega
    · omega
   ·
    have e : zs = [] := e
    rw [e] at ht; simp at ht
  ·
   have hzt : zs = txt (ms.take i) := hz.resolve_right fun e => by omega
   (refine Go.run (g:=?_))
   refine GoR.strAdd (a := lineL m) (b := [10]) rfl rfl rfl rfl rfl rfl (by simp only [List.length_cons, List.length_nil]; omega) ?_
   (refine Go.run (g:=?_))
   refine GoR.callW rfl rfl rfl rfl rfl rfl rfl (((writeString_spec h.n p b c zs (lineL m ++ [10]) (by omega) (by simp only [List.length_append, List.length_cons, List.length_nil]; omega) _ B3).argA).mono ?_)
   rintro _ H5 ⟨p2, b2, c2, B5, o5⟩ k5
   have w5 : ∀ i ∈ h.n :: blk b, h.n ≤ i := fun i hi => (List.mem_cons.1 hi).elim (fun e => by omega) (ow i)
   refine ⟨fun i hi => .inr (w5 i hi), ?_⟩
   have s05 := same_keeps s03 k5 w5
   have m5 := k5.1
   rw [hzt, ← ts] at B5
   (refine Go.run (g:=?_))
   refine Go.again (i + 1, txt (ms.take (i + 1)), p2, b2, c2, H5) ⟨(by show i + 1 ≤ _; omega), s05, B5, (fun j hj => (o5 j hj).elim (ow j) fun e => by omega), (by show h.n < H5.n; omega), hb2, .inl rfl, ?_, fun e => ?_⟩ (by show ms.length - (i + 1) < ms.length - i; omega) ⟨rfl, rfl, rfl, rfl, trivial⟩ rfl rfl
   ·
    show (txt (ms.take (i + 1))).length ≤ 500000000
    rw [ts, List.length_append, ← hzt, List.length_append]; simp only [List.length_cons, List.length_nil]; omega
   ·
    have e : txt (ms.take (i + 1)) = [] := e
    rw [ts] at e; simp at e
 ·
  obtain rfl : i = ms.length := by omega
  rw [List.drop_length] at hb
  have hb : badIx ms = none := hb
  rw [List.take_length] at hz
  (refine Go.run (g:=?_))
  refine GoR.call rfl rfl rfl rfl rfl rfl rfl (((bLen_spec h.n p b c zs _ B).argA).mono ?_)
  rintro _ H4 ⟨rfl, rfl⟩ s4
  clear s4
  rcases Nat.lt_or_ge 262144 zs.length with ht | ht
  ·
   have ht2 : 262144 < (txt ms).length := by rcases hz with rfl | hz <;> omega
   (refine Go.run (g:=?_))
   (first|refine Go.finA rfl ?_|refine Go.finB rfl (hq:=?_))
   rw [printL_long h5 hb ht2]; rfl
  ·
   obtain rfl : zs = txt ms := hz.resolve_right fun e => by omega
   rcases Nat.eq_zero_or_pos (txt ms).length with hq | hq
   ·
    have hq : txt ms = [] := List.length_eq_zero_iff.1 hq
    obtain ⟨rfl, rfl, rfl⟩ := h0 hq
    rw [printL_ok h5 hb ht]
    rw [hq] at B ⊢
    (refine Go.run (g:=?_))
    refine GoR.call rfl rfl rfl rfl rfl rfl rfl (((bstring0_spec h.n _ B).argA).mono ?_)
    rintro _ H5 rfl s5
    (refine Go.run (g:=?_))
    (first|refine Go.finA rfl ?_|refine Go.finB rfl (hq:=?_))
    rfl
   ·
    (refine Go.run (g:=?_))
    refine GoR.callW rfl rfl rfl rfl rfl rfl rfl (((bstring_spec h.n p b c _ hq (by omega) _ B).argA).mono ?_)
    rintro _ H5 rfl k5
    refine ⟨fun i hi => .inr (ow i hi), ?_⟩
    (refine Go.run (g:=?_))
    (first|refine Go.finA rfl ?_|refine Go.finB rfl (hq:=?_))
    rw [printL_ok h5 hb ht]; rfl
end Go.Proofs.YtncbbeghkpjpbaaGreatDoor
namespace Go.Proofs.YtncbbeghkpjpbaaGreatDoor
open Go.RowKit
set_option maxRecDepth 100000
attribute [local irreducible] Go GoR GoL
theorem printL_form (ms : List MvV) : ∃ s n e, printL ms = prV s n e := by
 unfold printL
 split
 · exact ⟨_, _, _, rfl⟩
 ·
  split
  · exact ⟨_, _, _, rfl⟩
  · split <;> exact ⟨_, _, _, rfl⟩
set_option maxHeartbeats 32000000 in
theorem scriptPrints_spec (a : Option Addr) (cap : Nat) (ms : List MvV) (h : AHeap) (hG : Holds GH h) (ok : MvsOk h a cap ms) : CallS Tryz.prog [] 3 [.slice a ms.length cap] h fun v _ => v = .bool true := by
 have hl := ok.l
 have hlen := mvcs_len ms
 obtain ⟨ps, pn, pe, hp⟩ := printL_form ms
 (refine CallS.of1 Tryz.func3 rfl Tryz.ntmps3 Tryz.results3 rfl ?_)
 (refine Go.run (g:=?_))
 refine GoR.call rfl rfl rfl rfl rfl rfl rfl (((known32 _ hG).argA).mono ?_)
 rintro _ H1 ⟨rfl, rfl⟩ s1
 clear s1
 (refine Go.run (g:=?_))
 refine GoR.call rfl rfl rfl rfl rfl rfl rfl (((great_spec a cap ms _ ok).argA).mono ?_)
 rintro _ H1 ⟨gr, rfl⟩ s1
 have ok1 := ok.same s1
 have hG1 := hG.same s1
 have hR1 := ok1.R
 cases gr
 case' true => rcases Nat.lt_or_ge 5000 ms.length with h5 | h5
 case' true.inr =>
  (refine Go.run (g:=?_))
  (first|refine Go.finA rfl ?_|refine Go.finB rfl (hq:=?_))
  rfl
 all_goals
  (refine Go.run (g:=?_))
  refine GoR.call rfl rfl rfl rfl rfl rfl rfl (((print_spec a cap ms _ hG1 ok1).argA).mono ?_)
  rintro _ H2 rfl s2
  rw [hp]
  have ok2 := ok1.same s2
  have hG2 := hG1.same s2
  (refine Go.run (g:=?_))
  refine GoR.call rfl rfl rfl rfl rfl rfl rfl (((refPrint_spec a cap ms _ ok2).argA).mono ?_)
  rintro _ H3 rfl s3
  rw [hp]
  have ok3 := ok2.same s3
  have hG3 := hG2.same s3
  (refine Go.run (g:=?_))
  refine Go.loop (α := Nat × AHeap) (fun s => [(36, .int .i64 (s.1 : Nat)), (35, .int .i64 (ms.length : Nat)), (34, .slice a ms.length cap), (3, stv ps), (4, .int .i64 (pn : Nat)), (5, .int .i64 (pe : Nat)), (6, stv ps), (7, .int .i64 (pn : Nat)), (8, .int .i64 (pe : Nat))]) (fun _ => []) (fun s => s.2) (fun s => s.1 ≤ ms.length ∧ Same H3 s.2) (fun s => ms.length - s.1) (0, H3) ⟨Nat.zero_le _, .refl _⟩ ⟨rfl, rfl, rfl, rfl, rfl, rfl, rfl, rfl, rfl, trivial⟩ rfl rfl ?_
  rintro ⟨i, H⟩ ⟨e1, s⟩
  simp only at e1 s ⊢
  have ok4 := ok3.same s
  have hG4 := hG3.same s
  have hR' := ok4.R
  have q1 := s1.1
  have q2 := s2.1
  have q3 := s3.1
  have q4 := s.1
  rcases Nat.lt_or_ge i ms.length with hi | hi
  ·
   obtain ⟨m, hm⟩ : ∃ m, ms[i]? = some m := ⟨_, List.getElem?_eq_getElem hi⟩
   have mok := ok4.ok m (List.mem_of_getElem? hm)
   have tk := mvcs_take hm
   have l1 : i * 16 + 16 ≤ (mvcs ms).length := by omega
   (refine Go.run (g:=?_))
   refine GoR.name ?_
   intro H5 eH5
   have s5 : Same H H5 := by rw [eH5]; exact ((Same.refl H).push _).put (Nat.le_refl _) _
   have g5 : H5.get H.n = some m.ob := by rw [eH5]; exact AHeap.get_put_same _ (by simp) _
   have m5 := s5.1
   clear eH5
   refine GoR.call rfl rfl rfl rfl rfl rfl rfl (((line_spec m _ (hG4.same s5) (mok.same s5)).argA).mono ?_)
   rintro _ H6 rfl s6
   have g6 := s6.get g5
   have s56 := s5.trans s6
   rcases Nat.lt_or_ge i 1500 with hq | hq
   ·
    (refine Go.run (g:=?_))
    refine GoR.call rfl rfl rfl rfl rfl rfl rfl (((refLine_spec m _ (mok.same s56)).argA).mono ?_)
    rintro _ H7 rfl s7
    (refine Go.run (g:=?_))
    refine GoR.boolNe rfl rfl rfl rfl rfl rfl (by kernel_rfl) ?_
    rw [show (!(decide (lineL m ≠ []) == !decide (lineL m = []))) = false from by by_cases q : lineL m = [] <;> simp [q]]
    (refine Go.run (g:=?_))
    refine Go.again (i + 1, H7) ⟨(by show i + 1 ≤ _; omega), (s.trans s56).trans s7⟩ (by show ms.length - (i + 1) < ms.length - i; omega) ⟨rfl, rfl, rfl, rfl, rfl, rfl, rfl, rfl, rfl, trivial⟩ rfl rfl
   ·
    (refine Go.run (g:=?_))
    refine Go.again (i + 1, H6) ⟨(by show i + 1 ≤ _; omega), s.trans s56⟩ (by show ms.length - (i + 1) < ms.length - i; omega) ⟨rfl, rfl, rfl, rfl, rfl, rfl, rfl, rfl, rfl, trivial⟩ rfl rfl
  ·
   obtain rfl : i = ms.length := by omega
   (refine Go.run (g:=?_))
   (first|refine Go.finA rfl ?_|refine Go.finB rfl (hq:=?_))
   simp; rfl
end Go.Proofs.YtncbbeghkpjpbaaGreatDoor
namespace Go.Proofs.YtncbbeghkpjpbaaGreatDoor
open Go.ChangeShapes Go.WideShapes Go.ChangeAt Go.RowKit
set_option maxRecDepth 100000
def pow10Z : List Int := [1, 10, 100, 1000, 10000, 100000, 1000000, 10000000, 100000000, 1000000000, 10000000000, 100000000000, 1000000000000, 10000000000000, 100000000000000, 1000000000000000, 10000000000000000, 100000000000000000, 1000000000000000000, 10000000000000000000]
theorem pow10Z_eq : pow10L = pow10Z.map fun z => Value.int .u64 z := by rfl
theorem gPow : Tryz.prog.globalNamed "internal/strconv.uint64pow10" = some 0 := by kernel_rfl
theorem gPowT : (Tryz.prog.globals[0]?).map (·.type) = some 105 := by kernel_rfl
theorem uPow : Tryz.prog.underlying 105 = some (.array 20 62) := by kernel_rfl
theorem uU64 : Tryz.prog.underlying 62 = some (.int .u64) := by kernel_rfl
theorem cU64 : Tryz.prog.cellsOf 62 = 1 := by kernel_rfl
theorem cPow : Tryz.prog.cellsOf 105 = 20 := by kernel_rfl
def laid32 : List (String × DataW Unit) := [("math/bits.deBruijn32tab", Rows.laid_math_bits_deBruijn32tab), ("math/bits.deBruijn64tab", Rows.laid_math_bits_deBruijn64tab), ("internal/strconv.uint64pow10", Rows.laid_internal_strconv_uint64pow10), ("unicode/utf8.acceptRanges", Rows.laid_unicode_utf8_acceptRanges), ("strconv.ErrRange", Rows.laid_strconv_ErrRange), ("strconv.ErrSyntax", Rows.laid_strconv_ErrSyntax), ("unicode/utf8.first", Rows.laid_unicode_utf8_first)]
theorem laid_plain {W : World} (h : laidMetH Tryz.prog laid32 W) : laidMet Tryz.prog laid32 W := by
 rwa [MakeChecks.laidMetH_plain _ _ _ (by kernel_rfl)] at h
theorem laid_lt {P : Program} {W : World} : ∀ (l : List (String × DataW Unit)), laidMet P l W → ∀ x ∈ l, ∃ g, P.globalNamed x.1 = some g ∧ g < W.heap.size
 | [], _, x, hx => by cases hx
 | y :: l, h, x, hx => by
  rcases List.mem_cons.1 hx with rfl | hx
  ·
   obtain ⟨ps, ⟨g, t, cs, fuel, p, q, hg, ht, hv, hd, _⟩, _⟩ := h
   refine ⟨g, hg, ?_⟩
   simp only [World.var?, hg, Option.bind_some] at hv
   cases hq : W.heap[g]? with
   | none => rw [hq] at hv; cases hv
   | some o => exact (Array.getElem?_eq_some_iff.1 hq).1
  · exact laid_lt l h.tail x hx
theorem has7 : (laid32.any fun x => Tryz.prog.globalNamed x.1 == some 7) = true := by kernel_rfl
theorem heap8 {W : World} (h : laidMet Tryz.prog laid32 W) : 8 ≤ W.heap.size := by
 obtain ⟨x, hx, e⟩ := List.any_eq_true.1 has7
 obtain ⟨g, hg, hl⟩ := laid_lt _ h x hx
 rw [hg] at e
 have : g = 7 := by simpa using e
 omega
theorem pow_tab {W : World} (h : laidMet Tryz.prog laid32 W) : Lib.TabIs Tryz.prog W "internal/strconv.uint64pow10" .u64 pow10Z :=
 Lib.tabIs_of_head (rest := _) gPow gPowT uPow uU64 cU64 cPow (h.tail.tail : laidMet Tryz.prog (("internal/strconv.uint64pow10", Lib.tabData .u64 pow10Z) :: _) W)
theorem imGH {W : World} (h : laidMetH Tryz.prog laid32 W) : Im Tryz.prog W (mG GH.n) GH := by
 have hp := laid_plain h
 refine imG GH_flat (heap8 hp) fun i c e => ?_
 obtain ⟨rfl, e2⟩ := GH_get i _ e
 cases e2
 have ht := pow_tab hp
 unfold Lib.TabIs at ht
 rw [← pow10Z_eq] at ht
 simp only [World.var?, gPow, Option.bind_some] at ht
 cases hq : W.heap[0]? with
 | none => rw [hq] at ht; cases ht
 | some o =>
  rw [hq] at ht
  cases o with
  | cells c' t fz =>
   simp only [Option.some.injEq] at ht
   subst ht
   exact ⟨_, t, fz, rfl, fun j v hv => by simpa using hv⟩
  | _ => cases ht
theorem mG_main : MOk Tryz.prog (mG GH.n) := mG_ok GH_size
end Go.Proofs.YtncbbeghkpjpbaaGreatDoor
namespace Go
open Go.ChangeShapes
variable {H : Type} {enc : TypeId × Value → H}
end Go
namespace Go.Proofs.YtncbbeghkpjpbaaGreatDoor
section
variable {P : Program} {h : AHeap} {H : Type}
open _root_.Go.Proofs.YtncbbeghkpjpbaaGreatDoor.Rows
theorem bulk_pos (d : DataW H) : 1 ≤ uptoBulk d := by
 cases d <;> (unfold uptoBulk; first | omega | (split <;> omega))
theorem bulk_mem : ∀ {ds : List (DataW H)} {d : DataW H}, d ∈ ds → uptoBulk d ≤ uptoBulkAll ds
 | x :: ds, d, hd => by
  simp only [uptoBulkAll]
  rcases List.mem_cons.1 hd with rfl | hd
  · omega
  · have := bulk_mem hd; omega
theorem bulk_len : ∀ (ds : List (DataW H)), ds.length ≤ uptoBulkAll ds
 | [] => Nat.le_refl _
 | x :: ds => by
  have := bulk_len ds
  have := bulk_pos x
  simp only [uptoBulkAll, List.length_cons]; omega
theorem ARd.bulk_slice {t e : TypeId} {a : Option Addr} {len cap : Nat} {d : DataW H} (r : ARd P h t [.slice a len cap] d) (hu : P.underlying t = some (.slice e)) : len ≤ uptoBulk d := by
 cases r with
 | snil hu' => exact Nat.zero_le _
 | slice hu' hR hm hl he =>
  rename_i ds rest
  have := bulk_len ds
  unfold uptoBulk
  omega
 | struct hu' => rw [hu] at hu'; cases hu'
theorem ARd.fieldB {t : TypeId} {fs : Array Field} {cs : List Value} {d : DataW H} (r : ARd P h t cs d) {B : Nat} (z : uptoBulk d ≤ B) (hu : P.underlying t = some (.struct fs)) : ∀ (i ty off sz : Nat), (fs[i]?).map (fun f => (f.type, f.offset)) = some (ty, off) → P.cellsOf ty = sz → ∃ d', ARd (H := H) P h ty ((cs.drop off).take sz) d' ∧ uptoBulk d' ≤ B := by
 cases r with
 | struct hu' hl hx hf =>
  rw [hu] at hu'; cases hu'
  refine fun i ty off sz e hs => ?_
  subst hs
  cases hq : fs[i]? with
  | none => simp [hq] at e
  | some f =>
   simp only [hq, Option.map_some, Option.some.injEq, Prod.mk.injEq] at e
   obtain ⟨rfl, rfl⟩ := e
   have hi := (Array.getElem?_eq_some_iff.1 hq).1
   rename_i xs
   refine ⟨_, hf i f xs[i] hq (List.getElem?_eq_getElem (by omega)), ?_⟩
   have := bulk_mem (List.getElem_mem (l := xs) (show i < xs.length by omega))
   unfold uptoBulk at z
   omega
 | bool hu' => rw [hu] at hu'; cases hu'
 | int hu' hw => rw [hu] at hu'; cases hu'
 | str hu' => rw [hu] at hu'; cases hu'
 | snil hu' => rw [hu] at hu'; cases hu'
 | slice hu' => rw [hu] at hu'; cases hu'
theorem small_mem {ds : List (DataW H)} (h : uptoSmall H ds = true) {d : DataW H} {j : Nat} (hd : ds[j]? = some d) : uptoBulk d ≤ 1048576 := by
 have := of_decide_eq_true h
 exact Nat.le_trans (bulk_mem (List.mem_of_getElem? hd)) this
end
end Go.Proofs.YtncbbeghkpjpbaaGreatDoor
namespace Go.Proofs.YtncbbeghkpjpbaaGreatDoor
open Go.ChangeShapes Go.WideShapes Go.ChangeAt Go.RowKit
open Go.Proofs.YtncbbeghkpjpbaaGreatDoor.Rows (uptoBulk uptoBulkAll uptoSmall)
set_option maxRecDepth 100000
theorem plainMvs : plainB Tryz.prog 10 22 = true := by kernel_rfl
theorem i64_of {x : Int} (h : (Lit.int .i64 x).wf = true) : -9223372036854775808 ≤ x ∧ x < 9223372036854775808 := by
 have hb : -(2 : Int) ^ 63 ≤ x ∧ x ≤ 2 ^ 63 - 1 := by simpa [Lit.wf, IntKind.min, IntKind.max, IntKind.signed, IntKind.bits] using h
 omega
theorem intU5 : Tryz.prog.underlying 3 = some (.int .i64) := by kernel_rfl
theorem u8U5 : Tryz.prog.underlying 5 = some (.int .u8) := by kernel_rfl
theorem u16U5 : Tryz.prog.underlying 29 = some (.int .u16) := by kernel_rfl
theorem u32U5 : Tryz.prog.underlying 30 = some (.int .u32) := by kernel_rfl
theorem boolU5 : Tryz.prog.underlying 4 = some .bool := by kernel_rfl
theorem bytesU5 : Tryz.prog.underlying 31 = some (.slice 5) := by kernel_rfl
theorem u32sU5 : Tryz.prog.underlying 28 = some (.slice 30) := by kernel_rfl
theorem mvsU5 : Tryz.prog.underlying 22 = some (.slice 39) := by kernel_rfl
theorem ARd.slice_invB {P : Program} {H : Type} {h : AHeap} {t e : TypeId} {cs : List Value} {d : DataW H} (r : ARd P h t cs d) {B : Nat} (z : uptoBulk d ≤ B) (hu : P.underlying t = some (.slice e)) : ∃ a len cap c, cs = [.slice a len cap] ∧ Rv P h (P.cellsOf e) a len cap c ∧ cap ≤ maxLen ∧ ∀ i, i < len → ∃ d', ARd (H := H) P h e ((c.drop (i * P.cellsOf e)).take (P.cellsOf e)) d' ∧ uptoBulk d' ≤ B := by
 cases r with
 | snil hu' => exact ⟨none, 0, 0, [], rfl, .nil, Nat.zero_le _, fun i hi => by omega⟩
 | slice hu' hR hm hl he =>
  rw [hu] at hu'; cases hu'
  rename_i ds rest
  refine ⟨_, _, _, _, rfl, hR, hm, fun i hi => ⟨ds[i]'(by omega), he i _ (List.getElem?_eq_getElem (by omega)), ?_⟩⟩
  have := bulk_mem (List.getElem_mem (l := ds) (show i < ds.length by omega))
  unfold uptoBulk at z
  omega
 | bool hu' => rw [hu] at hu'; cases hu'
 | int hu' hw => rw [hu] at hu'; cases hu'
 | str hu' => rw [hu] at hu'; cases hu'
 | struct hu' => rw [hu] at hu'; cases hu'
theorem cellsP {α : Type} {f : α → List Value} {p : α → Prop} {sz : Nat} : ∀ (len : Nat) (c : List Value), c.length = len * sz → (∀ i, i < len → ∃ x, (c.drop (i * sz)).take sz = f x ∧ p x) → ∃ l : List α, l.length = len ∧ c = (l.map f).flatten ∧ ∀ x ∈ l, p x
 | 0, c, hl, _ => ⟨[], rfl, by simpa using hl, fun x hx => by cases hx⟩
 | n + 1, c, hl, each => by
  obtain ⟨x, e, hp⟩ := each 0 (by omega)
  rw [Nat.zero_mul, List.drop_zero] at e
  obtain ⟨l, h1, h2, h3⟩ := cellsP (f := f) (p := p) (sz := sz) n (c.drop sz) (by rw [List.length_drop, hl, Nat.succ_mul]; omega) (fun i hi => by
   have := each (i + 1) (by omega)
   rwa [show (i + 1) * sz = sz + i * sz from by rw [Nat.succ_mul]; omega, ← List.drop_drop] at this)
  refine ⟨x :: l, by simp [h1], ?_, fun y hy => ?_⟩
  · rw [← List.take_append_drop sz c, e, h2]; simp
  ·
   rcases List.mem_cons.1 hy with rfl | hy
   · exact hp
   · exact h3 y hy
theorem one_map {α : Type} (f : α → Value) (l : List α) : (l.map fun x => [f x]).flatten = l.map f := by
 induction l with
 | nil => rfl
 | cons x l ih => simp [ih]
theorem u32s_of {h : AHeap} {H : Type} {cs : List Value} {d : DataW H} (r : ARd Tryz.prog h 28 cs d) (z : uptoBulk d ≤ 1048576) : ∃ a cap, ∃ l : List Nat, cs = [.slice a l.length cap] ∧ Rv Tryz.prog h 1 a l.length cap (l.map u32v) ∧ (∀ x ∈ l, x < 4294967296) ∧ l.length ≤ 1048576 := by
 obtain ⟨a, len, cap, c, rfl, hR, -, hel⟩ := r.slice_invB z u32sU5
 have hb := r.bulk_slice u32sU5
 rw [show Tryz.prog.cellsOf 30 = 1 from by kernel_rfl] at hR hel
 obtain ⟨l, rfl, rfl, hp⟩ := cellsP (f := fun n : Nat => [u32v n]) (p := fun n => n < 4294967296) len c hR.length fun i hi => by
  obtain ⟨d', r, -⟩ := hel i hi
  obtain ⟨n, e, b⟩ := r.u_inv rfl u32U5
  exact ⟨n, e, b⟩
 rw [one_map] at hR
 exact ⟨a, cap, l, rfl, hR, hp, by omega⟩
theorem mv_of {h : AHeap} {H : Type} {cs : List Value} {d : DataW H} (r : ARd Tryz.prog h 39 cs d) (hl : cs.length = 16) (z : uptoBulk d ≤ 1048576) : ∃ m : MvV, cs = m.cs ∧ MvOk h m := by
 have hf := r.fieldB z Tryz.underlying39
 match cs, hl with
 | [c0, c1, c2, c3, c4, c5, c6, c7, c8, c9, c10, c11, c12, c13, c14, c15], _ =>
  obtain ⟨d0, r0, -⟩ := hf 0 5 0 1 rfl (by kernel_rfl)
  obtain ⟨d1, r1, -⟩ := hf 1 5 1 1 rfl (by kernel_rfl)
  obtain ⟨d2, r2, -⟩ := hf 2 3 2 1 rfl (by kernel_rfl)
  obtain ⟨d3, r3, -⟩ := hf 3 3 3 1 rfl (by kernel_rfl)
  obtain ⟨d4, r4, z4⟩ := hf 4 35 4 9 rfl (by kernel_rfl)
  obtain ⟨d5, r5, z5⟩ := hf 5 37 13 3 rfl (by kernel_rfl)
  have r4' : ARd Tryz.prog h 35 [c4, c5, c6, c7, c8, c9, c10, c11, c12] d4 := r4
  have r5' : ARd Tryz.prog h 37 [c13, c14, c15] d5 := r5
  have hg := r4'.fieldB z4 Tryz.underlying35
  have hk := r5'.fieldB z5 Tryz.underlying37
  obtain ⟨e0, q0, -⟩ := hg 0 5 0 1 rfl (by kernel_rfl)
  obtain ⟨e1, q1, -⟩ := hg 1 3 1 1 rfl (by kernel_rfl)
  obtain ⟨e2, q2, y2⟩ := hg 2 28 2 1 rfl (by kernel_rfl)
  obtain ⟨e3, q3, -⟩ := hg 3 29 3 1 rfl (by kernel_rfl)
  obtain ⟨e4, q4, y4⟩ := hg 4 33 4 4 rfl (by kernel_rfl)
  obtain ⟨e5, q5, -⟩ := hg 5 4 8 1 rfl (by kernel_rfl)
  have q4' : ARd Tryz.prog h 33 [c8, c9, c10, c11] e4 := q4
  have hm := q4'.fieldB y4 Tryz.underlying33
  obtain ⟨f0, s0, -⟩ := hm 0 29 0 1 rfl (by kernel_rfl)
  obtain ⟨f1, s1, -⟩ := hm 1 4 1 1 rfl (by kernel_rfl)
  obtain ⟨f2, s2, -⟩ := hm 2 30 2 1 rfl (by kernel_rfl)
  obtain ⟨f3, s3, x3⟩ := hm 3 31 3 1 rfl (by kernel_rfl)
  obtain ⟨g0, t0, -⟩ := hk 0 30 0 1 rfl (by kernel_rfl)
  obtain ⟨g1, t1, -⟩ := hk 1 30 1 1 rfl (by kernel_rfl)
  obtain ⟨g2, t2, x2⟩ := hk 2 31 2 1 rfl (by kernel_rfl)
  obtain ⟨k, i0, b0⟩ := r0.u_inv rfl u8U5
  obtain ⟨host, i1, b1⟩ := r1.u_inv rfl u8U5
  obtain ⟨n, i2, b2⟩ := r2.int_inv intU5
  obtain ⟨bit, i3, b3⟩ := r3.int_inv intU5
  obtain ⟨ok, i4, b4⟩ := q0.u_inv rfl u8U5
  obtain ⟨id, i5, b5⟩ := q1.int_inv intU5
  obtain ⟨aa, ac, ads, i6, hA, b6, l6⟩ := u32s_of q2 y2
  obtain ⟨port, i7, b7⟩ := q3.u_inv rfl u16U5
  obtain ⟨sid, i8, b8⟩ := s0.u_inv rfl u16U5
  obtain ⟨un, i9⟩ := s1.bool_inv boolU5
  obtain ⟨ppid, i10, b10⟩ := s2.u_inv rfl u32U5
  obtain ⟨da, dc, zs, i11, hD, -⟩ := s3.bytes bytesU5 u8U5 (by kernel_rfl)
  rw [i11] at s3
  have l11 := s3.bulk_slice bytesU5
  obtain ⟨blk, i12⟩ := q5.bool_inv boolU5
  obtain ⟨fr, i13, b13⟩ := t0.u_inv rfl u32U5
  obtain ⟨to, i14, b14⟩ := t1.u_inv rfl u32U5
  obtain ⟨ba, bc, bs, i15, hB, -⟩ := t2.bytes bytesU5 u8U5 (by kernel_rfl)
  rw [i15] at t2
  have l15 := t2.bulk_slice bytesU5
  simp at i0 i1 i2 i3 i4 i5 i6 i7 i8 i9 i10 i11 i12 i13 i14 i15
  subst i0 i1 i2 i3 i4 i5 i6 i7 i8 i9 i10 i11 i12 i13 i14 i15
  exact ⟨⟨k, host, n, bit, ⟨ok, id, aa, ac, ads, port, sid, un, ppid, da, dc, zs, blk⟩, fr, to, ba, bc, bs⟩, rfl, ⟨b0, b1, (i64_of b2).1, (i64_of b2).2, (i64_of b3).1, (i64_of b3).2, ⟨b4, (i64_of b5).1, (i64_of b5).2, hA, b6, by simp only; omega, b7, b8, b10, hD, by simp only; omega⟩, b13, b14, hB, by simp only; omega⟩⟩
theorem scriptPrintsWalk {H : Type} {enc : TypeId × Value → H} {base : Nat} {d0 : DataW H} {p0 : List MemPlace} (v0 : Value) (W : World) (hL : laidMetH Tryz.prog laid32 W) (o0 : Value.okWide Tryz.prog W .any base 22 v0) (h0 : DataW.Trod enc Tryz.prog W 0 (fun _ => true) true 22 v0 d0 p0) (z : uptoBulk d0 ≤ 1048576) : Calls Tryz.prog 3 #[v0] W fun e w' => e = .returned (.bool true) ∧ Below W.heap.size W w' := by
 obtain ⟨a0, l0, c0, rfl⟩ := okWide_slice mvsU5 o0
 obtain ⟨m, h, cs, I, hm, hs, hA, hR, hl⟩ := imp_val plainMvs h0 (imGH hL)
 obtain ⟨x, rfl, hv⟩ := vrel_one hA (by rw [hl]; kernel_rfl) rfl
 obtain ⟨a, len, cap, c, e, hz, -, hel⟩ := hR.slice_invB z mvsU5
 cases e
 have hb := hR.bulk_slice mvsU5
 rw [show Tryz.prog.cellsOf 39 = 16 from by kernel_rfl] at hz hel
 have hcl := hz.length
 obtain ⟨l, rfl, rfl, hp⟩ := cellsP (f := MvV.cs) (p := fun x => MvOk h x) len c hz.length fun i hi => let ⟨d', r, z'⟩ := hel i hi; mv_of r (by rw [List.length_take, List.length_drop, hcl]; have : (i + 1) * 16 ≤ len * 16 := Nat.mul_le_mul_right 16 hi; omega) z'
 have hz' : Rv Tryz.prog h 16 a l.length cap (mvcs l) := by rw [mvcs, List.flatMap_def]; exact hz
 exact calls_impG (mG_main.mono hm) I rfl (scriptPrints_spec a cap l h ((Holds.refl GH).same hs) ⟨hz', by omega, hp⟩) (ARel.single hv)
end Go.Proofs.YtncbbeghkpjpbaaGreatDoor