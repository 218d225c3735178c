/- What the law leans on, part 6. No conditions. -/
import Derived.Test.YtncbbeghkpjpbaaDoorProg
import Derived.KernelRfl
import Derived.Lib.Bytealg
import Derived.Lib.IfaceEq
import Derived.Test.YtncbbeghkpjpbaaDoorScriptParsesPart5
set_option linter.unusedVariables false
set_option linter.unusedSimpArgs false
namespace Go.Proofs.YtncbbeghkpjpbaaDoor
theorem un2 : Tryd.prog.underlying 2 = some (.int .i64) := by kernel_rfl
instance : CT Tryd.prog 3 none := ⟨by kernel_rfl⟩
instance : SZ Tryd.prog 3 1 := ⟨by kernel_rfl⟩
theorem un3 : Tryd.prog.underlying 3 = some (.int .i64) := by kernel_rfl
instance : CT Tryd.prog 4 none := ⟨by kernel_rfl⟩
instance : SZ Tryd.prog 4 1 := ⟨by kernel_rfl⟩
instance : CT Tryd.prog 5 none := ⟨by kernel_rfl⟩
instance : SZ Tryd.prog 5 1 := ⟨by kernel_rfl⟩
theorem un5 : Tryd.prog.underlying 5 = some (.int .u8) := by kernel_rfl
instance : CT Tryd.prog 9 none := ⟨by kernel_rfl⟩
instance : SZ Tryd.prog 9 1 := ⟨by kernel_rfl⟩
instance : UN Tryd.prog 9 .string := ⟨by kernel_rfl⟩
instance : EL Tryd.prog 23 (none, 16) := ⟨by kernel_rfl⟩
instance : UN Tryd.prog 23 (.slice 47) := ⟨by kernel_rfl⟩
instance : BS Tryd.prog 23 47 16 (.agg #[.int .u8 0, .int .u8 0, .int .i64 0, .int .i64 0, .int .u8 0, .int .i64 0, .slice none 0 0, .int .u16 0, .int .u16 0, .bool false, .int .u32 0, .slice none 0 0, .bool false, .int .u32 0, .int .u32 0, .slice none 0 0]) := .of (by kernel_rfl) (by kernel_rfl) (by kernel_rfl) (by kernel_rfl) (by kernel_rfl)
instance : AP Tryd.prog 23 23 47 16 144 := .of (inf := Tryd.t47) (z := .agg #[.int .u8 0, .int .u8 0, .int .i64 0, .int .i64 0, .int .u8 0, .int .i64 0, .slice none 0 0, .int .u16 0, .int .u16 0, .bool false, .int .u32 0, .slice none 0 0, .bool false, .int .u32 0, .int .u32 0, .slice none 0 0]) (e₂ := 47) (by kernel_rfl) (by kernel_rfl) (by kernel_rfl) (by kernel_rfl) (by kernel_rfl) (by kernel_rfl) (by decide) (by kernel_rfl) (by kernel_rfl)
instance : CT Tryd.prog 29 none := ⟨by kernel_rfl⟩
instance : SZ Tryd.prog 29 1 := ⟨by kernel_rfl⟩
theorem un29 : Tryd.prog.underlying 29 = some (.int .u16) := by kernel_rfl
instance : CT Tryd.prog 30 none := ⟨by kernel_rfl⟩
instance : SZ Tryd.prog 30 1 := ⟨by kernel_rfl⟩
theorem un30 : Tryd.prog.underlying 30 = some (.int .u32) := by kernel_rfl
instance : CT Tryd.prog 31 none := ⟨by kernel_rfl⟩
instance : SZ Tryd.prog 31 1 := ⟨by kernel_rfl⟩
instance : EL Tryd.prog 31 (none, 1) := ⟨by kernel_rfl⟩
instance : UN Tryd.prog 31 (.slice 5) := ⟨by kernel_rfl⟩
instance : BS Tryd.prog 31 5 1 (.int .u8 0) := .of (by kernel_rfl) (by kernel_rfl) (by kernel_rfl) (by kernel_rfl) (by kernel_rfl)
instance : MK Tryd.prog 31 5 1 (.int .u8 0) := .of (inf := Tryd.t5) (by kernel_rfl) (by kernel_rfl) (by kernel_rfl) (by kernel_rfl) (by kernel_rfl) (by kernel_rfl) (by kernel_rfl)
instance : AP Tryd.prog 31 31 5 1 1 := .of (inf := Tryd.t5) (z := .int .u8 0) (e₂ := 5) (by kernel_rfl) (by kernel_rfl) (by kernel_rfl) (by kernel_rfl) (by kernel_rfl) (by kernel_rfl) (by decide) (by kernel_rfl) (by kernel_rfl)
instance : CT Tryd.prog 33 (some 4) := ⟨by kernel_rfl⟩
instance : SZ Tryd.prog 33 4 := ⟨by kernel_rfl⟩
instance : FO Tryd.prog 33 0 0 := ⟨by kernel_rfl⟩
instance : FO Tryd.prog 33 1 1 := ⟨by kernel_rfl⟩
instance : FO Tryd.prog 33 2 2 := ⟨by kernel_rfl⟩
instance : FO Tryd.prog 33 3 3 := ⟨by kernel_rfl⟩
instance : CT Tryd.prog 41 none := ⟨by kernel_rfl⟩
instance : SZ Tryd.prog 41 1 := ⟨by kernel_rfl⟩
instance : EL Tryd.prog 41 (none, 1) := ⟨by kernel_rfl⟩
instance : UN Tryd.prog 41 (.slice 30) := ⟨by kernel_rfl⟩
instance : BS Tryd.prog 41 30 1 (.int .u32 0) := .of (by kernel_rfl) (by kernel_rfl) (by kernel_rfl) (by kernel_rfl) (by kernel_rfl)
instance : AP Tryd.prog 41 41 30 1 4 := .of (inf := Tryd.t30) (z := .int .u32 0) (e₂ := 30) (by kernel_rfl) (by kernel_rfl) (by kernel_rfl) (by kernel_rfl) (by kernel_rfl) (by kernel_rfl) (by decide) (by kernel_rfl) (by kernel_rfl)
instance : CT Tryd.prog 43 (some 9) := ⟨by kernel_rfl⟩
instance : SZ Tryd.prog 43 9 := ⟨by kernel_rfl⟩
instance : FO Tryd.prog 43 0 0 := ⟨by kernel_rfl⟩
instance : FO Tryd.prog 43 1 1 := ⟨by kernel_rfl⟩
instance : FO Tryd.prog 43 2 2 := ⟨by kernel_rfl⟩
instance : FO Tryd.prog 43 3 3 := ⟨by kernel_rfl⟩
instance : FO Tryd.prog 43 4 4 := ⟨by kernel_rfl⟩
instance : FO Tryd.prog 43 5 8 := ⟨by kernel_rfl⟩
instance : ST Tryd.prog 43 [.int .u8 0, .int .i64 0, .slice none 0 0, .int .u16 0, .int .u16 0, .bool false, .int .u32 0, .slice none 0 0, .bool false] [(0, 1), (1, 1), (2, 1), (3, 1), (4, 4), (8, 1)] := .of (z := .agg #[.int .u8 0, .int .i64 0, .slice none 0 0, .int .u16 0, .int .u16 0, .bool false, .int .u32 0, .slice none 0 0, .bool false]) (fs := (match Tryd.prog.underlying 43 with | some (.struct fs) => fs | _ => #[])) (by kernel_rfl) (by kernel_rfl) (by kernel_rfl) (by kernel_rfl) (by kernel_rfl)
instance : AL Tryd.prog 43 [.int .u8 0, .int .i64 0, .slice none 0 0, .int .u16 0, .int .u16 0, .bool false, .int .u32 0, .slice none 0 0, .bool false] := ⟨by kernel_rfl⟩
instance : SZ Tryd.prog 45 3 := ⟨by kernel_rfl⟩
instance : FO Tryd.prog 45 0 0 := ⟨by kernel_rfl⟩
instance : FO Tryd.prog 45 1 1 := ⟨by kernel_rfl⟩
instance : FO Tryd.prog 45 2 2 := ⟨by kernel_rfl⟩
instance : ST Tryd.prog 45 [.int .u32 0, .int .u32 0, .slice none 0 0] [(0, 1), (1, 1), (2, 1)] := .of (z := .agg #[.int .u32 0, .int .u32 0, .slice none 0 0]) (fs := (match Tryd.prog.underlying 45 with | some (.struct fs) => fs | _ => #[])) (by kernel_rfl) (by kernel_rfl) (by kernel_rfl) (by kernel_rfl) (by kernel_rfl)
instance : CT Tryd.prog 47 (some 16) := ⟨by kernel_rfl⟩
instance : SZ Tryd.prog 47 16 := ⟨by kernel_rfl⟩
instance : FO Tryd.prog 47 0 0 := ⟨by kernel_rfl⟩
instance : FO Tryd.prog 47 1 1 := ⟨by kernel_rfl⟩
instance : FO Tryd.prog 47 2 2 := ⟨by kernel_rfl⟩
instance : FO Tryd.prog 47 3 3 := ⟨by kernel_rfl⟩
instance : FO Tryd.prog 47 4 4 := ⟨by kernel_rfl⟩
instance : FO Tryd.prog 47 5 13 := ⟨by kernel_rfl⟩
instance : ST Tryd.prog 47 [.int .u8 0, .int .u8 0, .int .i64 0, .int .i64 0, .int .u8 0, .int .i64 0, .slice none 0 0, .int .u16 0, .int .u16 0, .bool false, .int .u32 0, .slice none 0 0, .bool false, .int .u32 0, .int .u32 0, .slice none 0 0] [(0, 1), (1, 1), (2, 1), (3, 1), (4, 9), (13, 3)] := .of (z := .agg #[.int .u8 0, .int .u8 0, .int .i64 0, .int .i64 0, .int .u8 0, .int .i64 0, .slice none 0 0, .int .u16 0, .int .u16 0, .bool false, .int .u32 0, .slice none 0 0, .bool false, .int .u32 0, .int .u32 0, .slice none 0 0]) (fs := (match Tryd.prog.underlying 47 with | some (.struct fs) => fs | _ => #[])) (by kernel_rfl) (by kernel_rfl) (by kernel_rfl) (by kernel_rfl) (by kernel_rfl)
instance : AL Tryd.prog 47 [.int .u8 0, .int .u8 0, .int .i64 0, .int .i64 0, .int .u8 0, .int .i64 0, .slice none 0 0, .int .u16 0, .int .u16 0, .bool false, .int .u32 0, .slice none 0 0, .bool false, .int .u32 0, .int .u32 0, .slice none 0 0] := ⟨by kernel_rfl⟩
instance : CT Tryd.prog 48 none := ⟨by kernel_rfl⟩
instance : SZ Tryd.prog 48 1 := ⟨by kernel_rfl⟩
instance : EL Tryd.prog 48 (none, 1) := ⟨by kernel_rfl⟩
instance : UN Tryd.prog 48 (.slice 9) := ⟨by kernel_rfl⟩
instance : BS Tryd.prog 48 9 1 (.string ⟨#[]⟩) := .of (by kernel_rfl) (by kernel_rfl) (by kernel_rfl) (by kernel_rfl) (by kernel_rfl)
instance : MK Tryd.prog 48 9 16 (.string ⟨#[]⟩) := .of (inf := Tryd.t9) (by kernel_rfl) (by kernel_rfl) (by kernel_rfl) (by kernel_rfl) (by kernel_rfl) (by kernel_rfl) (by kernel_rfl)
instance : AP Tryd.prog 48 48 9 1 16 := .of (inf := Tryd.t9) (z := .string ⟨#[]⟩) (e₂ := 9) (by kernel_rfl) (by kernel_rfl) (by kernel_rfl) (by kernel_rfl) (by kernel_rfl) (by kernel_rfl) (by decide) (by kernel_rfl) (by kernel_rfl)
instance : EL Tryd.prog 61 (none, 2) := ⟨by kernel_rfl⟩
instance : UN Tryd.prog 61 (.slice 63) := ⟨by kernel_rfl⟩
instance : BS Tryd.prog 61 63 2 (.agg #[.int .i64 0, .int .i64 0]) := .of (by kernel_rfl) (by kernel_rfl) (by kernel_rfl) (by kernel_rfl) (by kernel_rfl)
instance : AP Tryd.prog 61 61 63 2 16 := .of (inf := Tryd.t63) (z := .agg #[.int .i64 0, .int .i64 0]) (e₂ := 63) (by kernel_rfl) (by kernel_rfl) (by kernel_rfl) (by kernel_rfl) (by kernel_rfl) (by kernel_rfl) (by decide) (by kernel_rfl) (by kernel_rfl)
instance : CT Tryd.prog 63 (some 2) := ⟨by kernel_rfl⟩
instance : SZ Tryd.prog 63 2 := ⟨by kernel_rfl⟩
instance : FO Tryd.prog 63 0 0 := ⟨by kernel_rfl⟩
instance : FO Tryd.prog 63 1 1 := ⟨by kernel_rfl⟩
instance : ST Tryd.prog 63 [.int .i64 0, .int .i64 0] [(0, 1), (1, 1)] := .of (z := .agg #[.int .i64 0, .int .i64 0]) (fs := (match Tryd.prog.underlying 63 with | some (.struct fs) => fs | _ => #[])) (by kernel_rfl) (by kernel_rfl) (by kernel_rfl) (by kernel_rfl) (by kernel_rfl)
instance : AL Tryd.prog 63 [.int .i64 0, .int .i64 0] := ⟨by kernel_rfl⟩
instance : CT Tryd.prog 64 none := ⟨by kernel_rfl⟩
instance : SZ Tryd.prog 64 1 := ⟨by kernel_rfl⟩
instance : SZ Tryd.prog 66 2 := ⟨by kernel_rfl⟩
instance : FO Tryd.prog 66 0 0 := ⟨by kernel_rfl⟩
instance : FO Tryd.prog 66 1 1 := ⟨by kernel_rfl⟩
instance : ST Tryd.prog 66 [.slice none 0 0, .bool false] [(0, 1), (1, 1)] := .of (z := .agg #[.slice none 0 0, .bool false]) (fs := (match Tryd.prog.underlying 66 with | some (.struct fs) => fs | _ => #[])) (by kernel_rfl) (by kernel_rfl) (by kernel_rfl) (by kernel_rfl) (by kernel_rfl)
instance : SZ Tryd.prog 78 2 := ⟨by kernel_rfl⟩
instance : FO Tryd.prog 78 0 0 := ⟨by kernel_rfl⟩
instance : FO Tryd.prog 78 1 1 := ⟨by kernel_rfl⟩
instance : ST Tryd.prog 78 [.slice none 0 0, .bool false] [(0, 1), (1, 1)] := .of (z := .agg #[.slice none 0 0, .bool false]) (fs := (match Tryd.prog.underlying 78 with | some (.struct fs) => fs | _ => #[])) (by kernel_rfl) (by kernel_rfl) (by kernel_rfl) (by kernel_rfl) (by kernel_rfl)
instance : CT Tryd.prog 87 none := ⟨by kernel_rfl⟩
theorem un87 : Tryd.prog.underlying 87 = some (.int .u64) := by kernel_rfl
instance : CT Tryd.prog 91 none := ⟨by kernel_rfl⟩
theorem un105 : Tryd.prog.underlying 105 = some (.int .u64) := by kernel_rfl
instance : EL Tryd.prog 112 (some 24, 1) := ⟨by kernel_rfl⟩
instance : AL Tryd.prog 112 [.int .u8 0, .int .u8 0, .int .u8 0, .int .u8 0, .int .u8 0, .int .u8 0, .int .u8 0, .int .u8 0, .int .u8 0, .int .u8 0, .int .u8 0, .int .u8 0, .int .u8 0, .int .u8 0, .int .u8 0, .int .u8 0, .int .u8 0, .int .u8 0, .int .u8 0, .int .u8 0, .int .u8 0, .int .u8 0, .int .u8 0, .int .u8 0] := ⟨by kernel_rfl⟩
instance : SZ Tryd.prog 128 256 := ⟨by kernel_rfl⟩
instance : EL Tryd.prog 128 (some 256, 1) := ⟨by kernel_rfl⟩
instance : AL Tryd.prog 128 [.bool false, .bool false, .bool false, .bool false, .bool false, .bool false, .bool false, .bool false, .bool false, .bool false, .bool false, .bool false, .bool false, .bool false, .bool false, .bool false, .bool false, .bool false, .bool false, .bool false, .bool false, .bool false, .bool false, .bool false, .bool false, .bool false, .bool false, .bool false, .bool false, .bool false, .bool false, .bool false, .bool false, .bool false, .bool false, .bool false, .bool false, .bool false, .bool false, .bool false, .bool false, .bool false, .bool false, .bool false, .bool false, .bool false, .bool false, .bool false, .bool false, .bool false, .bool false, .bool false, .bool false, .bool false, .bool false, .bool false, .bool false, .bool false, .bool false, .bool false, .bool false, .bool false, .bool false, .bool false, .bool false, .bool false, .bool false, .bool false, .bool false, .bool false, .bool false, .bool false, .bool false, .bool false, .bool false, .bool false, .bool false, .bool false, .bool false, .bool false, .bool false, .bool false, .bool false, .bool false, .bool false, .bool false, .bool false, .bool false, .bool false, .bool false, .bool false, .bool false, .bool false, .bool false, .bool false, .bool false, .bool false, .bool false, .bool false, .bool false, .bool false, .bool false, .bool false, .bool false, .bool false, .bool false, .bool false, .bool false, .bool false, .bool false, .bool false, .bool false, .bool false, .bool false, .bool false, .bool false, .bool false, .bool false, .bool false, .bool false, .bool false, .bool false, .bool false, .bool false, .bool false, .bool false, .bool false, .bool false, .bool false, .bool false, .bool false, .bool false, .bool false, .bool false, .bool false, .bool false, .bool false, .bool false, .bool false, .bool false, .bool false, .bool false, .bool false, .bool false, .bool false, .bool false, .bool false, .bool false, .bool false, .bool false, .bool false, .bool false, .bool false, .bool false, .bool false, .bool false, .bool false, .bool false, .bool false, .bool false, .bool false, .bool false, .bool false, .bool false, .bool false, .bool false, .bool false, .bool false, .bool false, .bool false, .bool false, .bool false, .bool false, .bool false, .bool false, .bool false, .bool false, .bool false, .bool false, .bool false, .bool false, .bool false, .bool false, .bool false, .bool false, .bool false, .bool false, .bool false, .bool false, .bool false, .bool false, .bool false, .bool false, .bool false, .bool false, .bool false, .bool false, .bool false, .bool false, .bool false, .bool false, .bool false, .bool false, .bool false, .bool false, .bool false, .bool false, .bool false, .bool false, .bool false, .bool false, .bool false, .bool false, .bool false, .bool false, .bool false, .bool false, .bool false, .bool false, .bool false, .bool false, .bool false, .bool false, .bool false, .bool false, .bool false, .bool false, .bool false, .bool false, .bool false, .bool false, .bool false, .bool false, .bool false, .bool false, .bool false, .bool false, .bool false, .bool false, .bool false, .bool false, .bool false, .bool false, .bool false, .bool false, .bool false, .bool false, .bool false, .bool false, .bool false, .bool false, .bool false, .bool false, .bool false, .bool false, .bool false] := ⟨by kernel_rfl⟩
instance : EL Tryd.prog 134 (some 20, 1) := ⟨by kernel_rfl⟩
instance : SZ Tryd.prog 148 3 := ⟨by kernel_rfl⟩
instance : ST Tryd.prog 148 [.string ⟨#[]⟩, .string ⟨#[]⟩, .nilIface] [(0, 1), (1, 1), (2, 1)] := .of (z := .agg #[.string ⟨#[]⟩, .string ⟨#[]⟩, .nilIface]) (fs := (match Tryd.prog.underlying 148 with | some (.struct fs) => fs | _ => #[])) (by kernel_rfl) (by kernel_rfl) (by kernel_rfl) (by kernel_rfl) (by kernel_rfl)
instance : IC Tryd.prog 2 5 .u8 := .of un2 un5
instance : IC Tryd.prog 2 29 .u16 := .of un2 un29
instance : IC Tryd.prog 2 30 .u32 := .of un2 un30
instance : IC Tryd.prog 2 87 .u64 := .of un2 un87
instance : IC Tryd.prog 3 5 .u8 := .of un3 un5
instance : IC Tryd.prog 3 29 .u16 := .of un3 un29
instance : IC Tryd.prog 3 30 .u32 := .of un3 un30
instance : IC Tryd.prog 3 87 .u64 := .of un3 un87
instance : IC Tryd.prog 3 105 .u64 := .of un3 un105
instance : IC Tryd.prog 5 3 .i64 := .of un5 un3
instance : IC Tryd.prog 5 87 .u64 := .of un5 un87
instance : IC Tryd.prog 29 2 .i64 := .of un29 un2
instance : IC Tryd.prog 30 2 .i64 := .of un30 un2
instance : IC Tryd.prog 30 5 .u8 := .of un30 un5
instance : IC Tryd.prog 87 2 .i64 := .of un87 un2
instance : IC Tryd.prog 87 5 .u8 := .of un87 un5
instance : IC Tryd.prog 87 30 .u32 := .of un87 un30
instance : BY Tryd.prog 31 9 := ⟨⟨5, by kernel_rfl, by kernel_rfl⟩, by kernel_rfl⟩
theorem nGlobals : Tryd.prog.globals.size = 8 := by kernel_rfl
end Go.Proofs.YtncbbeghkpjpbaaDoor
namespace Go.Proofs.YtncbbeghkpjpbaaDoor
open Go.RowKit
set_option maxRecDepth 100000
attribute [local irreducible] Go GoR GoL
def ixV (zs : List UInt8) (c : UInt8) : Int := match zs.findIdx? (· == c) with
 | some i => (i : Int)
 | none => -1
theorem find_range (zs : List UInt8) (c : UInt8) : ((List.range (ByteArray.mk zs.toArray).size).find? fun i => (ByteArray.mk zs.toArray)[i]! == c) = zs.findIdx? (· == c) := by
 have e : ∀ i, i < zs.length → (ByteArray.mk zs.toArray)[i]! = zs[i]! := fun i hi => by
  have h1 : i < (ByteArray.mk zs.toArray).size := by rw [ba_size]; exact hi
  rw [getElem!_pos (ByteArray.mk zs.toArray) i h1, getElem!_pos zs i hi]
  rfl
 rw [ba_size]
 cases hf : zs.findIdx? (· == c) with
 | none =>
  rw [List.find?_eq_none]
  intro i hi
  rw [List.mem_range] at hi
  rw [e i hi, getElem!_pos zs i hi]
  have := List.findIdx?_eq_none_iff.1 hf zs[i] (List.getElem_mem hi)
  simpa using this
 | some j =>
  obtain ⟨hj, h1, h2⟩ := List.findIdx?_eq_some_iff_getElem.1 hf
  rw [List.find?_range_eq_some]
  refine ⟨?_, List.mem_range.2 hj, fun k hk => ?_⟩
  · rw [e j hj, getElem!_pos zs j hj]; exact h1
  ·
   rw [e k (by omega), getElem!_pos zs k (by omega)]
   simpa using h2 k hk
theorem u8_back (c : UInt8) : ((c.toNat : Nat) : Int).toNat.toUInt8 = c := by simp
theorem ixb_calm (P : Program) (zs : List UInt8) (c : UInt8) : calm P (Extern.BytealgIndexByte.indexByte #[.string ⟨zs.toArray⟩, .int .u8 (c.toNat : Nat)]) = some (.int .i64 (ixV zs c)) := by
 show calm P (match ((List.range (ByteArray.mk zs.toArray).size).find? fun i => (ByteArray.mk zs.toArray)[i]! == ((c.toNat : Nat) : Int).toNat.toUInt8) with
  | some i => Sem.pure (Value.int .i64 (i : Nat))
  | none => Sem.pure (Value.int .i64 (-1))) = _
 rw [u8_back, find_range]
 unfold ixV
 cases zs.findIdx? (· == c) <;> rfl
set_option maxHeartbeats 4000000 in
theorem ixb_spec (zs : List UInt8) (c : UInt8) (h : AHeap) : CallS Tryd.prog [] 59 [.string ⟨zs.toArray⟩, .int .u8 (c.toNat : Nat)] h fun v h' => v = .int .i64 (ixV zs c) ∧ h' = h := by
 (refine CallS.of2 Tryd.func59 rfl Tryd.ntmps59 Tryd.results59 rfl ?_)
 (refine Go.run (g:=?_))
 refine goR_extC rfl rfl rfl rfl rfl rfl Tryd.func73 (by kernel_rfl) (by kernel_rfl) (by kernel_rfl) (e := Extern.BytealgIndexByte.indexByte) (by kernel_rfl) rfl (ixb_calm _ zs c) rfl ?_
 (refine Go.run (g:=?_))
 (first|refine Go.finA rfl ?_|refine Go.finB rfl (hq:=?_))
 exact ⟨rfl, rfl⟩
def cntV (zs : List UInt8) (c : UInt8) : Nat := zs.count c
theorem cnt_calm (P : Program) (zs : List UInt8) (c : UInt8) : calm P (Extern.BytealgCount.count #[.string ⟨zs.toArray⟩, .int .u8 (c.toNat : Nat)]) = some (.int .i64 (cntV zs c : Nat)) := by
 show calm P (Sem.pure (goInt ((ByteArray.mk zs.toArray).foldl (fun (n : Int) x => if x == ((c.toNat : Nat) : Int).toNat.toUInt8 then n + 1 else n) ((0 : Nat) : Int)))) = _
 rw [u8_back, Go.Lib.foldl_data, Go.Lib.count_foldl]
 simp [goInt, calm, cntV, Go.Lib.countByte]
set_option maxHeartbeats 4000000 in
theorem cnt_spec (zs : List UInt8) (c : UInt8) (h : AHeap) : CallS Tryd.prog [] 43 [.string ⟨zs.toArray⟩, .string ⟨[c].toArray⟩] h fun v h' => v = .int .i64 (cntV zs c : Nat) ∧ h' = h := by
 (refine CallS.of2 Tryd.func43 rfl Tryd.ntmps43 Tryd.results43 rfl ?_)
 (refine Go.run (g:=?_))
 refine GoR.strAtI (zs := [c]) rfl rfl rfl rfl rfl rfl (by decide) (z := c) rfl ?_
 (refine Go.run (g:=?_))
 refine goR_extC rfl rfl rfl rfl rfl rfl Tryd.func58 (by kernel_rfl) (by kernel_rfl) (by kernel_rfl) (e := Extern.BytealgCount.count) (by kernel_rfl) rfl (cnt_calm _ zs c) rfl ?_
 (refine Go.run (g:=?_))
 (first|refine Go.finA rfl ?_|refine Go.finB rfl (hq:=?_))
 exact ⟨rfl, rfl⟩
noncomputable def ixK : List Value → AHeap → Option (Value × AHeap × List Nat)
 | [.string s, .int .u8 (.ofNat k)], h => Bool.rec none (some (.int .i64 (ixV s.data.toList (UInt8.ofNat k)), h, [])) (Nat.blt k 256)
 | _, _ => none
noncomputable def cntK : List Value → AHeap → Option (Value × AHeap × List Nat)
 | [.string s, .string t], h => match t.data.toList with
  | [c] => some (.int .i64 (cntV s.data.toList c : Nat), h, [])
  | _ => none
 | _, _ => none
noncomputable def strOn : Summ := fun f args h => Bool.rec (Bool.rec none (cntK args h) (Nat.beq f 43)) (ixK args h) (Nat.beq f 59)
theorem strOn_ok : SOk Tryd.prog strOn := fun f args h v h' wr e => by
 unfold strOn at e
 cases h1 : Nat.beq f 59 with
 | true =>
  rw [h1] at e
  obtain rfl := Nat.eq_of_beq_eq_true h1
  unfold ixK at e
  split at e
  case h_2 => cases e
  rename_i s k
  cases h2 : Nat.blt k 256 with
  | false => rw [h2] at e; cases e
  | true =>
   rw [h2] at e
   cases e
   have hk : k < 256 := by simpa [Nat.blt_eq] using h2
   obtain ⟨v, h', hc, rfl, rfl⟩ := ixb_spec s.data.toList (UInt8.ofNat k) h
   have e1 : (((UInt8.ofNat k).toNat : Nat) : Int) = Int.ofNat k := by
    rw [UInt8.toNat_ofNat', Nat.mod_eq_of_lt (by omega)]; rfl
   rw [e1] at hc
   exact hc
 | false =>
  rw [h1] at e
  cases h2 : Nat.beq f 43 with
  | false => rw [h2] at e; cases e
  | true =>
   rw [h2] at e
   obtain rfl := Nat.eq_of_beq_eq_true h2
   have e : cntK args h = some (v, h', wr) := e
   unfold cntK at e
   split at e
   case h_2 => cases e
   rename_i s t _
   obtain ⟨⟨tl⟩⟩ := t
   cases tl with
   | nil => cases e
   | cons c r => cases r with
    | nil =>
     cases e
     obtain ⟨v, h', hc, rfl, rfl⟩ := cnt_spec s.data.toList c h
     exact hc
    | cons _ _ => cases e
end Go.Proofs.YtncbbeghkpjpbaaDoor
namespace Go.Proofs.YtncbbeghkpjpbaaDoor
open Go.RowKit
set_option maxRecDepth 100000
attribute [local irreducible] Go GoR GoL
set_option maxHeartbeats 4000000 in
theorem digitsN_spec : ∀ (n : Nat), n < 9223372036854775808 → ∀ h : AHeap, CallS Tryd.prog [] 22 [.int .i64 (n : Nat)] h fun v h' => v = .string ⟨(dg n).toArray⟩ := by
 intro n
 induction n using Nat.strongRecOn with
 | _ n ih =>
  intro hn h
  (refine CallS.of1 Tryd.func22 rfl Tryd.ntmps22 Tryd.results22 rfl ?_)
  (refine Go.run (g:=?_))
  have e15 : ((((48 + n % 10) % 256 : Nat) : Int)) = ((dch (n % 10)).toNat : Nat) := by rw [dch_nat (by omega)]; omega
  rw [e15]
  refine GoR.buildRo (c := [dch (n % 10)].map bv) rfl rfl rfl rfl rfl (by decide) (by rfl) (by rfl) ?_
  intro b h1 r1 ro1 ow1 s1 n1
  rcases Nat.lt_or_ge n 10 with hs | hs
  ·
   (refine Go.run (g:=?_))
   (first|refine Go.finA rfl ?_|refine Go.finB rfl (hq:=?_))
   rw [dg_small hs, Nat.mod_eq_of_lt hs]; rfl
  ·
   (refine Go.run (g:=?_))
   refine GoR.call rfl rfl rfl rfl rfl rfl rfl (((ih (n / 10) (by omega) (by omega) _).argA).mono ?_)
   rintro _ h2 rfl s2
   (refine Go.run (g:=?_))
   refine GoR.strAdd rfl rfl rfl rfl rfl rfl ?_ ?_
   ·
    have := dg_len 19 (n / 10) (by omega)
    simp only [List.length_cons, List.length_nil]; omega
   (refine Go.run (g:=?_))
   (first|refine Go.finA rfl ?_|refine Go.finB rfl (hq:=?_))
   rw [dg_big hs]; rfl
set_option maxHeartbeats 4000000 in
theorem digits_spec (n : Int) (h0 : -9223372036854775808 ≤ n) (h1 : n < 9223372036854775808) (h : AHeap) : CallS Tryd.prog [] 22 [.int .i64 n] h fun v h' => v = .string ⟨(dgI n).toArray⟩ := by
 rcases Int.lt_or_le n 0 with hn | hn
 case inr =>
  obtain ⟨k, rfl⟩ : ∃ k : Nat, n = k := ⟨n.toNat, by omega⟩
  rw [dgI_nat]
  exact digitsN_spec k (by omega) h
 obtain ⟨k, hk, rfl⟩ : ∃ k : Nat, 0 < k ∧ n = -(k : Int) := ⟨(-n).toNat, by omega, by omega⟩
 rw [dgI_neg hk]
 (refine CallS.of1 Tryd.func22 rfl Tryd.ntmps22 Tryd.results22 rfl ?_)
 by_cases hm : k = 9223372036854775808
 ·
  subst hm
  (refine Go.run (g:=?_))
  (first|refine Go.finA rfl ?_|refine Go.finB rfl (hq:=?_))
  rw [← pd_dg 18 9223372036854775808 (.inr (by decide)) (by decide)]
  show Value.string _ = Value.string _
  congr 2
 ·
  (refine Go.run (g:=?_))
  refine GoR.neg rfl rfl rfl rfl rfl ?_
  rw [show IntKind.i64.wrap (0 - -(k : Int)) = (k : Nat) from by rw [show (0 - -(k : Int)) = (k : Nat) from by omega]; exact Sm.wrap (k := .i64) (by show k < 2 ^ (64 - 1); omega)]
  (refine Go.run (g:=?_))
  refine GoR.call rfl rfl rfl rfl rfl rfl rfl (((digitsN_spec k (by omega) _).argA).mono ?_)
  rintro _ h2 rfl s2
  (refine Go.run (g:=?_))
  refine GoR.strAdd (a := [45]) rfl rfl rfl rfl rfl rfl ?_ ?_
  ·
   have := dg_len 19 k (by omega)
   simp only [List.length_cons, List.length_nil]; omega
  (refine Go.run (g:=?_))
  (first|refine Go.finA rfl ?_|refine Go.finB rfl (hq:=?_))
  rfl
end Go.Proofs.YtncbbeghkpjpbaaDoor
namespace Go.Proofs.YtncbbeghkpjpbaaDoor
open Go.RowKit
set_option maxRecDepth 100000
def pow10L : List Value := (List.range 20).map fun i => .int .u64 ((10 ^ i : Nat) : Int)
def GH : AHeap := AHeap.put ⟨8, .nil⟩ 1 (some (.ro pow10L))
theorem GH_get (i : Nat) (o : AObj) (e : GH.get i = some o) : i = 1 ∧ o = .ro pow10L := by
 unfold GH at e
 rw [AHeap.get_put] at e
 split at e
 ·
  rename_i h
  rw [if_pos (by subst h; decide)] at e
  cases e; exact ⟨h.symm, rfl⟩
 · simp [AHeap.get, Tr.get] at e
theorem pow10_flat : ∀ x ∈ pow10L, flatB x = true := List.all_eq_true.1 (by decide)
theorem GH_flat : FlatRo GH := fun i o e => by
 obtain ⟨rfl, rfl⟩ := GH_get i o e
 exact ⟨_, rfl, pow10_flat⟩
theorem GH_size : Tryd.prog.globals.size ≤ GH.n := by rw [nGlobals]; exact Nat.le_refl 8
theorem Holds.pow {h : AHeap} (k : Holds GH h) : h.get 1 = some (.ro pow10L) := k.2 _ _ (by unfold GH; rw [AHeap.get_put, if_pos rfl, if_pos (by decide)])
def asB32 : Value → AHeap → List Nat → Option Bool
 | .bool b, _, _ => some b
 | _, _, _ => none
theorem asB32_true {v : Value} {h : AHeap} {wr : List Nat} (e : asB32 v h wr = some true) : v = .bool true := by
 unfold asB32 at e
 split at e
 · cases e; rfl
 · cases e
theorem known32Run : callK (A := Bool) Tryd.prog strOn (fev Tryd.prog strOn 50000) 5 [] GH asB32 = some true := by kernel_rfl
theorem known32 (h : AHeap) (hG : Holds GH h) : CallS Tryd.prog [] 5 [] h fun u h' => u = .bool true ∧ h' = h := by
 obtain ⟨v, h', wr, hc, he⟩ := callRun_of strOn_ok known32Run
 obtain rfl := asB32_true he
 exact CallS.knownG GH_flat GH_size hc rfl h hG
end Go.Proofs.YtncbbeghkpjpbaaDoor
namespace Go.Proofs.YtncbbeghkpjpbaaDoor
open Go.RowKit
set_option maxRecDepth 100000
attribute [local irreducible] Go GoR GoL
set_option maxHeartbeats 4000000 in
theorem len64_spec (x : Nat) (hx : x < 18446744073709551616) (h : AHeap) : CallS Tryd.prog [] 88 [.int .u64 (x : Nat)] h fun v h' => ∃ b : Nat, v = .int .i64 (b : Nat) ∧ b ≤ 64 ∧ Bl x b := by
 (refine CallS.of1 Tryd.func88 rfl Tryd.ntmps88 Tryd.results88 rfl ?_)
 rcases Nat.lt_or_ge x 4294967296 with g32 | g32
 ·
  skip
  rcases Nat.lt_or_ge x 65536 with g16 | g16
  ·
   skip
   rcases Nat.lt_or_ge x 256 with g8 | g8
   ·
    skip
    obtain ⟨t, t1, t2, t3⟩ := len8_at (y := x) (by omega)
    have t4 : (UInt8.ofNat t).toNat = t := by rw [UInt8.toNat_ofNat', Nat.mod_eq_of_lt (by omega)]
    (refine Go.run (g:=?_))
    rw [show x % 256 = x from Nat.mod_eq_of_lt (by omega)]
    refine GoR.strAt (zs := len8L) rfl rfl rfl rfl rfl rfl t1 ?_
    rw [t4]
    (refine Go.run (g:=?_))
    (first|refine Go.finA rfl ?_|refine Go.finB rfl (hq:=?_))
    exact ⟨t, by rw [Nat.zero_add]; rfl, by omega, t3⟩
   ·
    skip
    obtain ⟨x', e8⟩ : ∃ z, x / 2 ^ 8 = z := ⟨_, rfl⟩
    (refine Go.run (g:=?_))
    rw [e8]
    obtain ⟨t, t1, t2, t3⟩ := len8_at (y := x') (by omega)
    have t4 : (UInt8.ofNat t).toNat = t := by rw [UInt8.toNat_ofNat', Nat.mod_eq_of_lt (by omega)]
    (refine Go.run (g:=?_))
    rw [show x' % 256 = x' from Nat.mod_eq_of_lt (by omega)]
    refine GoR.strAt (zs := len8L) rfl rfl rfl rfl rfl rfl t1 ?_
    rw [t4]
    (refine Go.run (g:=?_))
    (first|refine Go.finA rfl ?_|refine Go.finB rfl (hq:=?_))
    exact ⟨8 + t, rfl, by omega, by have := (Bl.up t3 e8 (by omega)); rwa [show 8 + t = 8 + t from by omega] at this⟩
  ·
   skip
   obtain ⟨x', e16⟩ : ∃ z, x / 2 ^ 16 = z := ⟨_, rfl⟩
   (refine Go.run (g:=?_))
   rw [e16]
   rcases Nat.lt_or_ge x' 256 with g8 | g8
   ·
    skip
    obtain ⟨t, t1, t2, t3⟩ := len8_at (y := x') (by omega)
    have t4 : (UInt8.ofNat t).toNat = t := by rw [UInt8.toNat_ofNat', Nat.mod_eq_of_lt (by omega)]
    (refine Go.run (g:=?_))
    rw [show x' % 256 = x' from Nat.mod_eq_of_lt (by omega)]
    refine GoR.strAt (zs := len8L) rfl rfl rfl rfl rfl rfl t1 ?_
    rw [t4]
    (refine Go.run (g:=?_))
    (first|refine Go.finA rfl ?_|refine Go.finB rfl (hq:=?_))
    exact ⟨16 + t, rfl, by omega, by have := (Bl.up t3 e16 (by omega)); rwa [show 16 + t = 16 + t from by omega] at this⟩
   ·
    skip
    obtain ⟨x'', e8⟩ : ∃ z, x' / 2 ^ 8 = z := ⟨_, rfl⟩
    (refine Go.run (g:=?_))
    rw [e8]
    obtain ⟨t, t1, t2, t3⟩ := len8_at (y := x'') (by omega)
    have t4 : (UInt8.ofNat t).toNat = t := by rw [UInt8.toNat_ofNat', Nat.mod_eq_of_lt (by omega)]
    (refine Go.run (g:=?_))
    rw [show x'' % 256 = x'' from Nat.mod_eq_of_lt (by omega)]
    refine GoR.strAt (zs := len8L) rfl rfl rfl rfl rfl rfl t1 ?_
    rw [t4]
    (refine Go.run (g:=?_))
    (first|refine Go.finA rfl ?_|refine Go.finB rfl (hq:=?_))
    exact ⟨24 + t, rfl, by omega, by have := (Bl.up (Bl.up t3 e8 (by omega)) e16 (by omega)); rwa [show 16 + (8 + t) = 24 + t from by omega] at this⟩
 ·
  skip
  obtain ⟨x', e32⟩ : ∃ z, x / 2 ^ 32 = z := ⟨_, rfl⟩
  (refine Go.run (g:=?_))
  rw [e32]
  rcases Nat.lt_or_ge x' 65536 with g16 | g16
  ·
   skip
   rcases Nat.lt_or_ge x' 256 with g8 | g8
   ·
    skip
    obtain ⟨t, t1, t2, t3⟩ := len8_at (y := x') (by omega)
    have t4 : (UInt8.ofNat t).toNat = t := by rw [UInt8.toNat_ofNat', Nat.mod_eq_of_lt (by omega)]
    (refine Go.run (g:=?_))
    rw [show x' % 256 = x' from Nat.mod_eq_of_lt (by omega)]
    refine GoR.strAt (zs := len8L) rfl rfl rfl rfl rfl rfl t1 ?_
    rw [t4]
    (refine Go.run (g:=?_))
    (first|refine Go.finA rfl ?_|refine Go.finB rfl (hq:=?_))
    exact ⟨32 + t, rfl, by omega, by have := (Bl.up t3 e32 (by omega)); rwa [show 32 + t = 32 + t from by omega] at this⟩
   ·
    skip
    obtain ⟨x'', e8⟩ : ∃ z, x' / 2 ^ 8 = z := ⟨_, rfl⟩
    (refine Go.run (g:=?_))
    rw [e8]
    obtain ⟨t, t1, t2, t3⟩ := len8_at (y := x'') (by omega)
    have t4 : (UInt8.ofNat t).toNat = t := by rw [UInt8.toNat_ofNat', Nat.mod_eq_of_lt (by omega)]
    (refine Go.run (g:=?_))
    rw [show x'' % 256 = x'' from Nat.mod_eq_of_lt (by omega)]
    refine GoR.strAt (zs := len8L) rfl rfl rfl rfl rfl rfl t1 ?_
    rw [t4]
    (refine Go.run (g:=?_))
    (first|refine Go.finA rfl ?_|refine Go.finB rfl (hq:=?_))
    exact ⟨40 + t, rfl, by omega, by have := (Bl.up (Bl.up t3 e8 (by omega)) e32 (by omega)); rwa [show 32 + (8 + t) = 40 + t from by omega] at this⟩
  ·
   skip
   obtain ⟨x'', e16⟩ : ∃ z, x' / 2 ^ 16 = z := ⟨_, rfl⟩
   (refine Go.run (g:=?_))
   rw [e16]
   rcases Nat.lt_or_ge x'' 256 with g8 | g8
   ·
    skip
    obtain ⟨t, t1, t2, t3⟩ := len8_at (y := x'') (by omega)
    have t4 : (UInt8.ofNat t).toNat = t := by rw [UInt8.toNat_ofNat', Nat.mod_eq_of_lt (by omega)]
    (refine Go.run (g:=?_))
    rw [show x'' % 256 = x'' from Nat.mod_eq_of_lt (by omega)]
    refine GoR.strAt (zs := len8L) rfl rfl rfl rfl rfl rfl t1 ?_
    rw [t4]
    (refine Go.run (g:=?_))
    (first|refine Go.finA rfl ?_|refine Go.finB rfl (hq:=?_))
    exact ⟨48 + t, rfl, by omega, by have := (Bl.up (Bl.up t3 e16 (by omega)) e32 (by omega)); rwa [show 32 + (16 + t) = 48 + t from by omega] at this⟩
   ·
    skip
    obtain ⟨x''', e8⟩ : ∃ z, x'' / 2 ^ 8 = z := ⟨_, rfl⟩
    (refine Go.run (g:=?_))
    rw [e8]
    obtain ⟨t, t1, t2, t3⟩ := len8_at (y := x''') (by omega)
    have t4 : (UInt8.ofNat t).toNat = t := by rw [UInt8.toNat_ofNat', Nat.mod_eq_of_lt (by omega)]
    (refine Go.run (g:=?_))
    rw [show x''' % 256 = x''' from Nat.mod_eq_of_lt (by omega)]
    refine GoR.strAt (zs := len8L) rfl rfl rfl rfl rfl rfl t1 ?_
    rw [t4]
    (refine Go.run (g:=?_))
    (first|refine Go.finA rfl ?_|refine Go.finB rfl (hq:=?_))
    exact ⟨56 + t, rfl, by omega, by have := (Bl.up (Bl.up (Bl.up t3 e8 (by omega)) e16 (by omega)) e32 (by omega)); rwa [show 32 + (16 + (8 + t)) = 56 + t from by omega] at this⟩
theorem pow2_spec (x : Nat) (hx : x ≤ 64) (h : AHeap) : CallS Tryd.prog [] 87 [.int .i64 (x : Nat)] h fun v h' => v = .int .i64 ((x * 78913 / 262144 : Nat) : Nat) := by
 (refine CallS.of1 Tryd.func87 rfl Tryd.ntmps87 Tryd.results87 rfl ?_)
 (refine Go.run (g:=?_))
 (first|refine Go.finA rfl ?_|refine Go.finB rfl (hq:=?_))
 rfl
theorem bool2_spec (b : Bool) (h : AHeap) : CallS Tryd.prog [] 89 [.bool b] h fun v h' => v = .int .i64 (b.toNat : Nat) := by
 (refine CallS.of1 Tryd.func89 rfl Tryd.ntmps89 Tryd.results89 rfl ?_)
 cases b
 ·
  (refine Go.run (g:=?_))
  (first|refine Go.finA rfl ?_|refine Go.finB rfl (hq:=?_))
  rfl
 ·
  (refine Go.run (g:=?_))
  (first|refine Go.finA rfl ?_|refine Go.finB rfl (hq:=?_))
  rfl
theorem small_spec (x : Nat) (hx : x < 100) (h : AHeap) : CallS Tryd.prog [] 67 [.int .i64 (x : Nat)] h fun v h' => v = .string ⟨(dg x).toArray⟩ := by
 (refine CallS.of1 Tryd.func67 rfl Tryd.ntmps67 Tryd.results67 rfl ?_)
 rcases Nat.lt_or_ge x 10 with h1 | h1
 ·
  (refine Go.run (g:=?_))
  refine GoR.strLH (zs := digL) (l := x) (r := x + 1) rfl rfl rfl rfl rfl rfl rfl (by omega) (by rw [digL_len]; omega) ?_
  rw [digL_at h1]
  (refine Go.run (g:=?_))
  (first|refine Go.finA rfl ?_|refine Go.finB rfl (hq:=?_))
  rw [dg_small h1]; rfl
 ·
  (refine Go.run (g:=?_))
  refine GoR.strLH (zs := smallsL) (l := x * 2) (r := x * 2 + 2) rfl rfl rfl rfl rfl rfl rfl (by omega) (by rw [smalls_len]; omega) ?_
  rw [smalls2_at hx]
  (refine Go.run (g:=?_))
  (first|refine Go.finA rfl ?_|refine Go.finB rfl (hq:=?_))
  rw [dg_two hx h1]; rfl
end Go.Proofs.YtncbbeghkpjpbaaDoor
namespace Go.Proofs.YtncbbeghkpjpbaaDoor
open Go.RowKit
set_option maxRecDepth 100000
attribute [local irreducible] Go GoR GoL
theorem pow10L_at {k : Nat} (h : k ≤ 19) : pow10L[k]? = some (.int .u64 ((10 ^ k : Nat) : Int)) := by
 unfold pow10L
 rw [List.getElem?_map, List.getElem?_range (by omega)]
 rfl
set_option maxHeartbeats 4000000 in
theorem numDigits_spec (x : Nat) (h0 : 0 < x) (hx : x < 18446744073709551616) (h : AHeap) (hG : Holds GH h) : CallS Tryd.prog [] 68 [.int .u64 (x : Nat)] h fun v h' => ∃ k : Nat, v = .int .i64 ((k + 1 : Nat) : Int) ∧ k ≤ 19 ∧ (k = 0 ∨ 10 ^ k ≤ x) ∧ x < 10 ^ (k + 1) := by
 (refine CallS.of1 Tryd.func68 rfl Tryd.ntmps68 Tryd.results68 rfl ?_)
 (refine Go.run (g:=?_))
 refine GoR.call rfl rfl rfl rfl rfl rfl rfl (((len64_spec x hx _).argA).mono ?_)
 rintro _ h1 ⟨b, rfl, hb, b1⟩ s1
 (refine Go.run (g:=?_))
 refine GoR.call rfl rfl rfl rfl rfl rfl rfl (((pow2_spec b hb _).argA).mono ?_)
 rintro _ h2 rfl s2
 obtain ⟨d1, k, k1, k2, k3, k4⟩ := digits_of h0 hb b1
 generalize b * 78913 / 262144 = n at *
 (refine Go.run (g:=?_))
 rw [show 0 + ((n : Nat) : Int).toNat * 1 = 0 + n from by simp]
 have r1 : Rv Tryd.prog h2 1 (some ⟨1, 0, none⟩) 20 20 pow10L := .mk (.inr (((hG.same s1).same s2).pow)) (by decide) (Nat.le_refl _) (List.take_of_length_le (by decide))
 refine GoR.loadV (a := some ⟨1, 0, none⟩) (kv := n) rfl rfl rfl rfl rfl r1 (pow10L_at d1) ?_
 generalize hp : 10 ^ n = p at *
 (refine Go.run (g:=?_))
 rw [show decide ((p : Int) ≤ (x : Int)) = decide (p ≤ x) from by simp]
 refine GoR.call rfl rfl rfl rfl rfl rfl rfl (((bool2_spec _ _).argA).mono ?_)
 rintro _ h3 rfl s3
 have k5 : (decide (p ≤ x)).toNat ≤ 1 := Bool.toNat_le _
 (refine Go.run (g:=?_))
 (first|refine Go.finA rfl ?_|refine Go.finB rfl (hq:=?_))
 exact ⟨k, by rw [k2]; rfl, k1, k3, k4⟩
end Go.Proofs.YtncbbeghkpjpbaaDoor
namespace Go.Proofs.YtncbbeghkpjpbaaDoor
open Go.RowKit
set_option maxRecDepth 100000
attribute [local irreducible] Go GoR GoL
def Suf (cs : List Value) (n k U : Nat) : Prop := cs.length = n ∧ ∀ j, j < k → cs[n - 1 - j]? = some (bv (dch (U / 10 ^ j % 10)))
theorem Suf.two {cs : List Value} {n k U x p q : Nat} (h : Suf cs n k U) (hk : k + 2 ≤ n) (hx : U / 10 ^ k % 100 = x) (hp : p = n - 1 - k) (hq : q = n - 1 - (k + 1)) : Suf ((cs.set p (bv (dch (x % 10)))).set q (bv (dch (x / 10)))) n (k + 2) U := by
 refine ⟨by simp [h.1], fun j hj => ?_⟩
 have hl := h.1
 rcases Nat.lt_or_ge j k with h1 | h1
 ·
  rw [List.getElem?_set_ne (by omega), List.getElem?_set_ne (by omega)]
  exact h.2 j h1
 ·
  rcases Nat.eq_or_lt_of_le h1 with rfl | h2
  ·
   rw [List.getElem?_set_ne (by omega), ← hp, List.getElem?_set_self (by omega), ← hx]
   congr 3; omega
  ·
   obtain rfl : j = k + 1 := by omega
   rw [← hq, List.getElem?_set_self (by simp; omega), ← hx, Nat.pow_succ, ← Nat.div_div_eq_div_mul]
   congr 3; omega
theorem Suf.one {cs : List Value} {n k U x : Nat} (h : Suf cs n k U) (hk : k + 1 = n) (hx : U / 10 ^ k = x) (hx1 : x < 10) : Suf (cs.set 0 (bv (dch x))) n n U := by
 refine ⟨by simp [h.1], fun j hj => ?_⟩
 have hl := h.1
 rcases Nat.lt_or_ge j k with h1 | h1
 ·
  rw [List.getElem?_set_ne (by omega)]
  exact h.2 j h1
 ·
  obtain rfl : j = k := by omega
  rw [show n - 1 - j = 0 from by omega, List.getElem?_set_self (by omega), hx, Nat.mod_eq_of_lt hx1]
theorem Suf.done {cs : List Value} {n U : Nat} (h : Suf cs n n U) : cs = (pd n U).map bv := by
 apply List.ext_getElem?
 intro i
 rcases Nat.lt_or_ge i n with hi | hi
 ·
  have := h.2 (n - 1 - i) (by omega)
  rw [show n - 1 - (n - 1 - i) = i from by omega] at this
  rw [this, List.getElem?_map]
  have e := pd_at n U (n - 1 - i) (by omega)
  rw [show n - 1 - (n - 1 - i) = i from by omega] at e
  rw [e]; rfl
 · rw [List.getElem?_eq_none (by rw [h.1]; exact hi), List.getElem?_eq_none (by simp [pd_len]; exact hi)]
section
variable {P : Program} {W : Nat → Prop} {q : Bool} {N : Nat} {k : List It} {ov : Ov} {df : List Nat} {h : AHeap} {Q : PQ} {id : Nat} {ops : Array Oper} {os : List Oper} {o : Oper} {d : Nat} {b₀ : Bool} {tr : List (Option LE)}
theorem GoL.indexQ {t tt : TypeId} {x y : Operand} {kk : IntKind} {i sz : Nat} {a : Option Addr} {len cap : Nat} {cs : List Value} (ho : o.op = .indexAddr t x y) (hd : o.dst = some d) (hN : dOk d N = true) (hgd : o.guard = none) (hx : evO ov x = some (.slice a len cap)) (hy : evO ov y = some (.int kk (i : Int))) [he : EL P t (none, 1)] (hS : Sv h tt sz a len cap cs) (h1 : i < len) (g : GoL P W q N ops (tr ++ [none]) os k ((d, ptA a i) :: ov) df h Q) : GoL P W q N ops tr (o :: os) k ov df h Q := by
 cases hS with
 | nil => omega
 | @mk b off _ _ _ _ _ _ _ _ =>
  have e : off + (i : Int).toNat * 1 = off + i := by simp
  exact GoL.indexS ho hd hN hgd hx hy (by omega) (by omega) (by rw [e]; exact g)
theorem GoR.indexQ {t tt : TypeId} {x y : Operand} {kk : IntKind} {i sz : Nat} {a : Option Addr} {len cap : Nat} {cs : List Value} (ho : o.op = .indexAddr t x y) (hd : o.dst = some d) (hN : dOk d N = true) (hgd : o.guard = none) (hx : evO ov x = some (.slice a len cap)) (hy : evO ov y = some (.int kk (i : Int))) [he : EL P t (none, 1)] (hS : Sv h tt sz a len cap cs) (h1 : i < len) (g : GoR P W q N ops b₀ os k ((d, ptA a i) :: ov) df h Q) : GoR P W q N ops b₀ (o :: os) k ov df h Q := by
 cases hS with
 | nil => omega
 | @mk b off _ _ _ _ _ _ _ _ =>
  have e : off + (i : Int).toNat * 1 = off + i := by simp
  exact GoR.indexS ho hd hN hgd hx hy (by omega) (by omega) (by rw [e]; exact g)
end
theorem keeps_tr {wr : List Nat} {h h' h₂ : AHeap} (k : Keeps wr h h') (k' : Keeps wr h' h₂) : Keeps wr h h₂ := ⟨Nat.le_trans k.1 k'.1, fun i hi hn => (k'.2 i (Nat.lt_of_lt_of_le hi k.1) hn).trans (k.2 i hi hn)⟩
set_option maxHeartbeats 4000000 in
theorem fb10_spec (U n : Nat) (hn : n ≤ 20) (hU : U < 10 ^ n) (hU64 : U < 18446744073709551616) (tt : TypeId) (a : Option Addr) (cap : Nat) (cs : List Value) (h : AHeap) (hS : Sv h tt 1 a n cap cs) : CallS Tryd.prog (blk a) 69 [.slice a n cap, .int .u64 (U : Nat)] h fun v h' => Sv h' tt 1 a n cap ((pd n U).map bv) := by
 have hW : ∀ i ∈ blk a, i ∈ blk a ∨ h.n ≤ i := fun i hi => .inl hi
 have hlen : cs.length = n := by
  cases hS with
  | nil => rfl
  | mk hg ho hl hc => rw [← hc, List.length_take, List.length_drop]; omega
 (refine CallS.of2 Tryd.func69 rfl Tryd.ntmps69 Tryd.results69 rfl ?_)
 (refine Go.run (g:=?_))
 refine Go.loop (α := Nat × Nat × Nat × List Value × AHeap) (fun s => [(4, .int .i64 (s.1 : Nat)), (1, .int .u64 (s.2.2.1 : Nat)), (0, .slice a n cap)]) (fun _ => []) (fun s => s.2.2.2.2) (fun s => s.1 + s.2.1 = n ∧ s.2.2.1 = U / 10 ^ s.2.1 ∧ s.2.2.1 < 10 ^ s.1 ∧ Suf s.2.2.2.1 n s.2.1 U ∧ Keeps (blk a) h s.2.2.2.2 ∧ Sv s.2.2.2.2 tt 1 a n cap s.2.2.2.1) (fun s => s.1) (n, 0, U, cs, h) ?_ ?_ rfl rfl ?_
 · exact ⟨rfl, by simp, hU, ⟨hlen, fun j hj => absurd hj (Nat.not_lt_zero j)⟩, ⟨Nat.le_refl _, fun _ _ _ => rfl⟩, hS⟩
 · exact ⟨rfl, rfl, rfl, trivial⟩
 rintro ⟨m, k, u, ds, H⟩ ⟨e1, e2, e3, f, kp, sv⟩
 simp only at e1 e2 e3 f kp sv ⊢
 have u64 : u < 18446744073709551616 := by rw [e2]; exact Nat.lt_of_le_of_lt (Nat.div_le_self _ _) hU64
 have m20 : m ≤ 20 := by omega
 rcases Nat.lt_or_ge m 8 with hm | hm
 ·
  have u32 : u < 10000000 := Nat.lt_of_lt_of_le e3 (Nat.le_trans (Nat.pow_le_pow_right (by decide) (show m ≤ 7 by omega)) (by decide))
  have q0 : U / 10 ^ k = u := e2.symm
  clear e2 hU
  (refine Go.run (g:=?_))
  refine Go.join1 (α := Nat × Nat × Nat × List Value × AHeap) (fun s => [(4, .int .i64 (s.1 : Nat)), (12, .int .u32 (s.2.2.1 : Nat)), (0, .slice a n cap)]) (fun _ => []) (fun s => s.2.2.2.2) (fun s => s.1 + s.2.1 = n ∧ U / 10 ^ s.2.1 = s.2.2.1 ∧ s.2.2.1 < 10 ^ s.1 ∧ s.1 < 4 ∧ Suf s.2.2.2.1 n s.2.1 U ∧ Keeps (blk a) h s.2.2.2.2 ∧ Sv s.2.2.2.2 tt 1 a n cap s.2.2.2.1) ?_ ?_
  ·
   rcases Nat.lt_or_ge m 4 with h4 | h4
   ·
    (refine Go.run (g:=?_))
    exact Go.joined (m, k, u, ds, H) ⟨e1, q0, e3, h4, f, kp, sv⟩ ⟨rfl, rfl, rfl, trivial⟩ rfl rfl
   ·
    have q2 : U / 10 ^ (k + 2) = u / 100 := by rw [Nat.pow_add, ← Nat.div_div_eq_div_mul, q0]
    have q4 : U / 10 ^ (k + 2 + 2) = u / 10000 := by rw [show k + 2 + 2 = k + 4 from rfl, Nat.pow_add, ← Nat.div_div_eq_div_mul, q0]
    have hnx : u / 10000 < 10 ^ (m - 4) := by
     rw [show m = (m - 4) + 4 from by omega, Nat.pow_add] at e3
     exact (Nat.div_lt_iff_lt_mul (by decide)).2 e3
    refine Go.runN (g:=?_)
    generalize g0 : u % 10000 % 100 = x0
    generalize g1 : u % 10000 / 100 = x1
    have l0 : x0 < 100 := by omega
    have l1 : x1 < 100 := by omega
    have f0 := f.two (x := x0) (p := m - 1) (q := m - 2) (by omega) (by rw [q0]; omega) (by omega) (by omega)
    have f1 := f0.two (x := x1) (p := m - 3) (q := m - 4) (by omega) (by rw [q2]; omega) (by omega) (by omega)
    have t3 : True → (U / 10 ^ (k + 2 + 2) = u / 10000 ∧ u / 10000 < 10 ^ (m - 4)) := fun _ => ⟨q4, hnx⟩
    clear g0 g1 q0 q2 q4 hnx f0 e3
    have dl : ds.length = n := f.1
    refine Go.loud (by kernel_rfl) rfl ?_
    (refine Go.runL (g:=?_))
    refine GoL.strAt (zs := smallsL) rfl rfl rfl rfl rfl rfl (smalls_lo l0) ?_
    (refine Go.runL (g:=?_))
    refine GoL.strAt (zs := smallsL) rfl rfl rfl rfl rfl rfl (smalls_hi l0) ?_
    (refine Go.runL (g:=?_))
    refine GoL.indexQ (i := m - 1) rfl rfl rfl rfl rfl rfl sv (by omega) ?_
    (refine Go.runL (g:=?_))
    refine GoL.store1' rfl rfl rfl rfl rfl rfl (hS := sv) (hw := hW) (g:=?_)
    intro Ha0 sva0 ka0 na0
    (refine Go.runL (g:=?_))
    refine GoL.indexQ (i := m - 2) rfl rfl rfl rfl rfl rfl sva0 (by omega) ?_
    (refine Go.runL (g:=?_))
    refine GoL.store1' rfl rfl rfl rfl rfl rfl (hS := sva0) (hw := hW) (g:=?_)
    intro Hb0 sv kb0 nb0
    (refine Go.runL (g:=?_))
    (refine GoL.end_ (g:=?_))
    refine Go.runN (g:=?_)
    refine Go.loud (by kernel_rfl) rfl ?_
    (refine Go.runL (g:=?_))
    refine GoL.strAt (zs := smallsL) rfl rfl rfl rfl rfl rfl (smalls_lo l1) ?_
    (refine Go.runL (g:=?_))
    refine GoL.strAt (zs := smallsL) rfl rfl rfl rfl rfl rfl (smalls_hi l1) ?_
    (refine Go.runL (g:=?_))
    refine GoL.indexQ (i := m - 3) rfl rfl rfl rfl rfl rfl sv (by omega) ?_
    (refine Go.runL (g:=?_))
    refine GoL.store1' rfl rfl rfl rfl rfl rfl (hS := sv) (hw := hW) (g:=?_)
    intro Ha1 sva1 ka1 na1
    (refine Go.runL (g:=?_))
    refine GoL.indexQ (i := m - 4) rfl rfl rfl rfl rfl rfl sva1 (by omega) ?_
    (refine Go.runL (g:=?_))
    refine GoL.store1' rfl rfl rfl rfl rfl rfl (hS := sva1) (hw := hW) (g:=?_)
    intro Hb1 sv kb1 nb1
    (refine Go.runL (g:=?_))
    (refine GoL.end_ (g:=?_))
    (refine Go.run (g:=?_))
    obtain ⟨t4, t5⟩ := t3 trivial
    exact Go.joined (m - 4, k + 2 + 2, u / 10000, _, Hb1) ⟨by simp only; omega, t4, t5, by simp only; omega, f1, keeps_tr (keeps_tr (keeps_tr (keeps_tr kp ka0) kb0) ka1) kb1, sv⟩ ⟨rfl, rfl, rfl, trivial⟩ rfl rfl
  clear hm u32 m20 u64 e3 q0 f kp sv e1
  clear m k u ds H
  rintro ⟨m, k, u, ds, H⟩ ⟨e1, q0, e3, h4, f, kp, sv⟩
  simp only at e1 q0 e3 h4 f kp sv ⊢
  have u32 : u < 10000 := Nat.lt_of_lt_of_le e3 (Nat.le_trans (Nat.pow_le_pow_right (by decide) (show m ≤ 4 by omega)) (by decide))
  (refine Go.run (g:=?_))
  refine Go.join1 (α := Nat × Nat × Nat × List Value × AHeap) (fun s => [(4, .int .i64 (s.1 : Nat)), (12, .int .u32 (s.2.2.1 : Nat)), (0, .slice a n cap)]) (fun _ => []) (fun s => s.2.2.2.2) (fun s => s.1 + s.2.1 = n ∧ U / 10 ^ s.2.1 = s.2.2.1 ∧ s.2.2.1 < 10 ^ s.1 ∧ s.1 < 2 ∧ Suf s.2.2.2.1 n s.2.1 U ∧ Keeps (blk a) h s.2.2.2.2 ∧ Sv s.2.2.2.2 tt 1 a n cap s.2.2.2.1) ?_ ?_
  ·
   rcases Nat.lt_or_ge m 2 with h2 | h2
   ·
    (refine Go.run (g:=?_))
    exact Go.joined (m, k, u, ds, H) ⟨e1, q0, e3, h2, f, kp, sv⟩ ⟨rfl, rfl, rfl, trivial⟩ rfl rfl
   ·
    have q2 : U / 10 ^ (k + 2) = u / 100 := by rw [Nat.pow_add, ← Nat.div_div_eq_div_mul, q0]
    have hnx : u / 100 < 10 ^ (m - 2) := by
     rw [show m = (m - 2) + 2 from by omega, Nat.pow_add] at e3
     exact (Nat.div_lt_iff_lt_mul (by decide)).2 e3
    refine Go.runN (g:=?_)
    generalize g0 : u % 100 = x0
    have l0 : x0 < 100 := by omega
    have f0 := f.two (x := x0) (p := m - 1) (q := m - 2) (by omega) (by rw [q0]; omega) (by omega) (by omega)
    have t3 : True → (U / 10 ^ (k + 2) = u / 100 ∧ u / 100 < 10 ^ (m - 2)) := fun _ => ⟨q2, hnx⟩
    clear g0 q0 q2 hnx e3
    have dl : ds.length = n := f.1
    refine Go.loud (by kernel_rfl) rfl ?_
    (refine Go.runL (g:=?_))
    refine GoL.strAt (zs := smallsL) rfl rfl rfl rfl rfl rfl (smalls_lo l0) ?_
    (refine Go.runL (g:=?_))
    refine GoL.strAt (zs := smallsL) rfl rfl rfl rfl rfl rfl (smalls_hi l0) ?_
    (refine Go.runL (g:=?_))
    refine GoL.indexQ (i := m - 1) rfl rfl rfl rfl rfl rfl sv (by omega) ?_
    (refine Go.runL (g:=?_))
    refine GoL.store1' rfl rfl rfl rfl rfl rfl (hS := sv) (hw := hW) (g:=?_)
    intro Ha0 sva0 ka0 na0
    (refine Go.runL (g:=?_))
    refine GoL.indexQ (i := m - 2) rfl rfl rfl rfl rfl rfl sva0 (by omega) ?_
    (refine Go.runL (g:=?_))
    refine GoL.store1' rfl rfl rfl rfl rfl rfl (hS := sva0) (hw := hW) (g:=?_)
    intro Hb0 sv kb0 nb0
    (refine Go.runL (g:=?_))
    (refine GoL.end_ (g:=?_))
    (refine Go.run (g:=?_))
    obtain ⟨t4, t5⟩ := t3 trivial
    exact Go.joined (m - 2, k + 2, u / 100, _, Hb0) ⟨by simp only; omega, t4, t5, by simp only; omega, f0, keeps_tr (keeps_tr kp ka0) kb0, sv⟩ ⟨rfl, rfl, rfl, trivial⟩ rfl rfl
  clear h4 u32 e3 q0 f kp sv e1
  clear m k u ds H
  rintro ⟨m, k, u, ds, H⟩ ⟨e1, q0, e3, h2, f, kp, sv⟩
  simp only at e1 q0 e3 h2 f kp sv ⊢
  rcases Nat.eq_zero_or_pos m with rfl | h0
  ·
   (refine Go.run (g:=?_))
   (first|refine Go.finA rfl ?_|refine Go.finB rfl (hq:=?_))
   obtain rfl : k = n := by omega
   rw [← f.done]
   exact sv
  ·
   obtain rfl : m = 1 := by omega
   have u10 : u < 10 := by simpa using e3
   have dl : ds.length = n := f.1
   have f1 := f.one (by omega) q0 u10
   clear e3 q0
   (refine Go.run (g:=?_))
   refine GoR.indexQ (i := 0) rfl rfl rfl rfl rfl rfl sv (by omega) ?_
   (refine Go.run (g:=?_))
   rw [show ((((48 + u) % 256 : Nat)) : Int) = ((dch u).toNat : Nat) from by rw [dch_nat u10]; omega]
   refine GoR.store1' rfl rfl rfl rfl rfl rfl (hS := sv) (hw := hW) (g:=?_)
   intro H3 sv3 k3 n3
   (refine Go.run (g:=?_))
   (first|refine Go.finA rfl ?_|refine Go.finB rfl (hq:=?_))
   rw [← f1.done]
   exact sv3
 ·
  have q2 : U / 10 ^ (k + 2) = u / 100 := by rw [Nat.pow_add, ← Nat.div_div_eq_div_mul, ← e2]
  have q4 : U / 10 ^ (k + 2 + 2) = u / 10000 := by rw [show k + 2 + 2 = k + 4 from rfl, Nat.pow_add, ← Nat.div_div_eq_div_mul, ← e2]
  have q6 : U / 10 ^ (k + 2 + 2 + 2) = u / 1000000 := by rw [show k + 2 + 2 + 2 = k + 6 from rfl, Nat.pow_add, ← Nat.div_div_eq_div_mul, ← e2]
  have q8 : U / 10 ^ (k + 8) = u / 100000000 := by rw [Nat.pow_add, ← Nat.div_div_eq_div_mul, ← e2]
  have hnx : u / 100000000 < 10 ^ (m - 8) := by
   rw [show m = (m - 8) + 8 from by omega, Nat.pow_add] at e3
   exact (Nat.div_lt_iff_lt_mul (by decide)).2 e3
  have q0 : U / 10 ^ k = u := e2.symm
  clear e3 e2 hU
  refine Go.runN (g:=?_)
  generalize g0 : u % 100000000 % 10000 % 100 = x0
  generalize g1 : u % 100000000 % 10000 / 100 = x1
  generalize g2 : u % 100000000 / 10000 % 100 = x2
  generalize g3 : u % 100000000 / 10000 / 100 = x3
  have l0 : x0 < 100 := by omega
  have l1 : x1 < 100 := by omega
  have l2 : x2 < 100 := by omega
  have l3 : x3 < 100 := by omega
  have f0 := f.two (x := x0) (p := m - 1) (q := m - 2) (by omega) (by rw [q0]; omega) (by omega) (by omega)
  have f1 := f0.two (x := x1) (p := m - 3) (q := m - 4) (by omega) (by rw [q2]; omega) (by omega) (by omega)
  have f2 := f1.two (x := x2) (p := m - 5) (q := m - 6) (by omega) (by rw [q4]; omega) (by omega) (by omega)
  have f3 := f2.two (x := x3) (p := m - 7) (q := m - 8) (by omega) (by rw [q6]; omega) (by omega) (by omega)
  have t3 : True → (u / 100000000 = U / 10 ^ (k + 8) ∧ u / 100000000 < 10 ^ (m - 8)) := fun _ => ⟨q8.symm, hnx⟩
  clear g0 g1 g2 g3 q0 q2 q4 q6 q8 hnx f0 f1 f2
  have dl : ds.length = n := f.1
  refine Go.loud (by kernel_rfl) rfl ?_
  (refine Go.runL (g:=?_))
  refine GoL.strAt (zs := smallsL) rfl rfl rfl rfl rfl rfl (smalls_lo l0) ?_
  (refine Go.runL (g:=?_))
  refine GoL.strAt (zs := smallsL) rfl rfl rfl rfl rfl rfl (smalls_hi l0) ?_
  (refine Go.runL (g:=?_))
  refine GoL.indexQ (i := m - 1) rfl rfl rfl rfl rfl rfl sv (by omega) ?_
  (refine Go.runL (g:=?_))
  refine GoL.store1' rfl rfl rfl rfl rfl rfl (hS := sv) (hw := hW) (g:=?_)
  intro Ha0 sva0 ka0 na0
  (refine Go.runL (g:=?_))
  refine GoL.indexQ (i := m - 2) rfl rfl rfl rfl rfl rfl sva0 (by omega) ?_
  (refine Go.runL (g:=?_))
  refine GoL.store1' rfl rfl rfl rfl rfl rfl (hS := sva0) (hw := hW) (g:=?_)
  intro Hb0 sv kb0 nb0
  (refine Go.runL (g:=?_))
  (refine GoL.end_ (g:=?_))
  refine Go.runN (g:=?_)
  refine Go.loud (by kernel_rfl) rfl ?_
  (refine Go.runL (g:=?_))
  refine GoL.strAt (zs := smallsL) rfl rfl rfl rfl rfl rfl (smalls_lo l1) ?_
  (refine Go.runL (g:=?_))
  refine GoL.strAt (zs := smallsL) rfl rfl rfl rfl rfl rfl (smalls_hi l1) ?_
  (refine Go.runL (g:=?_))
  refine GoL.indexQ (i := m - 3) rfl rfl rfl rfl rfl rfl sv (by omega) ?_
  (refine Go.runL (g:=?_))
  refine GoL.store1' rfl rfl rfl rfl rfl rfl (hS := sv) (hw := hW) (g:=?_)
  intro Ha1 sva1 ka1 na1
  (refine Go.runL (g:=?_))
  refine GoL.indexQ (i := m - 4) rfl rfl rfl rfl rfl rfl sva1 (by omega) ?_
  (refine Go.runL (g:=?_))
  refine GoL.store1' rfl rfl rfl rfl rfl rfl (hS := sva1) (hw := hW) (g:=?_)
  intro Hb1 sv kb1 nb1
  (refine Go.runL (g:=?_))
  (refine GoL.end_ (g:=?_))
  refine Go.runN (g:=?_)
  refine Go.loud (by kernel_rfl) rfl ?_
  (refine Go.runL (g:=?_))
  refine GoL.strAt (zs := smallsL) rfl rfl rfl rfl rfl rfl (smalls_lo l2) ?_
  (refine Go.runL (g:=?_))
  refine GoL.strAt (zs := smallsL) rfl rfl rfl rfl rfl rfl (smalls_hi l2) ?_
  (refine Go.runL (g:=?_))
  refine GoL.indexQ (i := m - 5) rfl rfl rfl rfl rfl rfl sv (by omega) ?_
  (refine Go.runL (g:=?_))
  refine GoL.store1' rfl rfl rfl rfl rfl rfl (hS := sv) (hw := hW) (g:=?_)
  intro Ha2 sva2 ka2 na2
  (refine Go.runL (g:=?_))
  refine GoL.indexQ (i := m - 6) rfl rfl rfl rfl rfl rfl sva2 (by omega) ?_
  (refine Go.runL (g:=?_))
  refine GoL.store1' rfl rfl rfl rfl rfl rfl (hS := sva2) (hw := hW) (g:=?_)
  intro Hb2 sv kb2 nb2
  (refine Go.runL (g:=?_))
  (refine GoL.end_ (g:=?_))
  refine Go.runN (g:=?_)
  refine Go.loud (by kernel_rfl) rfl ?_
  (refine Go.runL (g:=?_))
  refine GoL.strAt (zs := smallsL) rfl rfl rfl rfl rfl rfl (smalls_lo l3) ?_
  (refine Go.runL (g:=?_))
  refine GoL.strAt (zs := smallsL) rfl rfl rfl rfl rfl rfl (smalls_hi l3) ?_
  (refine Go.runL (g:=?_))
  refine GoL.indexQ (i := m - 7) rfl rfl rfl rfl rfl rfl sv (by omega) ?_
  (refine Go.runL (g:=?_))
  refine GoL.store1' rfl rfl rfl rfl rfl rfl (hS := sv) (hw := hW) (g:=?_)
  intro Ha3 sva3 ka3 na3
  (refine Go.runL (g:=?_))
  refine GoL.indexQ (i := m - 8) rfl rfl rfl rfl rfl rfl sva3 (by omega) ?_
  (refine Go.runL (g:=?_))
  refine GoL.store1' rfl rfl rfl rfl rfl rfl (hS := sva3) (hw := hW) (g:=?_)
  intro Hb3 sv kb3 nb3
  (refine Go.runL (g:=?_))
  (refine GoL.end_ (g:=?_))
  (refine Go.run (g:=?_))
  obtain ⟨t4, t5⟩ := t3 trivial
  have kz : Keeps (blk a) h Hb3 := keeps_tr (keeps_tr (keeps_tr (keeps_tr (keeps_tr (keeps_tr (keeps_tr (keeps_tr kp ka0) kb0) ka1) kb1) ka2) kb2) ka3) kb3
  refine Go.again (m - 8, k + 8, u / 100000000, _, Hb3) ⟨by simp only; omega, t4, t5, f3, kz, sv⟩ (by simp only; omega) ⟨rfl, rfl, rfl, trivial⟩ rfl rfl
end Go.Proofs.YtncbbeghkpjpbaaDoor
namespace Go.Proofs.YtncbbeghkpjpbaaDoor
open Go.RowKit
set_option maxRecDepth 100000
attribute [local irreducible] Go GoR GoL
theorem aStr_sv {P : Program} {h : AHeap} {t t₂ e tt : TypeId} (hu : P.underlying t = some (.slice e)) (hd : P.underlying t₂ = some .string) (he : P.underlying e = some (.int .u8)) {a : Option Addr} {len cap : Nat} {zs : List UInt8} (hS : Sv h tt 1 a len cap (zs.map bv)) : ∃ rd, aStr P h t t₂ (.slice a len cap) = some (⟨zs.toArray⟩, rd) ∧ ∀ i ∈ rd, i ∈ blk a := by
 generalize hz : zs.map bv = cs at hS
 cases hS with
 | nil =>
  obtain rfl : zs = [] := by simpa using hz
  exact ⟨[], by simp [aStr, hu, hd, he], fun i hi => by cases hi⟩
 | @mk b o _ _ c _ hg ho hl hc =>
  refine ⟨if len = 0 then [] else [b], ?_, fun i hi => by split at hi <;> simp at hi; simpa [blk] using hi⟩
  rw [Nat.mul_one] at ho hc
  simp only [aStr, hu, hd, he]
  by_cases h0 : len = 0
  ·
   subst h0
   rw [if_pos rfl]
   have : zs = [] := by rw [← hc] at hz; simpa using hz
   subst this
   simp
  ·
   rw [if_neg h0]
   simp only [hg, rowOf]
   rw [if_pos (by omega), hc, ← hz, u8s_bv, if_neg h0]
   simp [strOf_bv]
theorem aSlice_arr {P : Program} {h : AHeap} {t e : TypeId} {n l r b o : Nat} {lo hi : Option Value} (hu : P.underlying t = some (.array n e)) (hs : sizeT P e = some 1) (h1 : bnd 0 lo = some l) (h2 : bnd n hi = some r) (h3 : l ≤ r) (h4 : r ≤ n) : aSlice P h t lo hi none (.pointer (some ⟨b, o, none⟩)) = some (.slice (some ⟨b, o + l, none⟩) (r - l) (n - l)) := by
 have h5 : bnd n none = some n := rfl
 simp only [aSlice, hu, hs, h1, h2, h5]
 rw [if_pos ⟨h3, h4, Nat.le_refl _, fun e => by cases e⟩, Nat.mul_one]
section
variable {P : Program} {W : Nat → Prop} {q : Bool} {N : Nat} {k : List It} {ov : Ov} {df : List Nat} {h : AHeap} {Q : PQ} {id : Nat} {ops : Array Oper} {os : List Oper} {o : Oper} {d : Nat} {b₀ : Bool} {tr : List (Option LE)}
theorem GoR.strQ {t t₂ tt : TypeId} {x : Operand} {a : Option Addr} {len cap : Nat} {zs : List UInt8} (ho : o.op = .convert t t₂ x) (hd : o.dst = some d) (hN : dOk d N = true) (hgd : o.guard = none) (hx : evO ov x = some (.slice a len cap)) [hB : BY P t t₂] (hS : Sv h tt 1 a len cap (zs.map bv)) (g : GoR P W q N ops b₀ os k ((d, .string ⟨zs.toArray⟩) :: ov) df h Q) : GoR P W q N ops b₀ (o :: os) k ov df h Q := by
 obtain ⟨e, h1, h2⟩ := hB.h
 obtain ⟨rd, h3, h4⟩ := aStr_sv (P := P) (h := h) h1 hB.s h2 hS
 exact GoR.convStr ho hd hN hgd hx h3 g
end
theorem arr24 : Tryd.prog.underlying 112 = some (.array 24 5) := by kernel_rfl
theorem siz1 : sizeT Tryd.prog 5 = some 1 := by kernel_rfl
theorem wrap_neg {n : Nat} (h0 : 0 < n) (h1 : n ≤ 9223372036854775808) : IntKind.u64.wrap (-(n : Int)) = ((18446744073709551616 - n : Nat) : Int) := by
 have : IntKind.u64.wrap (-(n : Int)) = (-(n : Int)) % 18446744073709551616 := rfl
 rw [this]; omega
theorem wrap_back {n : Nat} (h0 : 0 < n) (h1 : n ≤ 9223372036854775808) : IntKind.u64.wrap (0 - ((18446744073709551616 - n : Nat) : Int)) = (n : Int) := by
 have : IntKind.u64.wrap (0 - ((18446744073709551616 - n : Nat) : Int)) = (0 - ((18446744073709551616 - n : Nat) : Int)) % 18446744073709551616 := rfl
 rw [this]; omega
set_option maxHeartbeats 4000000 in
theorem fint_spec (x : Int) (hx0 : -9223372036854775808 ≤ x) (hx : x < 9223372036854775808) (h : AHeap) (hG : Holds GH h) : CallS Tryd.prog [] 52 [.int .i64 x, .int .i64 10] h fun v h' => v = .string ⟨(dgI x).toArray⟩ := by
 (refine CallS.of2 Tryd.func52 rfl Tryd.ntmps52 Tryd.results52 rfl ?_)
 rcases Int.lt_or_le x 0 with hn | hn
 case inr =>
  obtain ⟨n, rfl⟩ : ∃ k : Nat, x = k := ⟨x.toNat, by omega⟩
  rw [dgI_nat]
  rcases Nat.lt_or_ge n 100 with h1 | h1
  ·
   (refine Go.run (g:=?_))
   refine GoR.call rfl rfl rfl rfl rfl rfl rfl (((small_spec n h1 _).argA).mono ?_)
   rintro _ h2 rfl s2
   (refine Go.run (g:=?_))
   (first|refine Go.finA rfl ?_|refine Go.finB rfl (hq:=?_))
   rfl
  ·
   (refine Go.run (g:=?_))
   refine GoR.name ?_
   intro H1 eH1
   have g1 : H1.get h.n = some (.cells (List.replicate 24 (.int .u8 0)) 112) := by rw [eH1]; exact AHeap.get_push_same _ _
   have s1 : Same h H1 := by rw [eH1]; exact (Same.refl h).push _
   have n1 : H1.n = h.n + 1 := by rw [eH1]; rfl
   clear eH1
   refine GoR.call rfl rfl rfl rfl rfl rfl rfl (((numDigits_spec n (by omega) (by omega) _ (hG.same s1)).argA).mono ?_)
   rintro _ h2 ⟨k, rfl, k1, k3, k4⟩ s2
   have n2 := s2.1
   (refine Go.run (g:=?_))
   have v1 : Sv h2 112 1 (some ⟨h.n, 0 + 1, none⟩) (1 + (k + 1) - 1) (24 - 1) (List.replicate (k + 1) (.int .u8 0)) := .mk (s2.get g1) (by simp) (by omega) (by rw [List.drop_replicate, List.take_replicate]; congr 1; omega)
   refine GoR.slice (u := .pointer (some ⟨h.n, 0, none⟩)) (lo' := some (.int .i64 1)) (hi' := some (.int .i64 ((1 + (k + 1) : Nat) : Int))) (mx' := none) rfl rfl rfl rfl rfl rfl rfl rfl (aSlice_arr arr24 siz1 (l := 1) (r := 1 + (k + 1)) rfl (by simp [bnd]; omega) (by omega) (by omega)) ?_
   (refine Go.run (g:=?_))
   refine GoR.callW rfl rfl rfl rfl rfl rfl rfl (((fb10_spec n (1 + (k + 1) - 1) (by omega) (by rw [show 1 + (k + 1) - 1 = k + 1 from by omega]; exact k4) (by omega) _ _ _ _ _ v1).argA).mono ?_)
   rintro _ h3 v2 p3
   refine ⟨fun i hi => .inr (by simp [blk] at hi; omega), ?_⟩
   rw [show pd (1 + (k + 1) - 1) n = dg n from by rw [show 1 + (k + 1) - 1 = k + 1 from by omega]; exact pd_dg k n k3 k4] at v2
   (refine Go.run (g:=?_))
   refine GoR.slice (u := .pointer (some ⟨h.n, 0, none⟩)) (lo' := some (.int .i64 1)) (hi' := some (.int .i64 ((1 + (k + 1) : Nat) : Int))) (mx' := none) rfl rfl rfl rfl rfl rfl rfl rfl (aSlice_arr arr24 siz1 (l := 1) (r := 1 + (k + 1)) rfl (by simp [bnd]; omega) (by omega) (by omega)) ?_
   refine GoR.strQ (zs := dg n) rfl rfl rfl rfl rfl v2 ?_
   (refine Go.run (g:=?_))
   (first|refine Go.finA rfl ?_|refine Go.finB rfl (hq:=?_))
   rfl
 obtain ⟨n, h0, rfl⟩ : ∃ k : Nat, 0 < k ∧ x = -(k : Int) := ⟨(-x).toNat, by omega, by omega⟩
 rw [dgI_neg h0]
 (refine Go.run (g:=?_))
 refine GoR.convE _ rfl rfl rfl rfl rfl (wrap_neg h0 (by omega)) ?_
 (refine Go.run (g:=?_))
 refine GoR.neg rfl rfl rfl rfl rfl ?_
 rw [wrap_back h0 (by omega)]
 (refine Go.run (g:=?_))
 refine GoR.name ?_
 intro H1 eH1
 have g1 : H1.get h.n = some (.cells (List.replicate 24 (.int .u8 0)) 112) := by rw [eH1]; exact AHeap.get_push_same _ _
 have s1 : Same h H1 := by rw [eH1]; exact (Same.refl h).push _
 have n1 : H1.n = h.n + 1 := by rw [eH1]; rfl
 clear eH1
 refine GoR.call rfl rfl rfl rfl rfl rfl rfl (((numDigits_spec n (by omega) (by omega) _ (hG.same s1)).argA).mono ?_)
 rintro _ h2 ⟨k, rfl, k1, k3, k4⟩ s2
 have n2 := s2.1
 (refine Go.run (g:=?_))
 have v1 : Sv h2 112 1 (some ⟨h.n, 0 + 1, none⟩) (1 + (k + 1) - 1) (24 - 1) (List.replicate (k + 1) (.int .u8 0)) := .mk (s2.get g1) (by simp) (by omega) (by rw [List.drop_replicate, List.take_replicate]; congr 1; omega)
 refine GoR.slice (u := .pointer (some ⟨h.n, 0, none⟩)) (lo' := some (.int .i64 1)) (hi' := some (.int .i64 ((1 + (k + 1) : Nat) : Int))) (mx' := none) rfl rfl rfl rfl rfl rfl rfl rfl (aSlice_arr arr24 siz1 (l := 1) (r := 1 + (k + 1)) rfl (by simp [bnd]; omega) (by omega) (by omega)) ?_
 (refine Go.run (g:=?_))
 refine GoR.callW rfl rfl rfl rfl rfl rfl rfl (((fb10_spec n (1 + (k + 1) - 1) (by omega) (by rw [show 1 + (k + 1) - 1 = k + 1 from by omega]; exact k4) (by omega) _ _ _ _ _ v1).argA).mono ?_)
 rintro _ h3 v2 p3
 refine ⟨fun i hi => .inr (by simp [blk] at hi; omega), ?_⟩
 have n3 := p3.1
 rw [show pd (1 + (k + 1) - 1) n = dg n from by rw [show 1 + (k + 1) - 1 = k + 1 from by omega]; exact pd_dg k n k3 k4] at v2
 have v3 : ∃ r, h3.get h.n = some (.cells r 112) ∧ 24 ≤ r.length ∧ (r.drop 1).take (k + 1) = (dg n).map bv := by
  generalize hz : (dg n).map bv = cs at v2
  cases v2 with
  | mk hg ho hl hc => exact ⟨_, hg, by omega, by rw [← hc]; congr 1; omega⟩
 clear v2 v1
 obtain ⟨r, g3, l3, d3⟩ := v3
 (refine Go.run (g:=?_))
 refine GoR.name ?_
 intro H4 eH4
 have g4 : H4.get h.n = some (.cells (.int .u8 45 :: r.drop 1) 112) := by rw [eH4, AHeap.get_put_same _ (by omega)]; rfl
 have v4 : Sv H4 112 1 (some ⟨h.n, 0 + 0, none⟩) (1 + (k + 1) - 0) (24 - 0) ((45 :: dg n).map bv) := .mk g4 (by simp; omega) (by omega) (by
  rw [show (1 + (k + 1) - 0) * 1 = (k + 1) + 1 from by omega]
  show (Value.int .u8 45 :: r.drop 1).take ((k + 1) + 1) = _
  rw [List.take_succ_cons, d3]; rfl)
 clear eH4
 refine GoR.slice (u := .pointer (some ⟨h.n, 0, none⟩)) (lo' := none) (hi' := some (.int .i64 ((1 + (k + 1) : Nat) : Int))) (mx' := none) rfl rfl rfl rfl rfl rfl rfl rfl (aSlice_arr arr24 siz1 (l := 0) (r := 1 + (k + 1)) rfl (by simp [bnd]; omega) (by omega) (by omega)) ?_
 refine GoR.strQ (zs := 45 :: dg n) rfl rfl rfl rfl rfl v4 ?_
 (refine Go.run (g:=?_))
 (first|refine Go.finA rfl ?_|refine Go.finB rfl (hq:=?_))
 rfl
theorem itoa_spec (x : Int) (hx0 : -9223372036854775808 ≤ x) (hx : x < 9223372036854775808) (h : AHeap) (hG : Holds GH h) : CallS Tryd.prog [] 20 [.int .i64 x] h fun v h' => v = .string ⟨(dgI x).toArray⟩ := by
 have k : ∀ h : AHeap, Holds GH h → CallS Tryd.prog [] 39 [.int .i64 x] h fun v h' => v = .string ⟨(dgI x).toArray⟩ := by
  intro h hG
  (refine CallS.of1 Tryd.func39 rfl Tryd.ntmps39 Tryd.results39 rfl ?_)
  (refine Go.run (g:=?_))
  refine GoR.call rfl rfl rfl rfl rfl rfl rfl (((fint_spec x hx0 hx _ hG).argA).mono ?_)
  rintro _ h1 rfl s1
  (refine Go.run (g:=?_))
  (first|refine Go.finA rfl ?_|refine Go.finB rfl (hq:=?_))
  rfl
 (refine CallS.of1 Tryd.func20 rfl Tryd.ntmps20 Tryd.results20 rfl ?_)
 (refine Go.run (g:=?_))
 refine GoR.call rfl rfl rfl rfl rfl rfl rfl (((k _ hG).argA).mono ?_)
 rintro _ h1 rfl s1
 (refine Go.run (g:=?_))
 (first|refine Go.finA rfl ?_|refine Go.finB rfl (hq:=?_))
 rfl
end Go.Proofs.YtncbbeghkpjpbaaDoor
namespace Go.Proofs.YtncbbeghkpjpbaaDoor
open Go.RowKit
set_option maxRecDepth 100000
attribute [local irreducible] Go GoR GoL
structure BU (h : AHeap) (bb : Nat) (p a : Option Addr) (cap : Nat) (zs : List UInt8) : Prop where
 g : h.get bb = some (.cells [.pointer p, .slice a zs.length cap] 103)
 p : p = none ∨ p = some ⟨bb, 0, none⟩
 v : Sv h 5 1 a zs.length cap (zs.map bv)
 o : bb ∉ blk a
theorem BU.same {h h' : AHeap} {bb : Nat} {p a : Option Addr} {cap : Nat} {zs : List UInt8} (k : BU h bb p a cap zs) (s : Same h h') : BU h' bb p a cap zs := ⟨s.get k.g, k.p, k.v.same s, k.o⟩
end Go.Proofs.YtncbbeghkpjpbaaDoor
namespace Go.Proofs.YtncbbeghkpjpbaaDoor
open Go.RowKit
set_option maxRecDepth 100000
attribute [local irreducible] Go GoR GoL
def halfL : List UInt8 := [48, 49, 50, 51, 52, 53, 54, 55, 56, 57, 97, 98, 99, 100, 101, 102]
def hxd (d : Nat) : UInt8 := halfL.getD d 0
theorem half_at {d : Nat} (h : d < 16) : halfL[d]? = some (hxd d) := by
 have hl : halfL.length = 16 := by decide +kernel
 unfold hxd
 rw [List.getD_eq_getElem?_getD, List.getElem?_eq_getElem (by omega)]
 rfl
def hx2 (zs : List UInt8) : List UInt8 := zs.flatMap fun z => [hxd (z.toNat / 16), hxd (z.toNat % 16)]
theorem hx2_len (zs : List UInt8) : (hx2 zs).length = 2 * zs.length := by
 induction zs with
 | nil => rfl
 | cons z zs ih => simp only [hx2, List.flatMap_cons, List.length_append, List.length_cons, List.length_nil] at *; omega
theorem hx2_snoc (zs : List UInt8) (z : UInt8) : hx2 (zs ++ [z]) = hx2 zs ++ [hxd (z.toNat / 16)] ++ [hxd (z.toNat % 16)] := by
 simp [hx2]
def hxL (zs : List UInt8) : List UInt8 := if zs.length = 0 then [45] else hx2 zs
theorem hxL_len (zs : List UInt8) : (hxL zs).length ≤ 2 * zs.length + 1 := by
 unfold hxL
 split
 · simp
 · rw [hx2_len]; omega
theorem take_snoc {α : Type} {zs : List α} {i : Nat} {z : α} (h : zs[i]? = some z) : zs.take (i + 1) = zs.take i ++ [z] := by
 rw [List.take_add_one, h]; rfl
theorem same_keeps {h H H2 : AHeap} {wr : List Nat} (s : Same h H) (k : Keeps wr H H2) (hw : ∀ i ∈ wr, h.n ≤ i) : Same h H2 := ⟨Nat.le_trans s.1 k.1, fun i hi => (k.2 i (Nat.lt_of_lt_of_le hi s.1) fun e => by have := hw i e; omega).trans (s.2 i hi)⟩
set_option maxHeartbeats 8000000 in
theorem hexR_spec (a : Option Addr) (cap : Nat) (zs : List UInt8) (hl : zs.length ≤ 100000000) (h : AHeap) (hS : Rv Tryd.prog h 1 a zs.length cap (zs.map bv)) : CallS Tryd.prog [] 38 [.slice a zs.length cap] h fun v _ => v = .string ⟨(hxL zs).toArray⟩ := by
 (refine CallS.of1 Tryd.func38 rfl Tryd.ntmps38 Tryd.results38 rfl ?_)
 generalize hn : zs.length = n at *
 rcases Nat.eq_zero_or_pos n with h0 | h0
 ·
  subst h0
  (refine Go.run (g:=?_))
  (first|refine Go.finA rfl ?_|refine Go.finB rfl (hq:=?_))
  unfold hxL; rw [if_pos hn]; rfl
 ·
  (refine Go.run (g:=?_))
  refine Go.loop (α := Nat × Option Addr × Nat × AHeap) (fun s => [(5, .int .i64 (s.1 : Nat)), (4, .slice s.2.1 (2 * s.1) s.2.2.1), (3, .string ⟨halfL.toArray⟩), (0, .slice a n cap)]) (fun _ => []) (fun s => s.2.2.2) (fun s => s.1 ≤ n ∧ Same h s.2.2.2 ∧ Sv s.2.2.2 5 1 s.2.1 (2 * s.1) s.2.2.1 ((hx2 (zs.take s.1)).map bv) ∧ Own h.n s.2.1) (fun s => n - s.1) (0, none, 0, h) ?_ ?_ rfl rfl ?_
  · exact ⟨Nat.zero_le _, .refl h, .nil, .nil _⟩
  · exact ⟨rfl, rfl, rfl, rfl, trivial⟩
  rintro ⟨i, b, c, H⟩ ⟨e1, s, v, ow⟩
  simp only at e1 s v ow ⊢
  rcases Nat.lt_or_ge i n with hi | hi
  ·
   obtain ⟨z, hz⟩ : ∃ z, zs[i]? = some z := ⟨_, List.getElem?_eq_getElem (by omega)⟩
   have hz' : (zs.map bv)[i]? = some (.int .u8 (z.toNat : Nat)) := by rw [List.getElem?_map, hz]; rfl
   have hz8 : z.toNat < 256 := z.toNat_lt
   have hS' := hS.same s
   have et := hx2_snoc (zs.take i) z
   rw [← take_snoc hz] at et
   refine Go.runN (g:=?_)
   refine Go.loud (by kernel_rfl) rfl ?_
   (refine Go.runL (g:=?_))
   refine GoL.strAt (zs := halfL) rfl rfl rfl rfl rfl rfl (half_at (d := z.toNat / 16) (by omega)) ?_
   (refine Go.runL (g:=?_))
   refine GoL.strAt (zs := halfL) rfl rfl rfl rfl rfl rfl (half_at (d := z.toNat % 16) (by omega)) ?_
   (refine Go.runL (g:=?_))
   refine GoL.buildRo (c := [hxd (z.toNat / 16), hxd (z.toNat % 16)].map bv) rfl rfl rfl rfl rfl (by decide) (by rfl) (by rfl) ?_
   intro b2 h2 r2 ro2 ow2 s2 n2
   refine GoL.appendV rfl rfl rfl rfl rfl rfl (v.same s2) r2 (fun j hj => .inr (ow j hj)) (by omega) (by omega) (by simp [bv, Value.oneCell']) ?_
   intro b3 c3 h3 rd wr hwr hrd v3 k3 o3
   rw [← List.map_append, show hx2 (zs.take i) ++ [hxd (z.toNat / 16), hxd (z.toNat % 16)] = hx2 (zs.take (i + 1)) from by rw [et]; simp] at v3
   (refine Go.runL (g:=?_))
   (refine GoL.end_ (g:=?_))
   (refine Go.run (g:=?_))
   have ow3 : Own h.n b3 := fun j hj => (o3 j hj).elim (ow j) fun e => by have := s.1; have := s2.1; omega
   refine Go.again (i + 1, b3, c3, h3) ⟨(by show i + 1 ≤ n; omega), same_keeps (s.trans s2) k3 ow, v3, ow3⟩ (by show n - (i + 1) < n - i; omega) ⟨rfl, rfl, rfl, rfl, trivial⟩ rfl rfl
  ·
   obtain rfl : i = n := by omega
   rw [← hn, List.take_length] at v
   have v' := v.rv (P := Tryd.prog)
   rw [hn] at v'
   (refine Go.run (g:=?_))
   (first|refine Go.finA rfl ?_|refine Go.finB rfl (hq:=?_))
   unfold hxL; rw [if_neg (by omega)]; rfl
end Go.Proofs.YtncbbeghkpjpbaaDoor
namespace Go.Proofs.YtncbbeghkpjpbaaDoor
open Go.RowKit
set_option maxRecDepth 100000
attribute [local irreducible] Go GoR GoL
def unordL : List UInt8 := [32, 117, 110, 111, 114, 100, 101, 114, 101, 100]
def msgL (sid ppid : Nat) (u : Bool) (zs : List UInt8) : List UInt8 := dg sid ++ [32] ++ dg ppid ++ [32] ++ hxL zs ++ (if u then unordL else [])
theorem msg_lens {sid ppid : Nat} {zs : List UInt8} (h1 : sid < 65536) (h2 : ppid < 4294967296) (hl : zs.length ≤ 100000000) : (dg sid).length ≤ 20 ∧ (dg ppid).length ≤ 20 ∧ (hxL zs).length ≤ 200000001 := ⟨dg_len 19 sid (by omega), dg_len 19 ppid (by omega), by have := hxL_len zs; omega⟩
set_option maxHeartbeats 8000000 in
theorem messageR_spec (sid ppid : Nat) (u : Bool) (a : Option Addr) (cap : Nat) (zs : List UInt8) (h1 : sid < 65536) (h2 : ppid < 4294967296) (hl : zs.length ≤ 100000000) (h : AHeap) (hS : Rv Tryd.prog h 1 a zs.length cap (zs.map bv)) : CallS Tryd.prog [] 19 [.agg #[.int .u16 (sid : Nat), .bool u, .int .u32 (ppid : Nat), .slice a zs.length cap]] h fun v _ => v = .string ⟨(msgL sid ppid u zs).toArray⟩ := by
 obtain ⟨l1, l2, l3⟩ := msg_lens h1 h2 hl
 (refine CallS.of1 Tryd.func19 rfl Tryd.ntmps19 Tryd.results19 rfl ?_)
 (refine Go.run (g:=?_))
 have hS0 := hS.same ((Same.refl h).push (.cells [.int .u16 (sid : Nat), .bool u, .int .u32 (ppid : Nat), .slice a zs.length cap] 33))
 refine GoR.call rfl rfl rfl rfl rfl rfl rfl (((digits_spec (sid : Nat) (by omega) (by omega) _).argA).mono ?_)
 rintro _ H1 hv1 s1
 rw [dgI_nat] at hv1; subst hv1
 have g1 := s1.get (AHeap.get_push_same h (.cells [.int .u16 (sid : Nat), .bool u, .int .u32 (ppid : Nat), .slice a zs.length cap] 33))
 refine GoR.strAdd (b := [32]) rfl rfl rfl rfl rfl rfl (by simp only [List.length_cons, List.length_nil]; omega) ?_
 (refine Go.run (g:=?_))
 refine GoR.call rfl rfl rfl rfl rfl rfl rfl (((digits_spec (ppid : Nat) (by omega) (by omega) _).argA).mono ?_)
 rintro _ H2 hv2 s2
 rw [dgI_nat] at hv2; subst hv2
 have g2 := s2.get g1
 refine GoR.strAdd rfl rfl rfl rfl rfl rfl (by simp only [List.length_append, List.length_cons, List.length_nil]; omega) ?_
 refine GoR.strAdd (b := [32]) rfl rfl rfl rfl rfl rfl (by simp only [List.length_append, List.length_cons, List.length_nil]; omega) ?_
 (refine Go.run (g:=?_))
 refine GoR.call rfl rfl rfl rfl rfl rfl rfl (((hexR_spec a cap zs hl _ ((hS0.same s1).same s2)).argA).mono ?_)
 rintro _ H3 rfl s3
 have g3 := s3.get g2
 refine GoR.strAdd rfl rfl rfl rfl rfl rfl (by simp only [List.length_append, List.length_cons, List.length_nil]; omega) ?_
 cases u
 ·
  (refine Go.run (g:=?_))
  (first|refine Go.finA rfl ?_|refine Go.finB rfl (hq:=?_))
  unfold msgL; rw [if_neg (by decide), List.append_nil]; rfl
 ·
  (refine Go.run (g:=?_))
  refine GoR.strAdd (b := unordL) rfl rfl rfl rfl rfl rfl (by simp only [List.length_append, List.length_cons, List.length_nil, unordL]; omega) ?_
  (refine Go.run (g:=?_))
  (first|refine Go.finA rfl ?_|refine Go.finB rfl (hq:=?_))
  unfold msgL; rw [if_pos rfl]; rfl
end Go.Proofs.YtncbbeghkpjpbaaDoor
namespace Go.Proofs.YtncbbeghkpjpbaaDoor
open Go.RowKit
set_option maxRecDepth 100000
section
variable {P : Program} {W : Nat → Prop} {q : Bool} {N : Nat} {k : List It} {ov : Ov} {df : List Nat} {h : AHeap} {Q : PQ} {id : Nat} {ops : Array Oper} {os : List Oper} {o : Oper} {d : Nat} {b₀ : Bool} {tr : List (Option LE)}
theorem equal_ifInt (w : World) {t tx : TypeId} {ms : Array (String × TypeId)} {k q : IntKind} (a b : Int) (ht : P.underlying t = some (.interface ms)) (hc : (P.info? tx).map (·.comparable) = some true) (hx : P.underlying tx = some (.int q)) :
  (Op.equal t (.iface tx (.int k a)) (.iface tx (.int k b))).run P w = .ok (a == b) w := by
 cases hi : P.info? tx with
 | none => simp [hi] at hc
 | some i =>
  have hcc : i.comparable = true := by simpa [hi] using hc
  have h : ∀ d : Nat, (Op.equalIn (d + 2) t (.iface tx (.int k a)) (.iface tx (.int k b))).run P w = .ok (a == b) w := fun d => by
   simp [Op.equalIn, run_underlying ht, run_underlying hx, typeInfo, hi, hcc]
  simp [Op.equal, Op.maxDepth, h 9998]
theorem equal_ifNil (w : World) {t tx : TypeId} {ms : Array (String × TypeId)} (u : Value) (ht : P.underlying t = some (.interface ms)) :
  (Op.equal t (.iface tx u) .nilIface).run P w = .ok false w := by
 have h : ∀ d : Nat, (Op.equalIn (d + 1) t (.iface tx u) .nilIface).run P w = .ok false w := fun d => by simp [Op.equalIn, run_underlying ht]
 simp [Op.equal, Op.maxDepth, h 9999]
theorem equal_nilNil (w : World) {t : TypeId} {ms : Array (String × TypeId)} (ht : P.underlying t = some (.interface ms)) :
  (Op.equal t .nilIface .nilIface).run P w = .ok true w := by
 have h : ∀ d : Nat, (Op.equalIn (d + 1) t .nilIface .nilIface).run P w = .ok true w := fun d => by simp [Op.equalIn, run_underlying ht]
 simp [Op.equal, Op.maxDepth, h 9999]
def IfV (v : Value) (b : Bool) : Prop := (v = .nilIface ∧ b = false) ∨ (∃ t u, v = .iface t u ∧ b = true)
theorem OpRun.ifNil {D : Nat → Prop} {tm : List Value} {t t₂ : TypeId} {ms : Array (String × TypeId)} {x : Operand} {v : Value} {b : Bool} (ho : o.op = .binOp .neq t x (.const .nilIface) t₂) (hx : evalT tm x = v) (hv : IfV v b) (hu : P.underlying t = some (.interface ms)) : OpRun P D W o tm h (.bool b) h :=
 .ofPure (by simp [ho]) fun m w A hm hxs H => by
  have h1 := hxs x (by simp [ho, Op.operands])
  have h2 : A.eval (.const .nilIface) = .nilIface := rfl
  rw [hx] at h1
  generalize hy : A.eval x = y at h1
  refine ⟨_, .bool _, ?_⟩
  rcases hv with ⟨rfl, rfl⟩ | ⟨tx, u, rfl, rfl⟩
  ·
   cases h1 with
   | nilIface => simp [execOp, ho, hy, h2, eqGuard, binOp, equal_nilNil w hu]
  ·
   cases h1 with
   | iface _ h1 => simp [execOp, ho, hy, h2, eqGuard, binOp, equal_ifNil w _ hu]
theorem OpRun.ifInt {D : Nat → Prop} {tm : List Value} {op : BinOp} {t t₂ tx : TypeId} {ms : Array (String × TypeId)} {kd qd : IntKind} {x y : Operand} {a b : Int} (ho : o.op = .binOp op t x y t₂) (hop : op = .eql ∨ op = .neq) (hx : evalT tm x = .iface tx (.int kd a)) (hy : evalT tm y = .iface tx (.int kd b)) (hu : P.underlying t = some (.interface ms)) (hc : (P.info? tx).map (·.comparable) = some true) (hi : P.underlying tx = some (.int qd)) : OpRun P D W o tm h (.bool (if op = .eql then a == b else !(a == b))) h :=
 .ofPure (by simp [ho]) fun m w A hm hxs H => by
  have h1 := hxs x (by simp [ho, Op.operands])
  have h2 := hxs y (by simp [ho, Op.operands])
  rw [hx] at h1
  rw [hy] at h2
  generalize hy1 : A.eval x = v1 at h1
  generalize hy2 : A.eval y = v2 at h2
  refine ⟨_, .bool _, ?_⟩
  cases h1 with
  | iface _ h1 =>
   cases h2 with
   | iface _ h2 =>
    have e1 := VRel.eq_of_flat h1 rfl
    have e2 := VRel.eq_of_flat h2 rfl
    subst e1 e2
    rcases hop with rfl | rfl
    · simp [execOp, ho, hy1, hy2, eqGuard, binOp, equal_ifInt w _ _ hu hc hi]
    · simp [execOp, ho, hy1, hy2, eqGuard, binOp, equal_ifInt w _ _ hu hc hi]
theorem OpRun.mkIf {D : Nat → Prop} {tm : List Value} {tx : TypeId} {x : Operand} {v : Value} {U : TypeDesc} (ho : o.op = .makeInterface tx x) (hx : evalT tm x = v) (hu : P.underlying tx = some U) (hU : ∀ ms, U ≠ .interface ms) : OpRun P D W o tm h (.iface tx v) h :=
 .ofPure (by simp [ho]) fun m w A hm hxs H => by
  have h1 := hxs x (by simp [ho, Op.operands])
  rw [hx] at h1
  refine ⟨_, .iface _ h1, ?_⟩
  simp only [execOp, ho, Instr.makeInterface]
  cases U <;> first | exact absurd rfl (hU _) | simp [run_underlying hu]
theorem GoR.ifNil {t t₂ : TypeId} {ms : Array (String × TypeId)} {x : Operand} {v : Value} {b : Bool} (ho : o.op = .binOp .neq t x (.const .nilIface) t₂) (hd : o.dst = some d) (hN : dOk d N = true) (hgd : o.guard = none) (hx : evO ov x = some v) (hv : IfV v b) (hu : P.underlying t = some (.interface ms)) (g : GoR P W q N ops b₀ os k ((d, .bool b) :: ov) df h Q) : GoR P W q N ops b₀ (o :: os) k ov df h Q :=
 GoR.step (r := ⟨.bool b, h, [], [], false, true⟩) hgd hd hN (fun tm hr => .pure fun D W => OpRun.ifNil ho (evO_eq hr hx) hv hu) (.inr rfl) (fun i hi => by cases hi) g
theorem GoR.ifInt {op : BinOp} {t t₂ tx : TypeId} {ms : Array (String × TypeId)} {kd qd : IntKind} {x y : Operand} {a b : Int} (ho : o.op = .binOp op t x y t₂) (hd : o.dst = some d) (hN : dOk d N = true) (hgd : o.guard = none) (hop : op = .eql ∨ op = .neq) (hx : evO ov x = some (.iface tx (.int kd a))) (hy : evO ov y = some (.iface tx (.int kd b))) (hu : P.underlying t = some (.interface ms)) (hc : (P.info? tx).map (·.comparable) = some true) (hi : P.underlying tx = some (.int qd)) (g : GoR P W q N ops b₀ os k ((d, .bool (if op = .eql then a == b else !(a == b))) :: ov) df h Q) : GoR P W q N ops b₀ (o :: os) k ov df h Q :=
 GoR.step (r := ⟨_, h, [], [], false, true⟩) hgd hd hN (fun tm hr => .pure fun D W => OpRun.ifInt ho hop (evO_eq hr hx) (evO_eq hr hy) hu hc hi) (.inr rfl) (fun i hi => by cases hi) g
theorem GoR.mkIf {tx : TypeId} {x : Operand} {v : Value} {U : TypeDesc} (ho : o.op = .makeInterface tx x) (hd : o.dst = some d) (hN : dOk d N = true) (hgd : o.guard = none) (hx : evO ov x = some v) (hu : P.underlying tx = some U) (hU : ∀ ms, U ≠ .interface ms) (g : GoR P W q N ops b₀ os k ((d, .iface tx v) :: ov) df h Q) : GoR P W q N ops b₀ (o :: os) k ov df h Q :=
 GoR.step (r := ⟨.iface tx v, h, [], [], false, true⟩) hgd hd hN (fun tm hr => .pure fun D W => OpRun.mkIf ho (evO_eq hr hx) hu hU) (.inr rfl) (fun i hi => by cases hi) g
end
end Go.Proofs.YtncbbeghkpjpbaaDoor
namespace Go.Proofs.YtncbbeghkpjpbaaDoor
set_option maxRecDepth 100000
def sp1 (s : List UInt8) (i : Nat) (st : List (Nat × Nat) × Option Nat) : List (Nat × Nat) × Option Nat :=
 if s[i]? = some 32 then (match st.2 with
  | some a => st.1 ++ [(a, i)]
  | none => st.1, none) else (st.1, some (st.2.getD i))
def spans (s : List UInt8) : Nat → List (Nat × Nat) × Option Nat
 | 0 => ([], none)
 | i + 1 => sp1 s i (spans s i)
def spFin (n : Nat) (st : List (Nat × Nat) × Option Nat) : List (Nat × Nat) := match st.2 with
 | some a => st.1 ++ [(a, n)]
 | none => st.1
def subW (s : List UInt8) (p : Nat × Nat) : List UInt8 := (s.drop p.1).take (p.2 - p.1)
def fld (s : List UInt8) : List (List UInt8) := (spFin s.length (spans s s.length)).map (subW s)
def semi (s : List UInt8) : List UInt8 := s.takeWhile (· != 59)
theorem spans_bound (s : List UInt8) : ∀ i, (∀ p ∈ (spans s i).1, p.1 < p.2 ∧ p.2 ≤ i) ∧ (∀ a, (spans s i).2 = some a → a < i) ∧ (spans s i).1.length ≤ i
 | 0 => ⟨fun p hp => by simp [spans] at hp, fun a ha => by simp [spans] at ha, by simp [spans]⟩
 | i + 1 => by
  obtain ⟨h1, h2, h3⟩ := spans_bound s i
  simp only [spans, sp1]
  generalize spans s i = st at *
  obtain ⟨o, c⟩ := st
  simp only at h1 h2 h3 ⊢
  split
  ·
   cases c with
   | none => exact ⟨fun p hp => ⟨(h1 p hp).1, by have := (h1 p hp).2; omega⟩, fun a ha => by simp at ha, by simp only; omega⟩
   | some a =>
    refine ⟨fun p hp => ?_, fun a ha => by simp at ha, by simp; omega⟩
    rcases List.mem_append.1 hp with hp | hp
    · exact ⟨(h1 p hp).1, by have := (h1 p hp).2; omega⟩
    ·
     simp at hp; subst hp
     exact ⟨h2 a rfl, by simp⟩
  ·
   refine ⟨fun p hp => ⟨(h1 p hp).1, by have := (h1 p hp).2; omega⟩, fun a ha => ?_, by simp only; omega⟩
   simp only [Option.some.injEq] at ha
   cases c with
   | none => simp at ha; omega
   | some b => simp at ha; have := h2 b rfl; omega
theorem spans_skip {s : List UInt8} {a j : Nat} (hc : (spans s j).2 = some a) : ∀ k, (∀ x, j ≤ x → x < j + k → s[x]? ≠ some 32) → spans s (j + k) = spans s j
 | 0, _ => rfl
 | k + 1, h => by
  have ih := spans_skip hc k fun x h1 h2 => h x h1 (by omega)
  rw [← Nat.add_assoc, spans, ih, sp1, if_neg (h _ (by omega) (by omega))]
  generalize spans s j = st at *
  obtain ⟨o, c⟩ := st
  simp only at hc
  subst hc
  rfl
theorem spFin_bound {s : List UInt8} {n : Nat} : ∀ p ∈ spFin n (spans s n), p.1 ≤ p.2 ∧ p.2 ≤ n := by
 obtain ⟨h1, h2, h3⟩ := spans_bound s n
 intro p hp
 unfold spFin at hp
 split at hp
 ·
  rename_i a ha
  rcases List.mem_append.1 hp with hp | hp
  · exact ⟨Nat.le_of_lt (h1 p hp).1, (h1 p hp).2⟩
  ·
   simp at hp; subst hp
   exact ⟨Nat.le_of_lt (h2 a ha), Nat.le_refl _⟩
 · exact ⟨Nat.le_of_lt (h1 p hp).1, (h1 p hp).2⟩
theorem spFin_len (s : List UInt8) (n : Nat) : (spFin n (spans s n)).length ≤ n + 1 := by
 obtain ⟨h1, h2, h3⟩ := spans_bound s n
 unfold spFin
 split
 · simp; omega
 · omega
theorem subW_pre {s t : List UInt8} {p : Nat × Nat} {n : Nat} (h : ∀ x, x < n → s[x]? = t[x]?) (hp : p.2 ≤ n) : subW s p = subW t p := by
 unfold subW
 apply List.ext_getElem?
 intro i
 by_cases hi : i < p.2 - p.1
 · rw [List.getElem?_take_of_lt hi, List.getElem?_take_of_lt hi, List.getElem?_drop, List.getElem?_drop, h _ (by omega)]
 · rw [List.getElem?_eq_none (by rw [List.length_take]; omega), List.getElem?_eq_none (by rw [List.length_take]; omega)]
def splitNL : List UInt8 → List (List UInt8)
 | [] => [[]]
 | c :: s => if c = 10 then [] :: splitNL s else match splitNL s with
  | l :: ls => (c :: l) :: ls
  | [] => [[c]]
theorem splitNL_none : ∀ {s : List UInt8}, 10 ∉ s → splitNL s = [s]
 | [], _ => rfl
 | c :: s, h => by
  have h1 : c ≠ 10 := fun e => h (by rw [e]; exact List.mem_cons_self ..)
  rw [splitNL, if_neg h1, splitNL_none fun e => h (List.mem_cons_of_mem _ e)]
theorem splitNL_cons : ∀ {l : List UInt8} (r : List UInt8), 10 ∉ l → splitNL (l ++ 10 :: r) = l :: splitNL r
 | [], r, _ => by simp [splitNL]
 | c :: l, r, h => by
  have h1 : c ≠ 10 := fun e => h (by rw [e]; exact List.mem_cons_self ..)
  rw [List.cons_append, splitNL, if_neg h1, splitNL_cons r fun e => h (List.mem_cons_of_mem _ e)]
theorem splitNL_pos : ∀ s : List UInt8, 0 < (splitNL s).length
 | [] => by simp [splitNL]
 | c :: s => by
  rw [splitNL]
  split
  · simp
  · split <;> simp
theorem splitNL_len : ∀ s : List UInt8, (splitNL s).length = s.count 10 + 1
 | [] => by simp [splitNL]
 | c :: s => by
  have ih := splitNL_len s
  rw [splitNL]
  split
  · rename_i h; subst h; simp [ih]
  ·
   rename_i h
   rw [List.count_cons_of_ne (by simpa using h)]
   cases hs : splitNL s with
   | nil => rw [hs] at ih; simp at ih
   | cons l ls => rw [hs] at ih; simpa using ih
theorem splitNL_at {s : List UInt8} {j : Nat} (h : s.findIdx? (· == 10) = some j) : j < s.length ∧ splitNL s = s.take j :: splitNL (s.drop (j + 1)) := by
 obtain ⟨hj, h1, h2⟩ := List.findIdx?_eq_some_iff_getElem.1 h
 have h1 : s[j] = 10 := by simpa using h1
 have e : s = s.take j ++ 10 :: s.drop (j + 1) := by
  conv => lhs; rw [← List.take_append_drop j s]
  rw [List.drop_eq_getElem_cons hj, h1]
 refine ⟨hj, ?_⟩
 conv => lhs; rw [e]
 exact splitNL_cons _ fun hm => by
  obtain ⟨k, hk, e⟩ := List.getElem_of_mem hm
  rw [List.length_take] at hk
  have := h2 k (by omega)
  rw [List.getElem_take] at e
  rw [e] at this
  simp at this
theorem splitNL_end {s : List UInt8} (h : s.findIdx? (· == 10) = none) : splitNL s = [s] := splitNL_none fun hm => by
 have := List.findIdx?_eq_none_iff.1 h 10 hm
 simp at this
theorem dec_spec (zs : List UInt8) {i : Nat} {z : UInt8} (hz : zs[i]? = some z) : (z.toNat < 128 → Utf8.decode ⟨zs.toArray⟩ i = (z.toNat, 1)) ∧ (128 ≤ z.toNat → (Utf8.decode ⟨zs.toArray⟩ i).1 ≠ 32 ∧ ∃ w, (Utf8.decode ⟨zs.toArray⟩ i).2 = w + 1 ∧ i + w < zs.length ∧ ∀ x, i + 1 ≤ x → x < i + 1 + w → zs[x]? ≠ some 32) := by
 obtain ⟨hi, rfl⟩ := List.getElem?_eq_some_iff.1 hz
 have hsz : (⟨zs.toArray⟩ : ByteArray).size = zs.length := by simp [ByteArray.size]
 have hget : ∀ k, k < zs.length → ((⟨zs.toArray⟩ : ByteArray).get! k).toNat = (zs[k]!).toNat := fun k hk => by
  simp [ByteArray.get!, getElem!_pos, hk]
 have hb0 : ((⟨zs.toArray⟩ : ByteArray).get! (i + 0)).toNat = (zs[i]).toNat := by rw [hget (i + 0) (by omega)]; simp [getElem!_pos, hi]
 have hb0' : ((⟨zs.toArray⟩ : ByteArray).get! i).toNat = (zs[i]).toNat := hb0
 have hcont : ∀ k, (decide (i + k < (⟨zs.toArray⟩ : ByteArray).size) && ((⟨zs.toArray⟩ : ByteArray).get! (i + k)).toNat / 64 == 2) = true → i + k < zs.length ∧ zs[i + k]? ≠ some 32 := fun k h => by
  rw [Bool.and_eq_true, decide_eq_true_eq, hsz] at h
  refine ⟨h.1, fun e => ?_⟩
  have h2 := h.2
  rw [hget _ h.1] at h2
  obtain ⟨hk, e⟩ := List.getElem?_eq_some_iff.1 e
  rw [getElem!_pos zs _ hk, e] at h2
  simp at h2
 constructor
 ·
  intro h
  unfold Utf8.decode
  simp only [hb0]
  rw [if_pos h]
 ·
  intro h
  unfold Utf8.decode
  simp only [hb0]
  rw [if_neg (by omega)]
  split
  ·
   rename_i c2
   simp only [Bool.and_eq_true] at c2
   have k1 := hcont 1 (by rw [Bool.and_eq_true]; exact c2.2)
   split
   ·
    refine ⟨by simp only; omega, 1, rfl, k1.1, fun x h1 h2 => ?_⟩
    obtain rfl : x = i + 1 := by omega
    exact k1.2
   · exact ⟨by decide, 0, rfl, by omega, fun x h1 h2 => by omega⟩
  ·
   split
   ·
    rename_i c3
    simp only [Bool.and_eq_true] at c3
    have k1 := hcont 1 (by rw [Bool.and_eq_true]; exact c3.1.2)
    have k2 := hcont 2 (by rw [Bool.and_eq_true]; exact c3.2)
    split
    ·
     rename_i cc
     simp only [Bool.and_eq_true, decide_eq_true_eq] at cc
     refine ⟨by have := cc.1; simp only; omega, 2, rfl, k2.1, fun x h1 h2 => ?_⟩
     rcases (show x = i + 1 ∨ x = i + 2 by omega) with rfl | rfl
     · exact k1.2
     · exact k2.2
    · exact ⟨by decide, 0, rfl, by omega, fun x h1 h2 => by omega⟩
   ·
    split
    ·
     rename_i c4
     simp only [Bool.and_eq_true] at c4
     have k1 := hcont 1 (by rw [Bool.and_eq_true]; exact c4.1.1.2)
     have k2 := hcont 2 (by rw [Bool.and_eq_true]; exact c4.1.2)
     have k3 := hcont 3 (by rw [Bool.and_eq_true]; exact c4.2)
     split
     ·
      rename_i cc
      simp only [Bool.and_eq_true, decide_eq_true_eq] at cc
      refine ⟨by have := cc.1; simp only; omega, 3, rfl, k3.1, fun x h1 h2 => ?_⟩
      rcases (show x = i + 1 ∨ x = i + 2 ∨ x = i + 3 by omega) with rfl | rfl | rfl
      · exact k1.2
      · exact k2.2
      · exact k3.2
     · exact ⟨by decide, 0, rfl, by omega, fun x h1 h2 => by omega⟩
    · exact ⟨by decide, 0, rfl, by omega, fun x h1 h2 => by omega⟩
end Go.Proofs.YtncbbeghkpjpbaaDoor
namespace Go.Proofs.YtncbbeghkpjpbaaDoor
open Go.RowKit
set_option maxRecDepth 100000
attribute [local irreducible] Go GoR GoL
structure OpV where
 k : Nat
 id : Int
 aa : Option Addr
 ac : Nat
 ads : List Nat
 port : Nat
 sid : Nat
 un : Bool
 ppid : Nat
 da : Option Addr
 dc : Nat
 zs : List UInt8
 blk : Bool
structure MvV where
 k : Nat
 host : Nat
 n : Int
 bit : Int
 o : OpV
 fr : Nat
 to : Nat
 ba : Option Addr
 bc : Nat
 bs : List UInt8
def u32v (n : Nat) : Value := .int .u32 (n : Nat)
abbrev OpV.cs (o : OpV) : List Value := [.int .u8 (o.k : Nat), .int .i64 o.id, .slice o.aa o.ads.length o.ac, .int .u16 (o.port : Nat), .int .u16 (o.sid : Nat), .bool o.un, .int .u32 (o.ppid : Nat), .slice o.da o.zs.length o.dc, .bool o.blk]
abbrev OpV.v (o : OpV) : Value := .agg #[.int .u8 (o.k : Nat), .int .i64 o.id, .slice o.aa o.ads.length o.ac, .int .u16 (o.port : Nat), .int .u16 (o.sid : Nat), .bool o.un, .int .u32 (o.ppid : Nat), .slice o.da o.zs.length o.dc, .bool o.blk]
abbrev MvV.cs (m : MvV) : List Value := [.int .u8 (m.k : Nat), .int .u8 (m.host : Nat), .int .i64 m.n, .int .i64 m.bit, .int .u8 (m.o.k : Nat), .int .i64 m.o.id, .slice m.o.aa m.o.ads.length m.o.ac, .int .u16 (m.o.port : Nat), .int .u16 (m.o.sid : Nat), .bool m.o.un, .int .u32 (m.o.ppid : Nat), .slice m.o.da m.o.zs.length m.o.dc, .bool m.o.blk, .int .u32 (m.fr : Nat), .int .u32 (m.to : Nat), .slice m.ba m.bs.length m.bc]
abbrev MvV.v (m : MvV) : Value := .agg #[.int .u8 (m.k : Nat), .int .u8 (m.host : Nat), .int .i64 m.n, .int .i64 m.bit, .int .u8 (m.o.k : Nat), .int .i64 m.o.id, .slice m.o.aa m.o.ads.length m.o.ac, .int .u16 (m.o.port : Nat), .int .u16 (m.o.sid : Nat), .bool m.o.un, .int .u32 (m.o.ppid : Nat), .slice m.o.da m.o.zs.length m.o.dc, .bool m.o.blk, .int .u32 (m.fr : Nat), .int .u32 (m.to : Nat), .slice m.ba m.bs.length m.bc]
structure OpOk' (h : AHeap) (o : OpV) : Prop where
 k : o.k < 256
 id0 : -9223372036854775808 ≤ o.id
 id1 : o.id < 9223372036854775808
 A : Rv Tryd.prog h 1 o.aa o.ads.length o.ac (o.ads.map u32v)
 ab : ∀ x ∈ o.ads, x < 4294967296
 al : o.ads.length ≤ 2000000
 port : o.port < 65536
 sid : o.sid < 65536
 ppid : o.ppid < 4294967296
 D : Rv Tryd.prog h 1 o.da o.zs.length o.dc (o.zs.map bv)
 zl : o.zs.length ≤ 2000000
structure MvOk (h : AHeap) (m : MvV) : Prop where
 k : m.k < 256
 host : m.host < 256
 n0 : -9223372036854775808 ≤ m.n
 n1 : m.n < 9223372036854775808
 b0 : -9223372036854775808 ≤ m.bit
 b1 : m.bit < 9223372036854775808
 o : OpOk' h m.o
 fr : m.fr < 4294967296
 to : m.to < 4294967296
 B : Rv Tryd.prog h 1 m.ba m.bs.length m.bc (m.bs.map bv)
 bl : m.bs.length ≤ 2000000
theorem OpOk'.same {h h' : AHeap} {o : OpV} (x : OpOk' h o) (s : Same h h') : OpOk' h' o := ⟨x.k, x.id0, x.id1, x.A.same s, x.ab, x.al, x.port, x.sid, x.ppid, x.D.same s, x.zl⟩
theorem MvOk.same {h h' : AHeap} {m : MvV} (x : MvOk h m) (s : Same h h') : MvOk h' m := ⟨x.k, x.host, x.n0, x.n1, x.b0, x.b1, x.o.same s, x.fr, x.to, x.B.same s, x.bl⟩
def OpV.em (o : OpV) : Bool := decide (o.sid = 0) && (decide (o.ppid = 0) && (!o.un && decide (o.zs.length = 0)))
def kwL : Nat → List UInt8
 | 3 => [114, 101, 99, 118]
 | 4 => [115, 104, 117, 116, 100, 111, 119, 110]
 | 5 => [97, 98, 111, 114, 116]
 | 6 => [112, 101, 101, 108, 111, 102, 102]
 | _ => []
def mwL : Nat → List UInt8
 | 2 => [112, 105, 99, 107]
 | 3 => [100, 101, 108, 105, 118, 101, 114]
 | 4 => [100, 114, 111, 112]
 | 5 => [116, 119, 105, 99, 101]
 | 6 => [116, 117, 114, 110]
 | 8 => [116, 105, 99, 107]
 | _ => []
def stv (l : List UInt8) : Value := .string ⟨l.toArray⟩
def someV : Value → AHeap → List Nat → Option Value := fun v _ _ => some v
def movesV : Value := .agg #[stv (mwL 0), stv (mwL 1), stv (mwL 2), stv (mwL 3), stv (mwL 4), stv (mwL 5), stv (mwL 6), stv (mwL 7), stv (mwL 8)]
def callsV : Value := .agg #[stv (kwL 0), stv (kwL 1), stv (kwL 2), stv (kwL 3), stv (kwL 4), stv (kwL 5), stv (kwL 6), stv (kwL 7), stv (kwL 8)]
theorem movesRun : callK (A := Value) Tryd.prog strOn (fev Tryd.prog strOn 5000) 26 [] GH someV = some movesV := by kernel_rfl
theorem callsRun : callK (A := Value) Tryd.prog strOn (fev Tryd.prog strOn 5000) 49 [] GH someV = some callsV := by kernel_rfl
theorem moves_spec (h : AHeap) (hG : Holds GH h) : CallS Tryd.prog [] 26 [] h fun v h' => v = movesV ∧ h' = h := by
 obtain ⟨v, h', wr, hc, he⟩ := callRun_of strOn_ok movesRun
 obtain rfl : v = movesV := Option.some.inj he
 exact CallS.knownG GH_flat GH_size hc rfl h hG
theorem calls_spec' (h : AHeap) (hG : Holds GH h) : CallS Tryd.prog [] 49 [] h fun v h' => v = callsV ∧ h' = h := by
 obtain ⟨v, h', wr, hc, he⟩ := callRun_of strOn_ok callsRun
 obtain rfl : v = callsV := Option.some.inj he
 exact CallS.knownG GH_flat GH_size hc rfl h hG
end Go.Proofs.YtncbbeghkpjpbaaDoor
namespace Go.Proofs.YtncbbeghkpjpbaaDoor
open Go.RowKit
set_option maxRecDepth 100000
attribute [local irreducible] Go GoR GoL
theorem ixV_some {zs : List UInt8} {c : UInt8} {j : Nat} (h : zs.findIdx? (· == c) = some j) : ixV zs c = (j : Int) := by unfold ixV; rw [h]
theorem ixV_none {zs : List UInt8} {c : UInt8} (h : zs.findIdx? (· == c) = none) : ixV zs c = -1 := by unfold ixV; rw [h]
set_option maxHeartbeats 4000000 in
theorem index_spec (zs : List UInt8) (c : UInt8) (h : AHeap) : CallS Tryd.prog [] 45 [.string ⟨zs.toArray⟩, .string ⟨[c].toArray⟩] h fun v h' => v = .int .i64 (ixV zs c) ∧ h' = h := by
 (refine CallS.of2 Tryd.func45 rfl Tryd.ntmps45 Tryd.results45 rfl ?_)
 by_cases he : [c] = zs
 ·
  have hz : decide ([c] = zs) = true := decide_eq_true he
  (refine Go.run (g:=?_))
  (first|refine Go.finA rfl ?_|refine Go.finB rfl (hq:=?_))
  refine ⟨?_, rfl⟩
  subst he
  simp [ixV, List.findIdx?_cons]; rfl
 ·
  have hz : decide ([c] = zs) = false := decide_eq_false he
  (refine Go.run (g:=?_))
  refine GoR.strAtI (zs := [c]) rfl rfl rfl rfl rfl rfl (by decide) (z := c) rfl ?_
  (refine Go.run (g:=?_))
  refine GoR.call rfl rfl rfl rfl rfl rfl rfl (((ixb_spec zs c _).argA).mono ?_)
  rintro _ H1 ⟨rfl, rfl⟩ s1
  (refine Go.run (g:=?_))
  (first|refine Go.finA rfl ?_|refine Go.finB rfl (hq:=?_))
  exact ⟨rfl, rfl⟩
set_option maxHeartbeats 4000000 in
theorem sindex_spec (zs : List UInt8) (c : UInt8) (h : AHeap) : CallS Tryd.prog [] 44 [.string ⟨zs.toArray⟩, .string ⟨[c].toArray⟩] h fun v h' => v = .int .i64 (ixV zs c) ∧ h' = h := by
 (refine CallS.of2 Tryd.func44 rfl Tryd.ntmps44 Tryd.results44 rfl ?_)
 (refine Go.run (g:=?_))
 refine GoR.call rfl rfl rfl rfl rfl rfl rfl (((index_spec zs c _).argA).mono ?_)
 rintro _ H1 ⟨rfl, rfl⟩ s1
 (refine Go.run (g:=?_))
 (first|refine Go.finA rfl ?_|refine Go.finB rfl (hq:=?_))
 exact ⟨rfl, rfl⟩
theorem semi_at {zs : List UInt8} : semi zs = match zs.findIdx? (· == 59) with
  | some j => zs.take j
  | none => zs := by
 unfold semi
 induction zs with
 | nil => rfl
 | cons z zs ih =>
  rw [List.takeWhile_cons, List.findIdx?_cons]
  by_cases hz : z = 59
  · subst hz; simp
  ·
   have h1 : (z == 59) = false := by simpa using hz
   have h2 : (z != 59) = true := by simpa using hz
   rw [h2, h1, ih]
   simp only [if_true]
   cases hf : zs.findIdx? (· == 59) with
   | none => simp
   | some j => simp
set_option maxHeartbeats 4000000 in
theorem lcut_spec (zs : List UInt8) (hl : zs.length ≤ 10000000) (h : AHeap) : CallS Tryd.prog [] 24 [.string ⟨zs.toArray⟩, .string ⟨[59].toArray⟩] h fun v h' => (∃ u b, v = .tuple #[stv (semi zs), u, .bool b]) ∧ h' = h := by
 (refine CallS.of2 Tryd.func24 rfl Tryd.ntmps24 Tryd.results24 rfl ?_)
 (refine Go.run (g:=?_))
 refine GoR.call rfl rfl rfl rfl rfl rfl rfl (((index_spec zs 59 _).argA).mono ?_)
 rintro _ H1 ⟨rfl, rfl⟩ s1
 have hs := semi_at (zs := zs)
 cases hf : zs.findIdx? (· == 59) with
 | none =>
  rw [hf] at hs
  rw [ixV_none hf]
  (refine Go.run (g:=?_))
  (first|refine Go.finA rfl ?_|refine Go.finB rfl (hq:=?_))
  exact ⟨⟨_, _, by rw [hs]; rfl⟩, rfl⟩
 | some j =>
  rw [hf] at hs
  obtain ⟨hj, -, -⟩ := List.findIdx?_eq_some_iff_getElem.1 hf
  rw [ixV_some hf]
  (refine Go.run (g:=?_))
  refine GoR.strHi (zs := zs) (r := j) rfl rfl rfl rfl rfl rfl (by omega) ?_
  (refine Go.run (g:=?_))
  rw [show ((([59] : List UInt8).length : Nat) : Int) = ((1 : Nat) : Int) from rfl]
  (refine Go.run (g:=?_))
  refine GoR.strLo (zs := zs) (l := j + 1) rfl rfl rfl rfl rfl rfl (by omega) ?_
  (refine Go.run (g:=?_))
  (first|refine Go.finA rfl ?_|refine Go.finB rfl (hq:=?_))
  exact ⟨⟨_, _, by rw [hs]; rfl⟩, rfl⟩
set_option maxHeartbeats 4000000 in
theorem cut_spec (zs : List UInt8) (hl : zs.length ≤ 10000000) (h : AHeap) : CallS Tryd.prog [] 13 [.string ⟨zs.toArray⟩, .string ⟨[59].toArray⟩] h fun v h' => (∃ u b, v = .tuple #[stv (semi zs), u, .bool b]) ∧ h' = h := by
 (refine CallS.of2 Tryd.func13 rfl Tryd.ntmps13 Tryd.results13 rfl ?_)
 (refine Go.run (g:=?_))
 refine GoR.call rfl rfl rfl rfl rfl rfl rfl (((lcut_spec zs hl _).argA).mono ?_)
 rintro _ H1 ⟨⟨u, b, rfl⟩, rfl⟩ s1
 (refine Go.run (g:=?_))
 (first|refine Go.finA rfl ?_|refine Go.finB rfl (hq:=?_))
 exact ⟨⟨u, b, rfl⟩, rfl⟩
theorem set_line {done : List (List UInt8)} {l : List UInt8} {n : Nat} (h : done.length < n) : (done.map stv ++ List.replicate (n - done.length) (stv [])).set done.length (stv l) = (done ++ [l]).map stv ++ List.replicate (n - (done ++ [l]).length) (stv []) := by
 have e : n - done.length = (n - (done ++ [l]).length) + 1 := by simp; omega
 rw [List.set_append_right _ _ (by simp), e, List.replicate_succ]
 simp
set_option maxHeartbeats 16000000 in
theorem genSplit_spec (zs : List UInt8) (hl : zs.length ≤ 10000000) (h : AHeap) : CallS Tryd.prog [] 23 [.string ⟨zs.toArray⟩, .string ⟨[10].toArray⟩, .int .i64 0, .int .i64 (-1)] h fun v h' => ∃ a cap, v = .slice a (splitNL zs).length cap ∧ Rv Tryd.prog h' 1 a (splitNL zs).length cap ((splitNL zs).map stv) := by
 have hcl : (splitNL zs).length = cntV zs 10 + 1 := splitNL_len zs
 have hcm : cntV zs 10 ≤ zs.length := List.count_le_length ..
 (refine CallS.of4 Tryd.func23 rfl Tryd.ntmps23 Tryd.results23 rfl ?_)
 (refine Go.run (g:=?_))
 refine GoR.call rfl rfl rfl rfl rfl rfl rfl (((cnt_spec zs 10 _).argA).mono ?_)
 rintro _ H1 ⟨rfl, rfl⟩ s1
 clear s1
 generalize cntV zs 10 = L at *
 (refine Go.run (g:=?_))
 refine GoR.minI rfl rfl rfl rfl rfl rfl ?_
 rw [if_neg (by omega)]
 generalize hn : L + 1 = n at *
 (refine Go.run (g:=?_))
 refine GoR.makeV rfl rfl rfl rfl rfl rfl (by omega) (by omega) (by omega) (by omega) ?_
 rw [Int.toNat_natCast]
 refine GoR.name ?_
 intro H2 e2
 have v2 : Sv H2 9 1 (some ⟨H1.n, 0, none⟩) n n (([] : List (List UInt8)).map stv ++ List.replicate (n - 0) (stv [])) := by
  rw [e2]; exact Sv.new H1 _ _ (by simp)
 have s2 : Same H1 H2 := by rw [e2]; exact (Same.refl H1).push _
 clear e2
 (refine Go.run (g:=?_))
 refine Go.loop (α := List (List UInt8) × List UInt8 × AHeap) (fun s => [(9, .slice (some ⟨H1.n, 0, none⟩) n n), (10, .int .i64 (s.1.length : Nat)), (3, .int .i64 ((n - 1 : Nat) : Int)), (0, stv s.2.1), (1, .string ⟨[10].toArray⟩), (2, .int .i64 0)]) (fun _ => []) (fun s => s.2.2) (fun s => splitNL zs = s.1 ++ splitNL s.2.1 ∧ s.2.1.length ≤ zs.length ∧ Same H1 s.2.2 ∧ Sv s.2.2 9 1 (some ⟨H1.n, 0, none⟩) n n (s.1.map stv ++ List.replicate (n - s.1.length) (stv []))) (fun s => n - s.1.length) ([], zs, H2) ⟨rfl, Nat.le_refl _, s2, v2⟩ ⟨rfl, rfl, ?_, rfl, rfl, rfl, trivial⟩ rfl rfl ?_
 · simp; rfl
 rintro ⟨done, rest, H⟩ ⟨hs, hrl, s, v⟩
 simp only at hs hrl s v ⊢
 have hlen : n = done.length + (splitNL rest).length := by rw [← hcl, hs, List.length_append]
 have hrp := splitNL_pos rest
 have how : Own H1.n (some ⟨H1.n, 0, none⟩) := fun i hi => by simp [blk] at hi; omega
 rcases Nat.lt_or_ge done.length (n - 1) with hi | hi
 ·
  cases hf : rest.findIdx? (· == 10) with
  | none => rw [splitNL_end hf] at hlen; simp at hlen; omega
  | some j =>
   obtain ⟨hj, hsp⟩ := splitNL_at hf
   (refine Go.run (g:=?_))
   refine GoR.call rfl rfl rfl rfl rfl rfl rfl (((sindex_spec rest 10 _).argA).mono ?_)
   rintro _ H3 ⟨rfl, rfl⟩ s3
   clear s3
   rw [ixV_some hf]
   (refine Go.run (g:=?_))
   refine GoR.strHi (zs := rest) (r := j) rfl rfl rfl rfl rfl rfl (by omega) ?_
   (refine Go.run (g:=?_))
   refine GoR.store1' rfl rfl rfl rfl rfl rfl (g:=?_)
   intro H4 v4 k4 n4
   have v4 := (set_line (l := rest.take j) (show done.length < n by omega)) ▸ (show Sv H4 9 1 (some ⟨H1.n, 0, none⟩) n n ((done.map stv ++ List.replicate (n - done.length) (stv [])).set done.length (stv (rest.take j))) from v4)
   (refine Go.run (g:=?_))
   rw [show ((([10] : List UInt8).length : Nat) : Int) = ((1 : Nat) : Int) from rfl]
   (refine Go.run (g:=?_))
   refine GoR.strLo (zs := rest) (l := j + 1) rfl rfl rfl rfl rfl rfl (by omega) ?_
   (refine Go.run (g:=?_))
   refine Go.again (done ++ [rest.take j], rest.drop (j + 1), H4) ⟨?_, ?_, same_keeps s k4 how, v4⟩ ?_ ⟨rfl, ?_, rfl, rfl, rfl, rfl, trivial⟩ rfl rfl
   · rw [hs, hsp]; simp
   ·
    show (rest.drop (j + 1)).length ≤ zs.length
    rw [List.length_drop]; omega
   ·
    show n - (done ++ [rest.take j]).length < n - done.length
    simp; omega
   ·
    show some _ = some _
    simp
 ·
  have h1 : splitNL rest = [rest] := by
   cases hf : rest.findIdx? (· == 10) with
   | none => exact splitNL_end hf
   | some j =>
    obtain ⟨hj, hsp⟩ := splitNL_at hf
    have := splitNL_pos (rest.drop (j + 1))
    rw [hsp] at hlen; simp at hlen; omega
  have hd : done.length + 1 = n := by rw [h1] at hlen; simpa using hlen.symm
  (refine Go.run (g:=?_))
  refine GoR.store1' rfl rfl rfl rfl rfl rfl (g:=?_)
  intro H4 v4 k4 n4
  rw [set_line (show done.length < n by omega)] at v4
  (refine Go.run (g:=?_))
  refine GoR.sliceV (lo' := none) (hi' := some (.int .i64 ((done.length + 1 : Nat) : Int))) (l := 0) (r := n) rfl rfl rfl rfl rfl rfl rfl v4.rv rfl (by simp [bnd]; omega) (by omega) (by omega) ?_
  (refine Go.run (g:=?_))
  (first|refine Go.finA rfl ?_|refine Go.finB rfl (hq:=?_))
  refine ⟨some ⟨H1.n, 0, none⟩, n, ?_, ?_⟩
  · rw [hcl]; simp [subA]; rfl
  ·
   have e : (done ++ [rest]).map stv ++ List.replicate (n - (done ++ [rest]).length) (stv []) = (splitNL zs).map stv := by
    rw [hs, h1, show n - (done ++ [rest]).length = 0 from by simp; omega]
    simp
   rw [hcl, ← e]
   exact v4.rv
set_option maxHeartbeats 4000000 in
theorem split_spec (zs : List UInt8) (hl : zs.length ≤ 10000000) (h : AHeap) : CallS Tryd.prog [] 12 [.string ⟨zs.toArray⟩, .string ⟨[10].toArray⟩] h fun v h' => ∃ a cap, v = .slice a (splitNL zs).length cap ∧ Rv Tryd.prog h' 1 a (splitNL zs).length cap ((splitNL zs).map stv) := by
 (refine CallS.of2 Tryd.func12 rfl Tryd.ntmps12 Tryd.results12 rfl ?_)
 (refine Go.run (g:=?_))
 refine GoR.call rfl rfl rfl rfl rfl rfl rfl (((genSplit_spec zs hl _).argA).mono ?_)
 rintro _ H1 ⟨a, cap, rfl, hR⟩ s1
 (refine Go.run (g:=?_))
 (first|refine Go.finA rfl ?_|refine Go.finB rfl (hq:=?_))
 exact ⟨a, cap, rfl, hR⟩
end Go.Proofs.YtncbbeghkpjpbaaDoor
namespace Go.Proofs.YtncbbeghkpjpbaaDoor
open Go.RowKit
set_option maxRecDepth 100000
attribute [local irreducible] Go GoR GoL
theorem com_i64 {x : Nat} (hx : x < 4611686018427387904) : iBin .xor .i64 (if IntKind.i64.signed then -1 else IntKind.i64.max) (x : Int) = some (.int .i64 (-(x : Int) - 1)) := by
 show some (Value.int .i64 (IntKind.i64.wrap ((BitVec.ofInt 64 (-1) ^^^ BitVec.ofInt 64 (x : Int)).toNat : Int))) = _
 rw [show BitVec.ofInt 64 (-1) = BitVec.allOnes 64 from rfl, BitVec.allOnes_xor, BitVec.toNat_not]
 have e3 : (BitVec.ofInt 64 (x : Int)).toNat = x := by
  rw [BitVec.ofInt_natCast, BitVec.toNat_ofNat]; omega
 rw [e3]
 have e4 : ((2 ^ 64 - 1 - x : Nat) : Int) = 18446744073709551615 - (x : Int) := by omega
 rw [e4]
 congr 2
 simp [IntKind.wrap, IntKind.signed, IntKind.bits]
 omega
def StOk (c : Option Nat) (st : Int) : Prop := -10000002 ≤ st ∧ match c with
 | some a => st = (a : Int)
 | none => st < 0
def spC (o : List (Nat × Nat)) : List Value := o.flatMap fun p => [.int .i64 (p.1 : Nat), .int .i64 (p.2 : Nat)]
theorem spC_snoc (o : List (Nat × Nat)) (p : Nat × Nat) : spC (o ++ [p]) = spC o ++ [.int .i64 (p.1 : Nat), .int .i64 (p.2 : Nat)] := by simp [spC]
theorem isSp_spec (r : Int) (h : AHeap) : CallS Tryd.prog [] 15 [.int .i32 r] h fun v h' => v = .bool (decide (r = 32)) ∧ h' = h := by
 (refine CallS.of1 Tryd.func15 rfl Tryd.ntmps15 Tryd.results15 rfl ?_)
 (refine Go.run (g:=?_))
 (first|refine Go.finA rfl ?_|refine Go.finB rfl (hq:=?_))
 exact ⟨rfl, rfl⟩
theorem mkSpans : aMake Tryd.prog 61 (.int .i64 0) (.int .i64 32) = some (0, 32, .cells (List.replicate 64 (.int .i64 0)) 63) := by kernel_rfl
structure FF (h : AHeap) (n0 : Nat) (s : List UInt8) (i it : Nat) (o : List (Nat × Nat)) (c : Option Nat) (st : Int) (b : Option Addr) (cap : Nat) (H : AHeap) : Prop where
 hi : i ≤ s.length
 sp : spans s i = (o, c)
 st : StOk c st
 v : Sv H 63 2 b o.length cap (spC o)
 ow : Own n0 b
 g : H.get it = some (.iter ⟨s.toArray⟩ i)
 ne : it ∉ blk b
 sm : Same h H
theorem spC_len (o : List (Nat × Nat)) : (spC o).length = 2 * o.length := by
 induction o with
 | nil => rfl
 | cons p o ih => simp only [spC, List.flatMap_cons, List.length_append, List.length_cons, List.length_nil] at *; omega
theorem spC_drop : ∀ (o : List (Nat × Nat)) (i : Nat), (spC o).drop (i * 2) = spC (o.drop i)
 | [], i => by simp [spC]
 | p :: o, 0 => by simp
 | p :: o, i + 1 => by
  have e : (i + 1) * 2 = 2 + i * 2 := by omega
  rw [e, ← List.drop_drop]
  have : (spC (p :: o)).drop 2 = spC o := rfl
  rw [this, spC_drop o i, List.drop_succ_cons]
theorem spC_take {o : List (Nat × Nat)} {i : Nat} {p : Nat × Nat} (h : o[i]? = some p) : ((spC o).drop (i * 2)).take 2 = [.int .i64 (p.1 : Nat), .int .i64 (p.2 : Nat)] := by
 obtain ⟨hi, rfl⟩ := List.getElem?_eq_some_iff.1 h
 rw [spC_drop, List.drop_eq_getElem_cons hi]
 rfl
set_option maxHeartbeats 16000000 in
theorem fields_spec (s : List UInt8) (hl : s.length ≤ 10000000) (h : AHeap) : CallS Tryd.prog [] 14 [.string ⟨s.toArray⟩, .func (.func 15) #[] #[]] h fun v h' => ∃ a cap, v = .slice a (fld s).length cap ∧ Rv Tryd.prog h' 1 a (fld s).length cap ((fld s).map stv) := by
 have hsz : (⟨s.toArray⟩ : ByteArray).size = s.length := by simp [ByteArray.size]
 (refine CallS.of2 Tryd.func14 rfl Tryd.ntmps14 Tryd.results14 rfl ?_)
 (refine Go.run (g:=?_))
 refine GoR.makeSlice rfl rfl rfl rfl rfl rfl mkSpans ?_
 (refine Go.run (g:=?_))
 refine GoR.rangeStr rfl rfl rfl rfl rfl ?_
 refine GoR.name ?_
 intro H1 e1
 have F1 : FF h h.n s 0 (h.n + 1) [] none (-1) (some ⟨h.n, 0, none⟩) 32 H1 := by
  refine ⟨Nat.zero_le _, rfl, ⟨by decide, by show (-1 : Int) < 0; decide⟩, ?_, fun i hi => by simp [blk] at hi; omega, ?_, by simp [blk], ?_⟩
  ·
   rw [e1]
   exact .mk (c := List.replicate 64 (.int .i64 0)) (by rw [AHeap.get_push_ne _ _ (by simp), AHeap.get_push_same]) (by simp) (by simp) (by simp [spC])
  · rw [e1]; exact AHeap.get_push_same _ _
  · rw [e1]; exact ((Same.refl h).push _).push _
 clear e1
 (refine Go.run (g:=?_))
 refine Go.loop (α := Nat × List (Nat × Nat) × Option Nat × Int × Option Addr × Nat × AHeap) (fun x => [(0, .string ⟨s.toArray⟩), (1, .func (.func 15) #[] #[]), (5, .slice x.2.2.2.2.1 x.2.1.length x.2.2.2.2.2.1), (6, .int .i64 x.2.2.2.1), (14, .pointer (some ⟨h.n + 1, 0, none⟩))]) (fun _ => []) (fun x => x.2.2.2.2.2.2) (fun x => FF h h.n s x.1 (h.n + 1) x.2.1 x.2.2.1 x.2.2.2.1 x.2.2.2.2.1 x.2.2.2.2.2.1 x.2.2.2.2.2.2) (fun x => s.length - x.1) (0, [], none, -1, some ⟨h.n, 0, none⟩, 32, H1) F1 ⟨rfl, rfl, rfl, rfl, rfl, trivial⟩ rfl rfl ?_
 rintro ⟨i, o, c, st, b, cap, H⟩ F
 simp only at F ⊢
 obtain ⟨fi, fsp, fst, fv, fow, fg, fne, fsm⟩ := F
 have hol := (spans_bound s i).2.2
 rw [fsp] at hol
 simp only at hol
 rcases Nat.lt_or_ge i s.length with hi | hi
 ·
  obtain ⟨z, hz⟩ : ∃ z, s[i]? = some z := ⟨_, List.getElem?_eq_getElem hi⟩
  obtain ⟨d1, d2⟩ := dec_spec s hz
  (refine Go.run (g:=?_))
  refine GoR.iterN rfl rfl rfl rfl rfl fg (.inr (by omega)) (by rw [hsz]; exact hi) ?_
  (refine Go.run (g:=?_))
  refine GoR.call rfl rfl rfl rfl rfl rfl rfl (((isSp_spec _ _).argA).mono ?_)
  rintro _ H2 ⟨rfl, rfl⟩ s2
  clear s2
  have hm : o.length ≤ 10000000 := by omega
  have hgi : ∀ w, (H.put (h.n + 1) (some (.iter ⟨s.toArray⟩ (i + w)))).get (h.n + 1) = some (.iter ⟨s.toArray⟩ (i + w)) := fun w => AHeap.get_put_same _ (AHeap.lt fg) _
  have hvi : ∀ w, Sv (H.put (h.n + 1) (some (.iter ⟨s.toArray⟩ (i + w)))) 63 2 b o.length cap (spC o) := fun w => fv.put fne _
  have hsi : ∀ w, Same h (H.put (h.n + 1) (some (.iter ⟨s.toArray⟩ (i + w)))) := fun w => fsm.put (by omega) _
  by_cases hz32 : z.toNat = 32
  ·
   have hd := d1 (by omega)
   have hzz : s[i]? = some 32 := by rw [hz]; congr 1; exact UInt8.toNat_inj.1 hz32
   have hnx : spans s (i + 1) = sp1 s i (o, c) := by rw [spans, fsp]
   rw [sp1, if_pos hzz] at hnx
   rw [hd, hz32]
   dsimp only
   cases c with
   | none =>
    have hst : st < 0 := fst.2
    (refine Go.run (g:=?_))
    exact Go.again (i + 1, o, none, st, b, cap, _) ⟨hi, hnx, fst, hvi 1, fow, hgi 1, fne, hsi 1⟩ (by show s.length - (i + 1) < s.length - i; omega) ⟨rfl, rfl, rfl, rfl, rfl, trivial⟩ rfl rfl
   | some a0 =>
    obtain rfl : st = (a0 : Int) := fst.2
    have ha0 : a0 < i := (spans_bound s i).2.1 a0 (by rw [fsp])
    (refine Go.run (g:=?_))
    refine GoR.buildRo (c := [.int .i64 (a0 : Nat), .int .i64 (i : Nat)]) rfl rfl rfl rfl rfl (by decide) (by rfl) (by rfl) ?_
    intro b2 h2 r2 ro2 ow2 s2 n2
    refine GoR.appendV rfl rfl rfl rfl rfl rfl ((hvi 1).same s2) r2 (fun j hj => .inr (fow j hj)) (by omega) (by omega) (by simp [Value.oneCell']) ?_
    intro b3 c3 h3 v3 k3 o3
    have lt1 := AHeap.lt fg
    have le2 := s2.1
    have le3 := k3.1
    simp only [AHeap.n_put] at le2
    (refine Go.run (g:=?_))
    refine GoR.com rfl rfl rfl rfl rfl (com_i64 (by omega)) ?_
    (refine Go.run (g:=?_))
    refine Go.again (i + 1, o ++ [(a0, i)], none, -(a0 : Int) - 1, b3, c3, h3) ⟨hi, hnx, ⟨by show -10000002 ≤ -(a0 : Int) - 1; omega, by show -(a0 : Int) - 1 < 0; omega⟩, ?_, fun j hj => (o3 j hj).elim (fow j) (fun e => by have := fsm.1; omega), k3.get (s2.get (hgi 1)) fne, fun e => (o3 _ e).elim fne (fun e => by omega), same_keeps ((hsi 1).trans s2) k3 fow⟩ (by show s.length - (i + 1) < s.length - i; omega) ⟨rfl, rfl, ?_, rfl, rfl, trivial⟩ rfl rfl
    ·
     show Sv h3 63 2 b3 (o ++ [(a0, i)]).length c3 (spC (o ++ [(a0, i)]))
     rw [spC_snoc, List.length_append]; exact v3
    ·
     show some _ = some (Value.slice b3 (o ++ [(a0, i)]).length c3)
     rw [List.length_append]; rfl
  ·
   obtain ⟨r, w, hd, hr, hw, hx⟩ : ∃ r w, Utf8.decode ⟨s.toArray⟩ i = (r, w + 1) ∧ r ≠ 32 ∧ i + w < s.length ∧ ∀ x, i + 1 ≤ x → x < i + 1 + w → s[x]? ≠ some 32 := by
    rcases Nat.lt_or_ge z.toNat 128 with h7 | h7
    · exact ⟨z.toNat, 0, d1 h7, hz32, by omega, fun x h1 h2 => by omega⟩
    ·
     obtain ⟨e1, w, e2, e3, e4⟩ := d2 h7
     exact ⟨_, w, by rw [← e2], e1, e3, e4⟩
   have hnx : spans s (i + 1) = sp1 s i (o, c) := by rw [spans, fsp]
   rw [sp1, if_neg (by rw [hz]; intro e; apply hz32; injection e with e; rw [e]; rfl)] at hnx
   have hnw : spans s (i + (w + 1)) = (o, some (c.getD i)) := by
    rw [show i + (w + 1) = i + 1 + w from by omega, spans_skip (a := c.getD i) (by rw [hnx]) w hx, hnx]
   have hne : decide ((r : Int) = 32) = false := decide_eq_false (by omega)
   rw [hd]
   dsimp only
   rw [hne]
   cases c with
   | none =>
    have hst : st < 0 := fst.2
    (refine Go.run (g:=?_))
    exact Go.again (i + (w + 1), o, some i, (i : Int), b, cap, _) ⟨by show i + (w + 1) ≤ s.length; omega, hnw, ⟨by show -10000002 ≤ (i : Int); omega, rfl⟩, hvi (w + 1), fow, hgi (w + 1), fne, hsi (w + 1)⟩ (by show s.length - (i + (w + 1)) < s.length - i; omega) ⟨rfl, rfl, rfl, rfl, rfl, trivial⟩ rfl rfl
   | some a0 =>
    obtain rfl : st = (a0 : Int) := fst.2
    (refine Go.run (g:=?_))
    exact Go.again (i + (w + 1), o, some a0, (a0 : Int), b, cap, _) ⟨by show i + (w + 1) ≤ s.length; omega, hnw, fst, hvi (w + 1), fow, hgi (w + 1), fne, hsi (w + 1)⟩ (by show s.length - (i + (w + 1)) < s.length - i; omega) ⟨rfl, rfl, rfl, rfl, rfl, trivial⟩ rfl rfl
 ·
  obtain rfl : i = s.length := by omega
  have hfl : fld s = (spFin s.length (o, c)).map (subW s) := by rw [← fsp]; rfl
  have hbd := spFin_bound (s := s) (n := s.length)
  rw [fsp] at hbd
  have hml := spFin_len s s.length
  rw [fsp] at hml
  (refine Go.run (g:=?_))
  refine GoR.iterE rfl rfl rfl rfl rfl fg (.inr (by omega)) (by rw [hsz]; omega) ?_
  cases c with
  | none =>
   have hst : st < 0 := fst.2
   have hL : spFin s.length (o, none) = o := rfl
   rw [hL] at hfl hbd hml
   have v3 := fv
   have s3 := fsm
   clear fv fsm fg fne fow F1 fst hL fsp
   generalize b = b3 at *
   generalize cap = c3 at *
   generalize H = h3 at *
   generalize o = L at *
   (refine Go.run (g:=?_))
   refine GoR.makeN (bytes := 16) (l := L.length) (c := L.length) rfl rfl rfl rfl rfl rfl (Nat.le_refl _) (by omega) (by omega) ?_
   refine GoR.name ?_
   intro H4 e4
   have v4 : Sv H4 9 1 (some ⟨h3.n, 0, none⟩) L.length L.length (([] : List (List UInt8)).map stv ++ List.replicate (L.length - 0) (stv [])) := by
    rw [e4]; exact Sv.new h3 _ _ (by simp)
   have s4 : Same h3 H4 := by rw [e4]; exact (Same.refl h3).push _
   have n4 : H4.n = h3.n + 1 := by rw [e4]; rfl
   clear e4
   have s3n := s3.1
   have how : Own h3.n (some ⟨h3.n, 0, none⟩) := fun i hi => by simp [blk] at hi; omega
   (refine Go.run (g:=?_))
   refine Go.loop (α := Nat × AHeap) (fun x => [(0, .string ⟨s.toArray⟩), (9, .slice (some ⟨h3.n, 0, none⟩) L.length L.length), (47, .slice b3 L.length c3), (48, .int .i64 (L.length : Nat)), (49, .int .i64 (x.1 : Nat))]) (fun _ => []) (fun x => x.2) (fun x => x.1 ≤ L.length ∧ Same h3 x.2 ∧ Sv x.2 9 1 (some ⟨h3.n, 0, none⟩) L.length L.length (((L.take x.1).map (subW s)).map stv ++ List.replicate (L.length - ((L.take x.1).map (subW s)).length) (stv []))) (fun x => L.length - x.1) (0, H4) ⟨Nat.zero_le _, s4, v4⟩ ⟨rfl, rfl, rfl, rfl, rfl, trivial⟩ rfl rfl ?_
   rintro ⟨j, H⟩ ⟨hj, sH, vH⟩
   simp only at hj sH vH ⊢
   have hR := (v3.same sH).rv (P := Tryd.prog)
   rcases Nat.lt_or_ge j L.length with hjl | hjl
   case inl =>
    obtain ⟨p, hp⟩ : ∃ p, L[j]? = some p := ⟨_, List.getElem?_eq_getElem hjl⟩
    have hpb := hbd p (List.mem_of_getElem? hp)
    have tk := spC_take hp
    have hsl := spC_len L
    have l1 : j * 2 + 2 ≤ (spC L).length := by omega
    have hdl : ((L.take j).map (subW s)).length = j := by simp; omega
    have sHn := sH.1
    (refine Go.run (g:=?_))
    refine GoR.strLH (zs := s) (l := p.1) (r := p.2) rfl rfl rfl rfl rfl rfl rfl hpb.1 (by omega) ?_
    rw [List.drop_take]
    refine GoR.name ?_
    intro H5 e5
    have s5 : Same H H5 := by rw [e5]; exact ((Same.refl H).push _).put (Nat.le_refl _) _
    have v5 := vH.same s5
    clear e5
    (refine Go.run (g:=?_))
    refine GoR.store1' rfl rfl rfl rfl rfl rfl (g:=?_)
    intro H6 v6 k6 n6
    have e6 := set_line (l := subW s p) (show ((L.take j).map (subW s)).length < L.length by omega)
    rw [show (((L.take j).map (subW s)).map stv ++ List.replicate (L.length - ((L.take j).map (subW s)).length) (stv [])).set j (.string ⟨((s.drop p.1).take (p.2 - p.1)).toArray⟩) = (((L.take j).map (subW s)).map stv ++ List.replicate (L.length - ((L.take j).map (subW s)).length) (stv [])).set ((L.take j).map (subW s)).length (stv (subW s p)) from by rw [hdl] <;> rfl, e6] at v6
    rw [show (L.take j).map (subW s) ++ [subW s p] = (L.take (j + 1)).map (subW s) from by rw [take_snoc hp, List.map_append]; rfl] at v6
    (refine Go.run (g:=?_))
    exact Go.again (j + 1, H6) ⟨(by show j + 1 ≤ L.length; omega), same_keeps (sH.trans s5) k6 how, v6⟩ (by show L.length - (j + 1) < L.length - j; omega) ⟨rfl, rfl, rfl, rfl, rfl, trivial⟩ rfl rfl
   case inr =>
    obtain rfl : j = L.length := by omega
    rw [List.take_length, ← hfl] at vH
    (refine Go.run (g:=?_))
    (first|refine Go.finA rfl ?_|refine Go.finB rfl (hq:=?_))
    have e : (fld s).length = L.length := by rw [hfl, List.length_map]
    refine ⟨some ⟨h3.n, 0, none⟩, L.length, by rw [e]; rfl, ?_⟩
    rw [e] at vH ⊢
    rw [Nat.sub_self, List.replicate_zero, List.append_nil] at vH
    exact vH.rv
  | some a0 =>
   obtain rfl : st = (a0 : Int) := fst.2
   have hL : spFin s.length (o, some a0) = o ++ [(a0, s.length)] := rfl
   rw [hL] at hfl hbd hml
   (refine Go.run (g:=?_))
   refine GoR.buildRo (c := [.int .i64 (a0 : Nat), .int .i64 (s.length : Nat)]) rfl rfl rfl rfl rfl (by decide) (by rfl) (by rfl) ?_
   intro b2 h2 r2 ro2 ow2 s2 n2
   refine GoR.appendV rfl rfl rfl rfl rfl rfl (fv.same s2) r2 (fun j hj => .inr (fow j hj)) (by omega) (by omega) (by simp [Value.oneCell']) ?_
   intro b3 c3 h3 v3 k3 o3
   have s3 := same_keeps (fsm.trans s2) k3 fow
   have el : (o ++ [(a0, s.length)]).length = o.length + 1 := by simp
   rw [show spC o ++ [.int .i64 (a0 : Nat), .int .i64 (s.length : Nat)] = spC (o ++ [(a0, s.length)]) from by rw [spC_snoc]] at v3
   rw [← el] at v3 ⊢
   clear fv fsm fg fne fow F1 fst hL fsp el
   generalize o ++ [(a0, s.length)] = L at *
   (refine Go.run (g:=?_))
   refine GoR.makeN (bytes := 16) (l := L.length) (c := L.length) rfl rfl rfl rfl rfl rfl (Nat.le_refl _) (by omega) (by omega) ?_
   refine GoR.name ?_
   intro H4 e4
   have v4 : Sv H4 9 1 (some ⟨h3.n, 0, none⟩) L.length L.length (([] : List (List UInt8)).map stv ++ List.replicate (L.length - 0) (stv [])) := by
    rw [e4]; exact Sv.new h3 _ _ (by simp)
   have s4 : Same h3 H4 := by rw [e4]; exact (Same.refl h3).push _
   have n4 : H4.n = h3.n + 1 := by rw [e4]; rfl
   clear e4
   have s3n := s3.1
   have how : Own h3.n (some ⟨h3.n, 0, none⟩) := fun i hi => by simp [blk] at hi; omega
   (refine Go.run (g:=?_))
   refine Go.loop (α := Nat × AHeap) (fun x => [(0, .string ⟨s.toArray⟩), (9, .slice (some ⟨h3.n, 0, none⟩) L.length L.length), (47, .slice b3 L.length c3), (48, .int .i64 (L.length : Nat)), (49, .int .i64 (x.1 : Nat))]) (fun _ => []) (fun x => x.2) (fun x => x.1 ≤ L.length ∧ Same h3 x.2 ∧ Sv x.2 9 1 (some ⟨h3.n, 0, none⟩) L.length L.length (((L.take x.1).map (subW s)).map stv ++ List.replicate (L.length - ((L.take x.1).map (subW s)).length) (stv []))) (fun x => L.length - x.1) (0, H4) ⟨Nat.zero_le _, s4, v4⟩ ⟨rfl, rfl, rfl, rfl, rfl, trivial⟩ rfl rfl ?_
   rintro ⟨j, H⟩ ⟨hj, sH, vH⟩
   simp only at hj sH vH ⊢
   have hR := (v3.same sH).rv (P := Tryd.prog)
   rcases Nat.lt_or_ge j L.length with hjl | hjl
   case inl =>
    obtain ⟨p, hp⟩ : ∃ p, L[j]? = some p := ⟨_, List.getElem?_eq_getElem hjl⟩
    have hpb := hbd p (List.mem_of_getElem? hp)
    have tk := spC_take hp
    have hsl := spC_len L
    have l1 : j * 2 + 2 ≤ (spC L).length := by omega
    have hdl : ((L.take j).map (subW s)).length = j := by simp; omega
    have sHn := sH.1
    (refine Go.run (g:=?_))
    refine GoR.strLH (zs := s) (l := p.1) (r := p.2) rfl rfl rfl rfl rfl rfl rfl hpb.1 (by omega) ?_
    rw [List.drop_take]
    refine GoR.name ?_
    intro H5 e5
    have s5 : Same H H5 := by rw [e5]; exact ((Same.refl H).push _).put (Nat.le_refl _) _
    have v5 := vH.same s5
    clear e5
    (refine Go.run (g:=?_))
    refine GoR.store1' rfl rfl rfl rfl rfl rfl (g:=?_)
    intro H6 v6 k6 n6
    have e6 := set_line (l := subW s p) (show ((L.take j).map (subW s)).length < L.length by omega)
    rw [show (((L.take j).map (subW s)).map stv ++ List.replicate (L.length - ((L.take j).map (subW s)).length) (stv [])).set j (.string ⟨((s.drop p.1).take (p.2 - p.1)).toArray⟩) = (((L.take j).map (subW s)).map stv ++ List.replicate (L.length - ((L.take j).map (subW s)).length) (stv [])).set ((L.take j).map (subW s)).length (stv (subW s p)) from by rw [hdl] <;> rfl, e6] at v6
    rw [show (L.take j).map (subW s) ++ [subW s p] = (L.take (j + 1)).map (subW s) from by rw [take_snoc hp, List.map_append]; rfl] at v6
    (refine Go.run (g:=?_))
    exact Go.again (j + 1, H6) ⟨(by show j + 1 ≤ L.length; omega), same_keeps (sH.trans s5) k6 how, v6⟩ (by show L.length - (j + 1) < L.length - j; omega) ⟨rfl, rfl, rfl, rfl, rfl, trivial⟩ rfl rfl
   case inr =>
    obtain rfl : j = L.length := by omega
    rw [List.take_length, ← hfl] at vH
    (refine Go.run (g:=?_))
    (first|refine Go.finA rfl ?_|refine Go.finB rfl (hq:=?_))
    have e : (fld s).length = L.length := by rw [hfl, List.length_map]
    refine ⟨some ⟨h3.n, 0, none⟩, L.length, by rw [e]; rfl, ?_⟩
    rw [e] at vH ⊢
    rw [Nat.sub_self, List.replicate_zero, List.append_nil] at vH
    exact vH.rv
end Go.Proofs.YtncbbeghkpjpbaaDoor
namespace Go.Proofs.YtncbbeghkpjpbaaDoor
open Go.RowKit
set_option maxRecDepth 100000
attribute [local irreducible] Go GoR GoL
theorem semi_facts (s : List UInt8) : (semi s).length ≤ s.length ∧ (∀ x, x < (semi s).length → s[x]? = (semi s)[x]?) ∧ (∀ x, x < (semi s).length → s[x]? ≠ some 59) ∧ ((semi s).length < s.length → s[(semi s).length]? = some 59) := by
 induction s with
 | nil => exact ⟨Nat.le_refl _, fun x hx => by simp [semi] at hx, fun x hx => by simp [semi] at hx, fun h => by simp at h⟩
 | cons z s ih =>
  obtain ⟨h1, h2, h3, h4⟩ := ih
  unfold semi at *
  rw [List.takeWhile_cons]
  by_cases hz : z = 59
  ·
   subst hz
   refine ⟨by simp, fun x hx => by simp at hx, fun x hx => by simp at hx, fun _ => by simp⟩
  ·
   have e : (z != 59) = true := by simpa using hz
   rw [e]
   simp only [if_true, List.length_cons]
   refine ⟨by omega, fun x hx => ?_, fun x hx => ?_, fun h => ?_⟩
   ·
    cases x with
    | zero => simp
    | succ x => simpa using h2 x (by omega)
   ·
    cases x with
    | zero => simpa using hz
    | succ x => simpa using h3 x (by omega)
   · simpa using h4 (by omega)
def FrOk (c : Option Nat) (st : Int) : Prop := match c with
 | some a => st = (a : Int)
 | none => st = -1
structure WW (h : AHeap) (n0 : Nat) (s : List UInt8) (i : Nat) (ws : List (List UInt8)) (st : Int) (b : Option Addr) (cap : Nat) (H : AHeap) : Prop where
 v : Sv H 9 1 b ws.length cap (ws.map stv)
 ow : Own n0 b
 sm : Same h H
 wl : ws.length ≤ i
 or : (i ≤ (semi s).length ∧ ∃ o c, spans (semi s) i = (o, c) ∧ FrOk c st ∧ ws = o.map (subW (semi s))) ∨ (i = s.length + 1 ∧ ws = fld (semi s))
set_option maxHeartbeats 32000000 in
theorem words_spec (s : List UInt8) (hl : s.length ≤ 10000000) (h : AHeap) : CallS Tryd.prog [] 17 [.string ⟨s.toArray⟩] h fun v h' => ∃ a cap, v = .slice a (fld (semi s)).length cap ∧ Rv Tryd.prog h' 1 a (fld (semi s)).length cap ((fld (semi s)).map stv) := by
 obtain ⟨p1, p2, p3, p4⟩ := semi_facts s
 (refine CallS.of1 Tryd.func17 rfl Tryd.ntmps17 Tryd.results17 rfl ?_)
 (refine Go.run (g:=?_))
 refine Go.loop (α := Nat × List (List UInt8) × Int × Option Addr × Nat × AHeap) (fun x => [(0, .string ⟨s.toArray⟩), (3, .slice x.2.2.2.1 x.2.1.length x.2.2.2.2.1), (4, .int .i64 x.2.2.1), (5, .int .i64 (x.1 : Nat))]) (fun _ => []) (fun x => x.2.2.2.2.2) (fun x => WW h h.n s x.1 x.2.1 x.2.2.1 x.2.2.2.1 x.2.2.2.2.1 x.2.2.2.2.2) (fun x => s.length + 1 - x.1) (0, [], -1, none, 0, h) ⟨.nil, .nil _, .refl _, Nat.le_refl _, .inl ⟨Nat.zero_le _, [], none, rfl, rfl, rfl⟩⟩ ⟨rfl, rfl, rfl, rfl, trivial⟩ rfl rfl ?_
 rintro ⟨i, ws, st, b, cap, H⟩ ⟨fv, fow, fsm, fwl, hor⟩
 simp only at fv fow fsm fwl hor ⊢
 rcases hor with ⟨hi, o, c, hsp, hst, rfl⟩ | ⟨rfl, rfl⟩
 case inr =>
  (refine Go.run (g:=?_))
  (first|refine Go.finA rfl ?_|refine Go.finB rfl (hq:=?_))
  exact ⟨b, cap, rfl, fv.rv⟩
 have hbd := (spans_bound (semi s) i).2.1
 rw [hsp] at hbd
 simp only at hbd
 rw [List.length_map] at fwl
 have hsub : ∀ a0, (s.take i).drop a0 = subW (semi s) (a0, i) := fun a0 => by
  rw [List.drop_take]
  exact subW_pre (n := (semi s).length) (p := (a0, i)) p2 hi
 have hst1 : (c = none ∧ st = -1) ∨ ∃ a0, c = some a0 ∧ st = (a0 : Int) ∧ a0 < i := by
  cases c with
  | none => exact .inl ⟨rfl, hst⟩
  | some a0 => exact .inr ⟨a0, rfl, hst, hbd a0 rfl⟩
 have hml : (o.map (subW (semi s))).length = o.length := List.length_map ..
 rcases Nat.lt_or_ge i s.length with hil | hil
 ·
  obtain ⟨z, hz⟩ : ∃ z, s[i]? = some z := ⟨_, List.getElem?_eq_getElem hil⟩
  have hzb := z.toNat_lt
  (refine Go.run (g:=?_))
  refine GoR.strAt (zs := s) rfl rfl rfl rfl rfl rfl hz ?_
  by_cases z32 : z.toNat = 32
  ·
   have hz59 : ¬ z.toNat = 59 := by omega
   have hip : i < (semi s).length := by
    rcases Nat.lt_or_ge i (semi s).length with h | h
    · exact h
    ·
     obtain rfl : i = (semi s).length := by omega
     have := p4 hil
     rw [hz] at this
     injection this with this
     subst this; exact absurd rfl hz59
   have hnx : spans (semi s) (i + 1) = sp1 (semi s) i (o, c) := by rw [spans, hsp]
   rw [sp1, if_pos (by rw [← p2 i hip, hz]; congr 1; exact UInt8.toNat_inj.1 z32)] at hnx
   rcases hst1 with ⟨rfl, rfl⟩ | ⟨a0, rfl, rfl, ha0⟩
   ·
    (refine Go.run (g:=?_))
    refine GoR.strAt (zs := s) rfl rfl rfl rfl rfl rfl hz ?_
    (refine Go.run (g:=?_))
    exact Go.again (i + 1, o.map (subW (semi s)), -1, b, cap, H) ⟨fv, fow, fsm, by show (o.map (subW (semi s))).length ≤ i + 1; rw [List.length_map]; omega, .inl ⟨hip, o, none, hnx, rfl, rfl⟩⟩ (by show s.length + 1 - (i + 1) < s.length + 1 - i; omega) ⟨rfl, rfl, rfl, rfl, trivial⟩ rfl rfl
   ·
    have hsub := hsub a0
    (refine Go.run (g:=?_))
    refine GoR.strLH (zs := s) (l := a0) (r := i) rfl rfl rfl rfl rfl rfl rfl (by omega) (by omega) ?_
    rw [hsub]
    (refine Go.run (g:=?_))
    refine GoR.buildRo (c := [stv (subW (semi s) (a0, i))]) rfl rfl rfl rfl rfl (by decide) (by rfl) (by rfl) ?_
    intro b2 h2 r2 ro2 ow2 s2 n2
    refine GoR.appendV rfl rfl rfl rfl rfl rfl (fv.same s2) r2 (fun j hj => .inr (fow j hj)) (by omega) (by omega) (by simp [Value.oneCell', stv]) ?_
    intro b3 c3 h3 v3 k3 o3
    have s3 := same_keeps (fsm.trans s2) k3 fow
    have le2 := s2.1
    have lesm := fsm.1
    have ow3 : Own h.n b3 := fun j hj => (o3 j hj).elim (fow j) (fun e => by omega)
    rw [show ((o.map (subW (semi s))).map stv ++ [stv (subW (semi s) (a0, i))]) = ((o ++ [(a0, i)]).map (subW (semi s))).map stv from by simp, show (o.map (subW (semi s))).length + 1 = ((o ++ [(a0, i)]).map (subW (semi s))).length from by simp] at v3
    rw [show (o.map (subW (semi s))).length + 1 = ((o ++ [(a0, i)]).map (subW (semi s))).length from by simp]
    (refine Go.run (g:=?_))
    refine GoR.strAt (zs := s) rfl rfl rfl rfl rfl rfl hz ?_
    (refine Go.run (g:=?_))
    exact Go.again (i + 1, (o ++ [(a0, i)]).map (subW (semi s)), -1, b3, c3, h3) ⟨v3, ow3, s3, by show ((o ++ [(a0, i)]).map (subW (semi s))).length ≤ i + 1; simp; omega, .inl ⟨hip, _, none, hnx, rfl, rfl⟩⟩ (by show s.length + 1 - (i + 1) < s.length + 1 - i; omega) ⟨rfl, rfl, rfl, rfl, trivial⟩ rfl rfl
  ·
   (refine Go.run (g:=?_))
   refine GoR.strAt (zs := s) rfl rfl rfl rfl rfl rfl hz ?_
   by_cases z59 : z.toNat = 59
   ·
    obtain rfl : i = (semi s).length := by
     rcases Nat.lt_or_ge i (semi s).length with h | h
     · exact absurd (by rw [hz]; congr 1; exact UInt8.toNat_inj.1 z59) (p3 i h)
     · omega
    have hfl : fld (semi s) = (spFin (semi s).length (o, c)).map (subW (semi s)) := by rw [← hsp]; rfl
    rcases hst1 with ⟨rfl, rfl⟩ | ⟨a0, rfl, rfl, ha0⟩
    ·
     rw [hfl]
     (refine Go.run (g:=?_))
     refine GoR.strAt (zs := s) rfl rfl rfl rfl rfl rfl hz ?_
     (refine Go.run (g:=?_))
     (first|refine Go.finA rfl ?_|refine Go.finB rfl (hq:=?_))
     exact ⟨b, cap, rfl, fv.rv⟩
    ·
     rw [hfl]
     have hsub := hsub a0
     generalize hii : (semi s).length = i at *
     (refine Go.run (g:=?_))
     refine GoR.strLH (zs := s) (l := a0) (r := i) rfl rfl rfl rfl rfl rfl rfl (by omega) (by omega) ?_
     rw [hsub]
     (refine Go.run (g:=?_))
     refine GoR.buildRo (c := [stv (subW (semi s) (a0, i))]) rfl rfl rfl rfl rfl (by decide) (by rfl) (by rfl) ?_
     intro b2 h2 r2 ro2 ow2 s2 n2
     refine GoR.appendV rfl rfl rfl rfl rfl rfl (fv.same s2) r2 (fun j hj => .inr (fow j hj)) (by omega) (by omega) (by simp [Value.oneCell', stv]) ?_
     intro b3 c3 h3 v3 k3 o3
     have s3 := same_keeps (fsm.trans s2) k3 fow
     have le2 := s2.1
     have lesm := fsm.1
     have ow3 : Own h.n b3 := fun j hj => (o3 j hj).elim (fow j) (fun e => by omega)
     rw [show ((o.map (subW (semi s))).map stv ++ [stv (subW (semi s) (a0, i))]) = ((o ++ [(a0, i)]).map (subW (semi s))).map stv from by simp, show (o.map (subW (semi s))).length + 1 = ((o ++ [(a0, i)]).map (subW (semi s))).length from by simp] at v3
     rw [show (o.map (subW (semi s))).length + 1 = ((o ++ [(a0, i)]).map (subW (semi s))).length from by simp]
     (refine Go.run (g:=?_))
     refine GoR.strAt (zs := s) rfl rfl rfl rfl rfl rfl hz ?_
     (refine Go.run (g:=?_))
     (first|refine Go.finA rfl ?_|refine Go.finB rfl (hq:=?_))
     exact ⟨b3, c3, rfl, v3.rv⟩
   ·
    have hip : i < (semi s).length := by
     rcases Nat.lt_or_ge i (semi s).length with h | h
     · exact h
     ·
      obtain rfl : i = (semi s).length := by omega
      have := p4 hil
      rw [hz] at this
      injection this with this
      subst this; exact absurd rfl z59
    have hnx : spans (semi s) (i + 1) = sp1 (semi s) i (o, c) := by rw [spans, hsp]
    rw [sp1, if_neg (by rw [← p2 i hip, hz]; intro e; apply z32; injection e with e; rw [e]; rfl)] at hnx
    rcases hst1 with ⟨rfl, rfl⟩ | ⟨a0, rfl, rfl, ha0⟩
    ·
     (refine Go.run (g:=?_))
     exact Go.again (i + 1, o.map (subW (semi s)), (i : Int), b, cap, H) ⟨fv, fow, fsm, by show (o.map (subW (semi s))).length ≤ i + 1; rw [List.length_map]; omega, .inl ⟨hip, o, some i, hnx, rfl, rfl⟩⟩ (by show s.length + 1 - (i + 1) < s.length + 1 - i; omega) ⟨rfl, rfl, rfl, rfl, trivial⟩ rfl rfl
    ·
     (refine Go.run (g:=?_))
     exact Go.again (i + 1, o.map (subW (semi s)), (a0 : Int), b, cap, H) ⟨fv, fow, fsm, by show (o.map (subW (semi s))).length ≤ i + 1; rw [List.length_map]; omega, .inl ⟨hip, o, some a0, hnx, rfl, rfl⟩⟩ (by show s.length + 1 - (i + 1) < s.length + 1 - i; omega) ⟨rfl, rfl, rfl, rfl, trivial⟩ rfl rfl
 ·
  obtain rfl : i = s.length := by omega
  have hse : (semi s).length = s.length := by omega
  have hfl : fld (semi s) = (spFin s.length (o, c)).map (subW (semi s)) := by rw [← hsp, ← hse]; rfl
  generalize hii : s.length = i at *
  rcases hst1 with ⟨rfl, rfl⟩ | ⟨a0, rfl, rfl, ha0⟩
  ·
   (refine Go.run (g:=?_))
   exact Go.again (i + 1, o.map (subW (semi s)), -1, b, cap, H) ⟨fv, fow, fsm, by show (o.map (subW (semi s))).length ≤ i + 1; rw [List.length_map]; omega, .inr ⟨by show i + 1 = s.length + 1; omega, by rw [hfl]; rfl⟩⟩ (by show i + 1 - (i + 1) < i + 1 - i; omega) ⟨rfl, rfl, rfl, rfl, trivial⟩ rfl rfl
  ·
   have hsub := hsub a0
   (refine Go.run (g:=?_))
   refine GoR.strLH (zs := s) (l := a0) (r := i) rfl rfl rfl rfl rfl rfl rfl (by omega) (by omega) ?_
   rw [hsub]
   (refine Go.run (g:=?_))
   refine GoR.buildRo (c := [stv (subW (semi s) (a0, i))]) rfl rfl rfl rfl rfl (by decide) (by rfl) (by rfl) ?_
   intro b2 h2 r2 ro2 ow2 s2 n2
   refine GoR.appendV rfl rfl rfl rfl rfl rfl (fv.same s2) r2 (fun j hj => .inr (fow j hj)) (by omega) (by omega) (by simp [Value.oneCell', stv]) ?_
   intro b3 c3 h3 v3 k3 o3
   have s3 := same_keeps (fsm.trans s2) k3 fow
   have le2 := s2.1
   have lesm := fsm.1
   have ow3 : Own h.n b3 := fun j hj => (o3 j hj).elim (fow j) (fun e => by omega)
   rw [show ((o.map (subW (semi s))).map stv ++ [stv (subW (semi s) (a0, i))]) = ((o ++ [(a0, i)]).map (subW (semi s))).map stv from by simp, show (o.map (subW (semi s))).length + 1 = ((o ++ [(a0, i)]).map (subW (semi s))).length from by simp] at v3
   rw [show (o.map (subW (semi s))).length + 1 = ((o ++ [(a0, i)]).map (subW (semi s))).length from by simp]
   (refine Go.run (g:=?_))
   exact Go.again (i + 1, (o ++ [(a0, i)]).map (subW (semi s)), -1, b3, c3, h3) ⟨v3, ow3, s3, by show ((o ++ [(a0, i)]).map (subW (semi s))).length ≤ i + 1; simp; omega, .inr ⟨by show i + 1 = s.length + 1; omega, by rw [hfl]; rfl⟩⟩ (by show i + 1 - (i + 1) < i + 1 - i; omega) ⟨rfl, rfl, rfl, rfl, trivial⟩ rfl rfl
end Go.Proofs.YtncbbeghkpjpbaaDoor
namespace Go.Proofs.YtncbbeghkpjpbaaDoor
open Go.RowKit
set_option maxRecDepth 100000
attribute [local irreducible] Go GoR GoL
theorem Rv.put {P : Program} {h : AHeap} {sz len cap b : Nat} {a : Option Addr} {cs : List Value} (k : Rv P h sz a len cap cs) (hb : b ∉ blk a) (o : Option AObj) : Rv P (h.put b o) sz a len cap cs := by
 cases k with
 | nil => exact .nil
 | mk hg ho hl hc => exact .mk (by rw [AHeap.get_put_ne _ _ (fun e => hb (by simp [blk, e]))]; exact hg) ho hl hc
theorem Rv.putR {P : Program} {h : AHeap} {sz len cap b : Nat} {a : Option Addr} {cs : List Value} (k : Rv P h sz a len cap cs) (hb : ∀ i ∈ blk a, i < b) (o : Option AObj) : Rv P (h.put b o) sz a len cap cs := k.put (fun hi => absurd (hb b hi) (Nat.lt_irrefl _)) o
def RdI (h : AHeap) (T b : Nat) (ws : List (List UInt8)) (bad : Bool) : Prop := ∃ a cap, h.get b = some (.cells [.slice a ws.length cap, .bool bad] T) ∧ Rv Tryd.prog h 1 a ws.length cap (ws.map stv) ∧ ∀ i ∈ blk a, i < b
theorem RdI.same {h h' : AHeap} {T b : Nat} {ws : List (List UInt8)} {bad : Bool} (k : RdI h T b ws bad) (s : Same h h') : RdI h' T b ws bad := by
 obtain ⟨a, cap, g, R, o⟩ := k
 exact ⟨a, cap, s.get g, R.same s, o⟩
theorem RdI.keeps {h h' : AHeap} {T b : Nat} {ws : List (List UInt8)} {bad : Bool} {wr : List Nat} {n0 : Nat} (k : RdI h T b ws bad) (s : Keeps wr h h') (hw : ∀ i ∈ wr, n0 ≤ i) (hb : b < n0) : RdI h' T b ws bad := by
 obtain ⟨a, cap, g, R, o⟩ := k
 exact ⟨a, cap, s.get g (fun hm => by have := hw b hm; omega), R.keeps s (fun i hi hm => by have := hw i hm; have := o i hi; omega), o⟩
theorem RdI.putO {h : AHeap} {T b n : Nat} {ws : List (List UInt8)} {bad : Bool} (k : RdI h T b ws bad) (hn : b < n) (o : Option AObj) : RdI (h.put n o) T b ws bad := by
 obtain ⟨a, cap, g, R, ho⟩ := k
 exact ⟨a, cap, by rw [AHeap.get_put_ne _ _ (by omega)]; exact g, R.putR (fun i hi => Nat.lt_trans (ho i hi) hn) _, ho⟩
set_option maxHeartbeats 8000000 in
theorem take_spec (b : Nat) (w : List UInt8) (r : List (List UInt8)) (bad : Bool) (h : AHeap) (k : RdI h 78 b (w :: r) bad) : CallS Tryd.prog [b] 32 [.pointer (some ⟨b, 0, none⟩)] h fun v h' => v = stv w ∧ RdI h' 78 b r bad := by
 obtain ⟨a, cap, g, hR, ho⟩ := k
 have hbn := AHeap.lt g
 rw [List.length_cons] at g hR
 rw [List.map_cons] at hR
 have hsub := hR.sub (l := 1) (r := r.length + 1) (by omega) (by omega)
 have hle := hR.le
 rw [Nat.add_sub_cancel, Nat.mul_one, Nat.mul_one] at hsub
 rw [show ((stv w :: r.map stv).drop 1).take r.length = r.map stv from by rw [List.drop_succ_cons, List.drop_zero, List.take_of_length_le (by simp)]] at hsub
 (refine CallS.of1 Tryd.func32 rfl Tryd.ntmps32 Tryd.results32 rfl ?_)
 (refine Go.run (g:=?_))
 refine GoR.sliceV (lo' := some (.int .i64 1)) (hi' := none) (l := 1) (r := r.length + 1) rfl rfl rfl rfl rfl rfl rfl hR rfl rfl (by omega) hle ?_
 rw [Nat.add_sub_cancel, Nat.mul_one]
 (refine Go.run (g:=?_))
 (first|refine Go.finA rfl ?_|refine Go.finB rfl (hq:=?_))
 refine ⟨rfl, subA a 1, cap - 1, AHeap.get_put_same _ hbn _, hsub.putR (by rw [subA_blk]; exact ho) _, by rw [subA_blk]; exact ho⟩
set_option maxHeartbeats 8000000 in
theorem word_spec (b : Nat) (w : List UInt8) (r : List (List UInt8)) (bad : Bool) (h : AHeap) (k : RdI h 66 b (w :: r) bad) : CallS Tryd.prog [b] 25 [.pointer (some ⟨b, 0, none⟩)] h fun v h' => v = stv w ∧ RdI h' 66 b r bad := by
 obtain ⟨a, cap, g, hR, ho⟩ := k
 have hbn := AHeap.lt g
 rw [List.length_cons] at g hR
 rw [List.map_cons] at hR
 have hsub := hR.sub (l := 1) (r := r.length + 1) (by omega) (by omega)
 have hle := hR.le
 rw [Nat.add_sub_cancel, Nat.mul_one, Nat.mul_one] at hsub
 rw [show ((stv w :: r.map stv).drop 1).take r.length = r.map stv from by rw [List.drop_succ_cons, List.drop_zero, List.take_of_length_le (by simp)]] at hsub
 (refine CallS.of1 Tryd.func25 rfl Tryd.ntmps25 Tryd.results25 rfl ?_)
 (refine Go.run (g:=?_))
 refine GoR.sliceV (lo' := some (.int .i64 1)) (hi' := none) (l := 1) (r := r.length + 1) rfl rfl rfl rfl rfl rfl rfl hR rfl rfl (by omega) hle ?_
 rw [Nat.add_sub_cancel, Nat.mul_one]
 (refine Go.run (g:=?_))
 (first|refine Go.finA rfl ?_|refine Go.finB rfl (hq:=?_))
 refine ⟨rfl, subA a 1, cap - 1, AHeap.get_put_same _ hbn _, hsub.putR (by rw [subA_blk]; exact ho) _, by rw [subA_blk]; exact ho⟩
end Go.Proofs.YtncbbeghkpjpbaaDoor
namespace Go.Proofs.YtncbbeghkpjpbaaDoor
set_option maxRecDepth 100000
def isD (c : UInt8) : Bool := decide (48 ≤ c.toNat) && decide (c.toNat ≤ 57)
def val (l : List UInt8) : Nat := l.foldl (fun a c => 10 * a + (c.toNat - 48)) 0
def cdB (l : List UInt8) : Bool := !l.isEmpty && (l.all isD && (decide (l[0]? ≠ some 48) || decide (l = [48])))
def numP : List UInt8 → Option Int
 | [] => none
 | c :: l => if c = 45 then (if cdB l = true ∧ l ≠ [48] ∧ val l ≤ 9223372036854775808 then some (-(val l : Int)) else none)
  else (if cdB (c :: l) = true ∧ val (c :: l) < 9223372036854775808 then some (val (c :: l) : Int) else none)
theorem val_snoc (l : List UInt8) (c : UInt8) : val (l ++ [c]) = 10 * val l + (c.toNat - 48) := by simp [val]
theorem dch_isD {d : Nat} (h : d < 10) : isD (dch d) = true := by
 have := dch_nat h
 simp [isD, this]; omega
theorem dch_of {c : UInt8} (h : isD c = true) : dch (c.toNat - 48) = c ∧ c.toNat - 48 < 10 := by
 simp only [isD, Bool.and_eq_true, decide_eq_true_eq] at h
 refine ⟨UInt8.toNat_inj.1 ?_, by omega⟩
 rw [dch_nat (by omega)]; omega
theorem val_dg : ∀ n, val (dg n) = n := by
 intro n
 induction n using Nat.strongRecOn with
 | _ n ih =>
  rcases Nat.lt_or_ge n 10 with h | h
  · rw [dg_small h]; simp [val, dch_nat h]
  · rw [dg_big h, val_snoc, ih _ (by omega), dch_nat (by omega)]; omega
theorem dg_all : ∀ n, (dg n).all isD = true := by
 intro n
 induction n using Nat.strongRecOn with
 | _ n ih =>
  rcases Nat.lt_or_ge n 10 with h | h
  · rw [dg_small h]; simp [dch_isD h]
  · rw [dg_big h, List.all_append, ih _ (by omega)]; simp [dch_isD (show n % 10 < 10 by omega)]
theorem dg_head : ∀ n, n ≠ 0 → (dg n)[0]? ≠ some 48 := by
 intro n
 induction n using Nat.strongRecOn with
 | _ n ih =>
  intro h0
  rcases Nat.lt_or_ge n 10 with h | h
  ·
   rw [dg_small h]
   intro e
   simp only [List.getElem?_cons_zero, Option.some.injEq] at e
   have := dch_nat h
   rw [e] at this
   have h48 : (48 : UInt8).toNat = 48 := rfl
   omega
  ·
   rw [dg_big h, List.getElem?_append_left (dg_pos _)]
   exact ih _ (by omega) (by omega)
theorem dg_cd (n : Nat) : cdB (dg n) = true := by
 have h1 := dg_pos n
 have h2 : (dg n).isEmpty = false := by
  cases h : dg n with
  | nil => rw [h] at h1; simp at h1
  | cons a b => rfl
 simp only [cdB, h2, dg_all n, Bool.not_false, Bool.true_and]
 by_cases h0 : n = 0
 ·
  subst h0
  have : dg 0 = [48] := by rw [dg_small (by omega)]; rfl
  simp [this]
 · simp [dg_head n h0]
theorem cd_val {l : List UInt8} (h : cdB l = true) : dg (val l) = l := by
 have key : ∀ k (l : List UInt8), l.length = k + 1 → l.all isD = true → (l[0]? ≠ some 48 ∨ l.length = 1) → dg (val l) = l ∧ (l[0]? ≠ some 48 → val l ≠ 0) := by
  intro k
  induction k with
  | zero =>
   intro l hl ha _
   match l, hl with
   | [c], _ =>
    have hd := dch_of (c := c) (by simpa using ha)
    have e : val [c] = c.toNat - 48 := by simp [val]
    refine ⟨by rw [e, dg_small hd.2, hd.1], fun h0 h1 => h0 ?_⟩
    rw [e] at h1
    have := hd.1
    rw [h1] at this
    rw [← this]; rfl
  | succ k ih =>
   intro l hl ha hh
   have hh : l[0]? ≠ some 48 := hh.resolve_right (by omega)
   obtain ⟨l', c, rfl⟩ : ∃ l' c, l = l' ++ [c] := ⟨l.dropLast, l.getLast (by intro e; rw [e] at hl; simp at hl), (List.dropLast_concat_getLast _).symm⟩
   have hl' : l'.length = k + 1 := by simpa using hl
   rw [List.all_append] at ha
   simp only [Bool.and_eq_true] at ha
   rw [List.getElem?_append_left (by omega)] at hh
   obtain ⟨i1, i2⟩ := ih l' hl' ha.1 (.inl hh)
   have i2 := i2 hh
   have hd := dch_of (c := c) (by simpa using ha.2)
   rw [val_snoc]
   refine ⟨?_, fun _ => by omega⟩
   rw [dg_big (by omega), show (10 * val l' + (c.toNat - 48)) / 10 = val l' by omega, show (10 * val l' + (c.toNat - 48)) % 10 = c.toNat - 48 by omega, i1, hd.1]
 simp only [cdB, Bool.and_eq_true, Bool.or_eq_true, decide_eq_true_eq, Bool.not_eq_true'] at h
 obtain ⟨h1, h2, h3⟩ := h
 have hp : 0 < l.length := by cases l with
  | nil => simp at h1
  | cons a b => simp
 exact (key (l.length - 1) l (by omega) h2 (h3.imp id fun e => by rw [e]; rfl)).1
theorem dg_no45 (n : Nat) : ∀ c l, dg n = c :: l → c ≠ 45 := by
 intro c l e h
 subst h
 have := dg_all n
 rw [e] at this
 simp [isD] at this
theorem numP_dgI {n : Int} (h0 : -9223372036854775808 ≤ n) (h1 : n < 9223372036854775808) : numP (dgI n) = some n := by
 unfold dgI
 split
 ·
  rename_i hn
  simp only [numP]
  have hne : dg (-n).toNat ≠ [48] := fun e => by
   have := val_dg (-n).toNat
   rw [e] at this
   simp [val] at this
   omega
  rw [if_pos trivial, if_pos ⟨dg_cd _, hne, by rw [val_dg]; omega⟩, val_dg]
  exact congrArg some (by omega)
 ·
  rename_i hn
  have hp := dg_pos n.toNat
  cases e : dg n.toNat with
  | nil => rw [e] at hp; simp at hp
  | cons c l =>
   have hc := dg_no45 _ _ _ e
   simp only [numP]
   rw [if_neg hc, if_pos ⟨by rw [← e]; exact dg_cd _, by rw [← e, val_dg]; omega⟩, ← e, val_dg]
   congr 1; omega
theorem numP_some {s : List UInt8} {n : Int} (h : numP s = some n) : dgI n = s ∧ -9223372036854775808 ≤ n ∧ n < 9223372036854775808 := by
 cases s with
 | nil => simp [numP] at h
 | cons c l =>
  simp only [numP] at h
  split at h
  ·
   rename_i hc
   split at h
   ·
    rename_i hh
    cases h
    obtain ⟨h1, h2, h3⟩ := hh
    have hv := cd_val h1
    have hv0 : val l ≠ 0 := fun e => h2 (by rw [← hv, e, dg_small (by omega)]; rfl)
    refine ⟨?_, by omega, by omega⟩
    rw [dgI_neg (by omega), hv, hc]
   · cases h
  ·
   split at h
   ·
    rename_i hc hh
    cases h
    exact ⟨by rw [dgI_nat, cd_val hh.1], by omega, by omega⟩
   · cases h
end Go.Proofs.YtncbbeghkpjpbaaDoor
namespace Go.Proofs.YtncbbeghkpjpbaaDoor
open Go.RowKit
set_option maxRecDepth 100000
attribute [local irreducible] Go GoR GoL
theorem val_lt : ∀ l : List UInt8, l.all isD = true → val l < 10 ^ l.length := by
 have key : ∀ k (l : List UInt8), l.length = k → l.all isD = true → val l < 10 ^ k := by
  intro k
  induction k with
  | zero => intro l hl _; rw [List.length_eq_zero_iff.1 hl]; simp [val]
  | succ k ih =>
   intro l hl ha
   obtain ⟨l', c, rfl⟩ : ∃ l' c, l = l' ++ [c] := ⟨l.dropLast, l.getLast (by intro e; rw [e] at hl; simp at hl), (List.dropLast_concat_getLast _).symm⟩
   rw [List.all_append] at ha
   simp only [Bool.and_eq_true] at ha
   have := ih l' (by simpa using hl) ha.1
   have hd := (dch_of (c := c) (by simpa using ha.2)).2
   rw [val_snoc, Nat.pow_succ]
   omega
 exact fun l => key _ l rfl
def ok0 (w : List UInt8) (t : Nat) : Bool := decide (t < w.length) && (decide (w.length - t ≤ 19) && (!decide (w[t]? = some 48) || decide (w = [48])))
theorem numP_eq {w : List UInt8} {t : Nat} (ht : (t = 1 ∧ w[0]? = some 45) ∨ (t = 0 ∧ w[0]? ≠ some 45)) : numP w = if ok0 w t = true ∧ (w.drop t).all isD = true ∧ val (w.drop t) ≤ (if t = 1 then 9223372036854775808 else 9223372036854775807) then some (if t = 1 then -(val (w.drop t) : Int) else (val (w.drop t) : Int)) else none := by
 have len19 : ∀ l : List UInt8, cdB l = true → val l ≤ 9223372036854775808 → l.length ≤ 19 := fun l h1 h2 => by
  rw [← cd_val h1]; exact dg_len 18 _ (by omega)
 cases w with
 | nil => simp [numP, ok0]
 | cons c l =>
  rcases ht with ⟨rfl, hc⟩ | ⟨rfl, hc⟩
  ·
   have hc : c = 45 := by simpa using hc
   subst hc
   simp only [numP, if_true, List.drop_succ_cons, List.drop_zero]
   congr 1
   apply propext
   constructor
   ·
    rintro ⟨h1, h2, h3⟩
    have h4 := len19 l h1 h3
    simp only [cdB, Bool.and_eq_true, Bool.or_eq_true, decide_eq_true_eq, Bool.not_eq_true'] at h1
    have h5 : l[0]? ≠ some 48 := h1.2.2.resolve_right h2
    have h6 : 0 < l.length := by cases l with
     | nil => simp at h1
     | cons a b => simp
    refine ⟨?_, h1.2.1, h3⟩
    simp [ok0, h5]
    omega
   ·
    rintro ⟨h1, h2, h3⟩
    simp [ok0] at h1
    obtain ⟨h4, h5, h6⟩ := h1
    have h7 : l ≠ [48] := fun e => h6 (by rw [e]; rfl)
    refine ⟨?_, h7, h3⟩
    cases l with
    | nil => simp at h4
    | cons a l =>
     simp at h6
     simp only [cdB, h2]
     simp [h6]
  ·
   have hc : c ≠ 45 := by simpa using hc
   simp only [numP, if_neg hc, List.drop_zero, if_neg (show ¬ (0 = 1) by decide)]
   congr 1
   apply propext
   constructor
   ·
    rintro ⟨h1, h3⟩
    have h4 := len19 _ h1 (by omega)
    simp only [cdB, Bool.and_eq_true, Bool.or_eq_true, decide_eq_true_eq, Bool.not_eq_true'] at h1
    refine ⟨?_, h1.2.1, by omega⟩
    simp only [ok0, Bool.and_eq_true, Bool.or_eq_true, decide_eq_true_eq, Bool.not_eq_true', decide_eq_false_iff_not]
    exact ⟨by simp, by omega, h1.2.2⟩
   ·
    rintro ⟨h1, h2, h3⟩
    simp only [ok0, Bool.and_eq_true, Bool.or_eq_true, decide_eq_true_eq, Bool.not_eq_true', decide_eq_false_iff_not] at h1
    refine ⟨?_, by omega⟩
    simp only [cdB, Bool.and_eq_true, Bool.or_eq_true, decide_eq_true_eq, Bool.not_eq_true']
    exact ⟨rfl, h2, h1.2.2⟩
set_option maxHeartbeats 32000000 in
theorem num_spec (b : Nat) (w : List UInt8) (r : List (List UInt8)) (bad : Bool) (hw : w.length ≤ 10000000) (h : AHeap) (k : RdI h 78 b (w :: r) bad) : CallS Tryd.prog [b] 34 [.pointer (some ⟨b, 0, none⟩)] h fun v h' => ∃ n : Int, v = .int .i64 n ∧ -9223372036854775808 ≤ n ∧ n < 9223372036854775808 ∧ (∀ m, numP w = some m → n = m) ∧ RdI h' 78 b r (bad || (numP w).isNone) := by
 (refine CallS.of1 Tryd.func34 rfl Tryd.ntmps34 Tryd.results34 rfl ?_)
 (refine Go.run (g:=?_))
 refine GoR.callW rfl rfl rfl rfl rfl rfl rfl (((take_spec b w r bad _ k).argA).mono ?_)
 rintro _ H1 ⟨rfl, k1⟩ kp1
 refine ⟨fun i hi => .inl hi, ?_⟩
 obtain ⟨a1, c1, g1, R1, o1⟩ := k1
 by_cases hc : w[0]? = some 45
 ·
  have ht : ((1 = 1 ∧ w[0]? = some 45) ∨ (1 = 0 ∧ w[0]? ≠ some 45)) := .inl ⟨rfl, hc⟩
  have hp : 0 < w.length := by obtain ⟨hp, -⟩ := List.getElem?_eq_some_iff.1 hc; exact hp
  (refine Go.run (g:=?_))
  refine GoR.strAtI (zs := w) rfl rfl rfl rfl rfl rfl (by decide) hc ?_
  rcases Nat.lt_or_ge 1 w.length with hat | hat
  case inr =>
   have hok : ok0 w 1 = false := by simp only [ok0]; rw [decide_eq_false (by omega)]; rfl
   have hnone : numP w = none := by rw [numP_eq ht, if_neg (by rw [hok]; simp)]
   (refine Go.run (g:=?_))
   refine Go.loop (α := Unit) (fun _ => [(0, .pointer (some ⟨b, 0, none⟩)), (3, stv w), (4, .int .i64 1), (5, .int .u64 0), (6, .bool false), (7, .int .i64 1)]) (fun _ => []) (fun _ => H1) (fun _ => True) (fun _ => 0) () trivial ⟨rfl, rfl, rfl, rfl, rfl, rfl, trivial⟩ rfl rfl ?_
   rintro - -
   (refine Go.run (g:=?_))
   (first|refine Go.finA rfl ?_|refine Go.finB rfl (hq:=?_))
   refine ⟨0, rfl, by decide, by decide, fun m hm => ?_, ?_⟩
   · rw [hnone] at hm; cases hm
   ·
    rw [hnone]
    exact ⟨a1, c1, by rw [Option.isNone_none, Bool.or_true]; exact AHeap.get_put_same _ (AHeap.lt g1) _, R1.putR o1 _, o1⟩
  by_cases h19 : w.length - 1 ≤ 19
  case neg =>
   have hok : ok0 w 1 = false := by simp only [ok0]; rw [decide_eq_false (p := w.length - 1 ≤ 19) h19]; simp
   have hnone : numP w = none := by rw [numP_eq ht, if_neg (by rw [hok]; simp)]
   (refine Go.run (g:=?_))
   refine Go.loop (α := Unit) (fun _ => [(0, .pointer (some ⟨b, 0, none⟩)), (3, stv w), (4, .int .i64 1), (5, .int .u64 0), (6, .bool false), (7, .int .i64 1)]) (fun _ => []) (fun _ => H1) (fun _ => True) (fun _ => 0) () trivial ⟨rfl, rfl, rfl, rfl, rfl, rfl, trivial⟩ rfl rfl ?_
   rintro - -
   (refine Go.run (g:=?_))
   (first|refine Go.finA rfl ?_|refine Go.finB rfl (hq:=?_))
   refine ⟨0, rfl, by decide, by decide, fun m hm => ?_, ?_⟩
   · rw [hnone] at hm; cases hm
   ·
    rw [hnone]
    exact ⟨a1, c1, by rw [Option.isNone_none, Bool.or_true]; exact AHeap.get_put_same _ (AHeap.lt g1) _, R1.putR o1 _, o1⟩
  obtain ⟨z1, hz1⟩ : ∃ z, w[1]? = some z := ⟨_, List.getElem?_eq_getElem hat⟩
  have hz1b := z1.toNat_lt
  (refine Go.run (g:=?_))
  refine GoR.strAtI (zs := w) rfl rfl rfl rfl rfl rfl (by decide) hz1 ?_
  by_cases z48 : z1.toNat = 48
  case pos =>
   by_cases w48 : w = [48]
   case neg =>
    have hw48 : decide (w = [48]) = false := decide_eq_false w48
    have hok : ok0 w 1 = false := by
     have : w[1]? = some 48 := by rw [hz1]; congr 1; exact UInt8.toNat_inj.1 z48
     simp [ok0, this, w48]
    have hnone : numP w = none := by rw [numP_eq ht, if_neg (by rw [hok]; simp)]
    (refine Go.run (g:=?_))
    rw [hw48]
    refine Go.loop (α := Unit) (fun _ => [(0, .pointer (some ⟨b, 0, none⟩)), (3, stv w), (4, .int .i64 1), (5, .int .u64 0), (6, .bool false), (7, .int .i64 1)]) (fun _ => []) (fun _ => H1) (fun _ => True) (fun _ => 0) () trivial ⟨rfl, rfl, rfl, rfl, rfl, rfl, trivial⟩ rfl rfl ?_
    rintro - -
    (refine Go.run (g:=?_))
    (first|refine Go.finA rfl ?_|refine Go.finB rfl (hq:=?_))
    refine ⟨0, rfl, by decide, by decide, fun m hm => ?_, ?_⟩
    · rw [hnone] at hm; cases hm
    ·
     rw [hnone]
     exact ⟨a1, c1, by rw [Option.isNone_none, Bool.or_true]; exact AHeap.get_put_same _ (AHeap.lt g1) _, R1.putR o1 _, o1⟩
   have hw48 : decide (w = [48]) = true := decide_eq_true w48
   have okT : ok0 w 1 = true := by simp only [ok0]; rw [decide_eq_true hat, decide_eq_true h19, hw48]; simp
   (refine Go.run (g:=?_))
   rw [hw48]
   refine Go.loop (α := Nat × Bool × Int) (fun x => [(0, .pointer (some ⟨b, 0, none⟩)), (3, stv w), (4, .int .i64 1), (5, .int .u64 x.2.2), (6, .bool x.2.1), (7, .int .i64 (x.1 : Nat))]) (fun _ => []) (fun _ => H1) (fun x => 1 ≤ x.1 ∧ x.1 ≤ w.length ∧ x.2.1 = ((w.drop 1).take (x.1 - 1)).all isD ∧ (x.2.1 = true → x.2.2 = ((val ((w.drop 1).take (x.1 - 1)) : Nat) : Int))) (fun x => w.length - x.1) (1, true, 0) ⟨Nat.le_refl _, Nat.le_of_lt hat, by simp, fun _ => by simp [val]⟩ ⟨rfl, rfl, rfl, rfl, rfl, rfl, trivial⟩ rfl rfl ?_
   rintro ⟨i, ok, nn⟩ ⟨h1, h2, h3, h4⟩
   simp only at h1 h2 h3 h4 ⊢
   cases ok
   case false =>
    have hnone : numP w = none := by
     rw [numP_eq ht, if_neg]
     rintro ⟨-, h6, -⟩
     rw [← List.take_append_drop (i - 1) (w.drop 1), List.all_append, ← h3] at h6
     simp at h6
    rcases Nat.lt_or_ge i w.length with hi | hi
    case inl =>
     (refine Go.run (g:=?_))
     (first|refine Go.finA rfl ?_|refine Go.finB rfl (hq:=?_))
     refine ⟨0, rfl, by decide, by decide, fun m hm => ?_, ?_⟩
     · rw [hnone] at hm; cases hm
     ·
      rw [hnone]
      exact ⟨a1, c1, by rw [Option.isNone_none, Bool.or_true]; exact AHeap.get_put_same _ (AHeap.lt g1) _, R1.putR o1 _, o1⟩
    case inr =>
     (refine Go.run (g:=?_))
     (first|refine Go.finA rfl ?_|refine Go.finB rfl (hq:=?_))
     refine ⟨0, rfl, by decide, by decide, fun m hm => ?_, ?_⟩
     · rw [hnone] at hm; cases hm
     ·
      rw [hnone]
      exact ⟨a1, c1, by rw [Option.isNone_none, Bool.or_true]; exact AHeap.get_put_same _ (AHeap.lt g1) _, R1.putR o1 _, o1⟩
   have h4 := h4 rfl
   rcases Nat.lt_or_ge i w.length with hi | hi
   case inl =>
    obtain ⟨z, hz⟩ : ∃ z, w[i]? = some z := ⟨_, List.getElem?_eq_getElem hi⟩
    have hzb := z.toNat_lt
    have hzd : (w.drop 1)[i - 1]? = some z := by rw [List.getElem?_drop, show 1 + (i - 1) = i by omega]; exact hz
    have hts : (w.drop 1).take (i + 1 - 1) = (w.drop 1).take (i - 1) ++ [z] := by rw [show i + 1 - 1 = i - 1 + 1 by omega]; exact take_snoc hzd
    have hvl := val_lt _ h3.symm
    have hpw : 10 ^ ((w.drop 1).take (i - 1)).length ≤ 10 ^ 18 := Nat.pow_le_pow_right (by decide) (by rw [List.length_take]; omega)
    have hall : ((w.drop 1).take (i + 1 - 1)).all isD = isD z := by rw [hts, List.all_append, ← h3]; simp
    have hvs : val ((w.drop 1).take (i + 1 - 1)) = 10 * val ((w.drop 1).take (i - 1)) + (z.toNat - 48) := by rw [hts, val_snoc]
    generalize hV : val ((w.drop 1).take (i - 1)) = V at *
    subst h4
    have hV18 : V < 1000000000000000000 := Nat.lt_of_lt_of_le hvl hpw
    rcases Nat.lt_or_ge z.toNat 48 with hd | hd
    case inl =>
     have hnd : isD z = false := by simp [isD]; omega
     (refine Go.run (g:=?_))
     refine GoR.strAt (zs := w) rfl rfl rfl rfl rfl rfl hz ?_
     (refine Go.run (g:=?_))
     refine GoR.strAt (zs := w) rfl rfl rfl rfl rfl rfl hz ?_
     (refine Go.run (g:=?_))
     refine GoR.bin rfl rfl rfl rfl rfl rfl rfl ?_
     (refine Go.run (g:=?_))
     exact Go.again (i + 1, false, _) ⟨by show 1 ≤ i + 1; omega, by show i + 1 ≤ w.length; omega, by show false = _; rw [hall, hnd], fun e => by cases e⟩ (by show w.length - (i + 1) < w.length - i; omega) ⟨rfl, rfl, rfl, rfl, rfl, rfl, trivial⟩ rfl rfl
    rcases Nat.lt_or_ge 57 z.toNat with hd2 | hd2
    case inl =>
     have hnd : isD z = false := by simp [isD]; omega
     have hde : decide ((z.toNat : Int) ≤ 57) = false := decide_eq_false (by omega)
     (refine Go.run (g:=?_))
     refine GoR.strAt (zs := w) rfl rfl rfl rfl rfl rfl hz ?_
     (refine Go.run (g:=?_))
     refine GoR.strAt (zs := w) rfl rfl rfl rfl rfl rfl hz ?_
     (refine Go.run (g:=?_))
     refine GoR.strAt (zs := w) rfl rfl rfl rfl rfl rfl hz ?_
     (refine Go.run (g:=?_))
     exact Go.again (i + 1, false, _) ⟨by show 1 ≤ i + 1; omega, by show i + 1 ≤ w.length; omega, by show false = _; rw [hall, hnd], fun e => by cases e⟩ (by show w.length - (i + 1) < w.length - i; omega) ⟨rfl, rfl, rfl, rfl, (by rw [← hde]; rfl), rfl, trivial⟩ rfl rfl
    have hnd : isD z = true := by simp [isD]; omega
    (refine Go.run (g:=?_))
    refine GoR.strAt (zs := w) rfl rfl rfl rfl rfl rfl hz ?_
    (refine Go.run (g:=?_))
    refine GoR.strAt (zs := w) rfl rfl rfl rfl rfl rfl hz ?_
    (refine Go.run (g:=?_))
    refine GoR.strAt (zs := w) rfl rfl rfl rfl rfl rfl hz ?_
    have hde : decide ((z.toNat : Int) ≤ 57) = true := decide_eq_true (by omega)
    (refine Go.run (g:=?_))
    exact Go.again (i + 1, true, ((10 * V + z.toNat - 48 : Nat) : Int)) ⟨by show 1 ≤ i + 1; omega, by show i + 1 ≤ w.length; omega, by show true = _; rw [hall, hnd], fun _ => by show ((10 * V + z.toNat - 48 : Nat) : Int) = _; rw [hvs]; omega⟩ (by show w.length - (i + 1) < w.length - i; omega) ⟨rfl, rfl, rfl, rfl, (by rw [← hde]; rfl), rfl, trivial⟩ rfl rfl
   obtain rfl : i = w.length := by omega
   rw [List.take_of_length_le (by rw [List.length_drop]; exact Nat.le_refl _)] at h3 h4
   have hhat := hat
   generalize hV : val (w.drop 1) = V at *
   subst h4
   have hV19 : V < 10000000000000000000 := by
    have h5 := val_lt _ h3.symm
    rw [hV, List.length_drop] at h5
    exact Nat.lt_of_lt_of_le h5 (Nat.pow_le_pow_right (j := 19) (by decide) (by omega))
   have hok : ok0 w 1 = true := okT
   by_cases hle : V ≤ 9223372036854775808
   case neg =>
    have hnone : numP w = none := by rw [numP_eq ht, if_neg (by rw [hV]; rintro ⟨-, -, h⟩; exact hle h)]
    have hde : decide ((V : Int) ≤ 9223372036854775808) = false := decide_eq_false (by omega)
    (refine Go.run (g:=?_))
    (first|refine Go.finA rfl ?_|refine Go.finB rfl (hq:=?_))
    refine ⟨0, rfl, by decide, by decide, fun m hm => ?_, ?_⟩
    · rw [hnone] at hm; cases hm
    ·
     rw [hnone]
     exact ⟨a1, c1, by rw [Option.isNone_none, Bool.or_true]; exact AHeap.get_put_same _ (AHeap.lt g1) _, R1.putR o1 _, o1⟩
   have hsome : numP w = some (-(V : Int)) := by rw [numP_eq ht, if_pos ⟨hok, h3.symm, by rw [hV]; exact hle⟩, hV]; rfl
   have hde : decide ((V : Int) ≤ 9223372036854775808) = true := decide_eq_true (by omega)
   have hV0 : 0 < V := by
    rcases Nat.eq_zero_or_pos V with h0 | h0
    ·
     subst h0
     have h7 := (numP_some hsome).1
     rw [← h7] at hc
     exact absurd hc (by decide +kernel)
    · exact h0
   (refine Go.run (g:=?_))
   refine GoR.neg rfl rfl rfl rfl rfl ?_
   rw [show IntKind.i64.wrap (0 - ((V - 1 : Nat) : Int)) = -((V - 1 : Nat) : Int) from by simp [IntKind.wrap, IntKind.signed, IntKind.bits]; omega]
   (refine Go.run (g:=?_))
   (first|refine Go.finA rfl ?_|refine Go.finB rfl (hq:=?_))
   refine ⟨_, rfl, by omega, by omega, fun m hm => ?_, ?_⟩
   · rw [hsome] at hm; injection hm with hm; omega
   ·
    rw [hsome]
    exact ⟨a1, c1, by rw [Option.isNone_some, Bool.or_false]; exact g1, R1, o1⟩
  have okT : ok0 w 1 = true := by
   have hn : ¬ w[1]? = some 48 := fun e => by rw [hz1] at e; injection e with e; apply z48; rw [e]; rfl
   simp only [ok0]; rw [decide_eq_true hat, decide_eq_true h19, decide_eq_false hn]; simp
  (refine Go.run (g:=?_))
  refine Go.loop (α := Nat × Bool × Int) (fun x => [(0, .pointer (some ⟨b, 0, none⟩)), (3, stv w), (4, .int .i64 1), (5, .int .u64 x.2.2), (6, .bool x.2.1), (7, .int .i64 (x.1 : Nat))]) (fun _ => []) (fun _ => H1) (fun x => 1 ≤ x.1 ∧ x.1 ≤ w.length ∧ x.2.1 = ((w.drop 1).take (x.1 - 1)).all isD ∧ (x.2.1 = true → x.2.2 = ((val ((w.drop 1).take (x.1 - 1)) : Nat) : Int))) (fun x => w.length - x.1) (1, true, 0) ⟨Nat.le_refl _, Nat.le_of_lt hat, by simp, fun _ => by simp [val]⟩ ⟨rfl, rfl, rfl, rfl, rfl, rfl, trivial⟩ rfl rfl ?_
  rintro ⟨i, ok, nn⟩ ⟨h1, h2, h3, h4⟩
  simp only at h1 h2 h3 h4 ⊢
  cases ok
  case false =>
   have hnone : numP w = none := by
    rw [numP_eq ht, if_neg]
    rintro ⟨-, h6, -⟩
    rw [← List.take_append_drop (i - 1) (w.drop 1), List.all_append, ← h3] at h6
    simp at h6
   rcases Nat.lt_or_ge i w.length with hi | hi
   case inl =>
    (refine Go.run (g:=?_))
    (first|refine Go.finA rfl ?_|refine Go.finB rfl (hq:=?_))
    refine ⟨0, rfl, by decide, by decide, fun m hm => ?_, ?_⟩
    · rw [hnone] at hm; cases hm
    ·
     rw [hnone]
     exact ⟨a1, c1, by rw [Option.isNone_none, Bool.or_true]; exact AHeap.get_put_same _ (AHeap.lt g1) _, R1.putR o1 _, o1⟩
   case inr =>
    (refine Go.run (g:=?_))
    (first|refine Go.finA rfl ?_|refine Go.finB rfl (hq:=?_))
    refine ⟨0, rfl, by decide, by decide, fun m hm => ?_, ?_⟩
    · rw [hnone] at hm; cases hm
    ·
     rw [hnone]
     exact ⟨a1, c1, by rw [Option.isNone_none, Bool.or_true]; exact AHeap.get_put_same _ (AHeap.lt g1) _, R1.putR o1 _, o1⟩
  have h4 := h4 rfl
  rcases Nat.lt_or_ge i w.length with hi | hi
  case inl =>
   obtain ⟨z, hz⟩ : ∃ z, w[i]? = some z := ⟨_, List.getElem?_eq_getElem hi⟩
   have hzb := z.toNat_lt
   have hzd : (w.drop 1)[i - 1]? = some z := by rw [List.getElem?_drop, show 1 + (i - 1) = i by omega]; exact hz
   have hts : (w.drop 1).take (i + 1 - 1) = (w.drop 1).take (i - 1) ++ [z] := by rw [show i + 1 - 1 = i - 1 + 1 by omega]; exact take_snoc hzd
   have hvl := val_lt _ h3.symm
   have hpw : 10 ^ ((w.drop 1).take (i - 1)).length ≤ 10 ^ 18 := Nat.pow_le_pow_right (by decide) (by rw [List.length_take]; omega)
   have hall : ((w.drop 1).take (i + 1 - 1)).all isD = isD z := by rw [hts, List.all_append, ← h3]; simp
   have hvs : val ((w.drop 1).take (i + 1 - 1)) = 10 * val ((w.drop 1).take (i - 1)) + (z.toNat - 48) := by rw [hts, val_snoc]
   generalize hV : val ((w.drop 1).take (i - 1)) = V at *
   subst h4
   have hV18 : V < 1000000000000000000 := Nat.lt_of_lt_of_le hvl hpw
   rcases Nat.lt_or_ge z.toNat 48 with hd | hd
   case inl =>
    have hnd : isD z = false := by simp [isD]; omega
    (refine Go.run (g:=?_))
    refine GoR.strAt (zs := w) rfl rfl rfl rfl rfl rfl hz ?_
    (refine Go.run (g:=?_))
    refine GoR.strAt (zs := w) rfl rfl rfl rfl rfl rfl hz ?_
    (refine Go.run (g:=?_))
    refine GoR.bin rfl rfl rfl rfl rfl rfl rfl ?_
    (refine Go.run (g:=?_))
    exact Go.again (i + 1, false, _) ⟨by show 1 ≤ i + 1; omega, by show i + 1 ≤ w.length; omega, by show false = _; rw [hall, hnd], fun e => by cases e⟩ (by show w.length - (i + 1) < w.length - i; omega) ⟨rfl, rfl, rfl, rfl, rfl, rfl, trivial⟩ rfl rfl
   rcases Nat.lt_or_ge 57 z.toNat with hd2 | hd2
   case inl =>
    have hnd : isD z = false := by simp [isD]; omega
    have hde : decide ((z.toNat : Int) ≤ 57) = false := decide_eq_false (by omega)
    (refine Go.run (g:=?_))
    refine GoR.strAt (zs := w) rfl rfl rfl rfl rfl rfl hz ?_
    (refine Go.run (g:=?_))
    refine GoR.strAt (zs := w) rfl rfl rfl rfl rfl rfl hz ?_
    (refine Go.run (g:=?_))
    refine GoR.strAt (zs := w) rfl rfl rfl rfl rfl rfl hz ?_
    (refine Go.run (g:=?_))
    exact Go.again (i + 1, false, _) ⟨by show 1 ≤ i + 1; omega, by show i + 1 ≤ w.length; omega, by show false = _; rw [hall, hnd], fun e => by cases e⟩ (by show w.length - (i + 1) < w.length - i; omega) ⟨rfl, rfl, rfl, rfl, (by rw [← hde]; rfl), rfl, trivial⟩ rfl rfl
   have hnd : isD z = true := by simp [isD]; omega
   (refine Go.run (g:=?_))
   refine GoR.strAt (zs := w) rfl rfl rfl rfl rfl rfl hz ?_
   (refine Go.run (g:=?_))
   refine GoR.strAt (zs := w) rfl rfl rfl rfl rfl rfl hz ?_
   (refine Go.run (g:=?_))
   refine GoR.strAt (zs := w) rfl rfl rfl rfl rfl rfl hz ?_
   have hde : decide ((z.toNat : Int) ≤ 57) = true := decide_eq_true (by omega)
   (refine Go.run (g:=?_))
   exact Go.again (i + 1, true, ((10 * V + z.toNat - 48 : Nat) : Int)) ⟨by show 1 ≤ i + 1; omega, by show i + 1 ≤ w.length; omega, by show true = _; rw [hall, hnd], fun _ => by show ((10 * V + z.toNat - 48 : Nat) : Int) = _; rw [hvs]; omega⟩ (by show w.length - (i + 1) < w.length - i; omega) ⟨rfl, rfl, rfl, rfl, (by rw [← hde]; rfl), rfl, trivial⟩ rfl rfl
  obtain rfl : i = w.length := by omega
  rw [List.take_of_length_le (by rw [List.length_drop]; exact Nat.le_refl _)] at h3 h4
  have hhat := hat
  generalize hV : val (w.drop 1) = V at *
  subst h4
  have hV19 : V < 10000000000000000000 := by
   have h5 := val_lt _ h3.symm
   rw [hV, List.length_drop] at h5
   exact Nat.lt_of_lt_of_le h5 (Nat.pow_le_pow_right (j := 19) (by decide) (by omega))
  have hok : ok0 w 1 = true := okT
  by_cases hle : V ≤ 9223372036854775808
  case neg =>
   have hnone : numP w = none := by rw [numP_eq ht, if_neg (by rw [hV]; rintro ⟨-, -, h⟩; exact hle h)]
   have hde : decide ((V : Int) ≤ 9223372036854775808) = false := decide_eq_false (by omega)
   (refine Go.run (g:=?_))
   (first|refine Go.finA rfl ?_|refine Go.finB rfl (hq:=?_))
   refine ⟨0, rfl, by decide, by decide, fun m hm => ?_, ?_⟩
   · rw [hnone] at hm; cases hm
   ·
    rw [hnone]
    exact ⟨a1, c1, by rw [Option.isNone_none, Bool.or_true]; exact AHeap.get_put_same _ (AHeap.lt g1) _, R1.putR o1 _, o1⟩
  have hsome : numP w = some (-(V : Int)) := by rw [numP_eq ht, if_pos ⟨hok, h3.symm, by rw [hV]; exact hle⟩, hV]; rfl
  have hde : decide ((V : Int) ≤ 9223372036854775808) = true := decide_eq_true (by omega)
  have hV0 : 0 < V := by
   rcases Nat.eq_zero_or_pos V with h0 | h0
   ·
    subst h0
    have h7 := (numP_some hsome).1
    rw [← h7] at hc
    exact absurd hc (by decide +kernel)
   · exact h0
  (refine Go.run (g:=?_))
  refine GoR.neg rfl rfl rfl rfl rfl ?_
  rw [show IntKind.i64.wrap (0 - ((V - 1 : Nat) : Int)) = -((V - 1 : Nat) : Int) from by simp [IntKind.wrap, IntKind.signed, IntKind.bits]; omega]
  (refine Go.run (g:=?_))
  (first|refine Go.finA rfl ?_|refine Go.finB rfl (hq:=?_))
  refine ⟨_, rfl, by omega, by omega, fun m hm => ?_, ?_⟩
  · rw [hsome] at hm; injection hm with hm; omega
  ·
   rw [hsome]
   exact ⟨a1, c1, by rw [Option.isNone_some, Bool.or_false]; exact g1, R1, o1⟩
 ·
  have ht : ((0 = 1 ∧ w[0]? = some 45) ∨ (0 = 0 ∧ w[0]? ≠ some 45)) := .inr ⟨rfl, hc⟩
  rcases Nat.eq_zero_or_pos w.length with hp | hp
  ·
   have hz : decide ((0 : Int) < w.length) = !true := decide_eq_false (by omega)
   (refine Go.run (g:=?_))
   have hat : w.length ≤ 0 := by omega
   have hok : ok0 w 0 = false := by simp only [ok0]; rw [decide_eq_false (by omega)]; rfl
   have hnone : numP w = none := by rw [numP_eq ht, if_neg (by rw [hok]; simp)]
   refine Go.loop (α := Unit) (fun _ => [(0, .pointer (some ⟨b, 0, none⟩)), (3, stv w), (4, .int .i64 0), (5, .int .u64 0), (6, .bool false), (7, .int .i64 0)]) (fun _ => []) (fun _ => H1) (fun _ => True) (fun _ => 0) () trivial ⟨rfl, rfl, rfl, rfl, rfl, rfl, trivial⟩ rfl rfl ?_
   rintro - -
   (refine Go.run (g:=?_))
   (first|refine Go.finA rfl ?_|refine Go.finB rfl (hq:=?_))
   refine ⟨0, rfl, by decide, by decide, fun m hm => ?_, ?_⟩
   · rw [hnone] at hm; cases hm
   ·
    rw [hnone]
    exact ⟨a1, c1, by rw [Option.isNone_none, Bool.or_true]; exact AHeap.get_put_same _ (AHeap.lt g1) _, R1.putR o1 _, o1⟩
  ·
   obtain ⟨z0, hz0⟩ : ∃ z, w[0]? = some z := ⟨_, List.getElem?_eq_getElem hp⟩
   have hz0b := z0.toNat_lt
   have hne : ¬ z0.toNat = 45 := fun e => hc (by rw [hz0]; congr 1; exact UInt8.toNat_inj.1 e)
   (refine Go.run (g:=?_))
   refine GoR.strAtI (zs := w) rfl rfl rfl rfl rfl rfl (by decide) hz0 ?_
   have hat : 0 < w.length := hp
   by_cases h19 : w.length - 0 ≤ 19
   case neg =>
    have hok : ok0 w 0 = false := by simp only [ok0]; rw [decide_eq_false (p := w.length - 0 ≤ 19) h19]; simp
    have hnone : numP w = none := by rw [numP_eq ht, if_neg (by rw [hok]; simp)]
    (refine Go.run (g:=?_))
    refine Go.loop (α := Unit) (fun _ => [(0, .pointer (some ⟨b, 0, none⟩)), (3, stv w), (4, .int .i64 0), (5, .int .u64 0), (6, .bool false), (7, .int .i64 0)]) (fun _ => []) (fun _ => H1) (fun _ => True) (fun _ => 0) () trivial ⟨rfl, rfl, rfl, rfl, rfl, rfl, trivial⟩ rfl rfl ?_
    rintro - -
    (refine Go.run (g:=?_))
    (first|refine Go.finA rfl ?_|refine Go.finB rfl (hq:=?_))
    refine ⟨0, rfl, by decide, by decide, fun m hm => ?_, ?_⟩
    · rw [hnone] at hm; cases hm
    ·
     rw [hnone]
     exact ⟨a1, c1, by rw [Option.isNone_none, Bool.or_true]; exact AHeap.get_put_same _ (AHeap.lt g1) _, R1.putR o1 _, o1⟩
   obtain ⟨z1, hz1⟩ : ∃ z, w[0]? = some z := ⟨_, List.getElem?_eq_getElem hat⟩
   have hz1b := z1.toNat_lt
   (refine Go.run (g:=?_))
   refine GoR.strAtI (zs := w) rfl rfl rfl rfl rfl rfl (by decide) hz1 ?_
   by_cases z48 : z1.toNat = 48
   case pos =>
    by_cases w48 : w = [48]
    case neg =>
     have hw48 : decide (w = [48]) = false := decide_eq_false w48
     have hok : ok0 w 0 = false := by
      have : w[0]? = some 48 := by rw [hz1]; congr 1; exact UInt8.toNat_inj.1 z48
      simp [ok0, this, w48]
     have hnone : numP w = none := by rw [numP_eq ht, if_neg (by rw [hok]; simp)]
     (refine Go.run (g:=?_))
     rw [hw48]
     refine Go.loop (α := Unit) (fun _ => [(0, .pointer (some ⟨b, 0, none⟩)), (3, stv w), (4, .int .i64 0), (5, .int .u64 0), (6, .bool false), (7, .int .i64 0)]) (fun _ => []) (fun _ => H1) (fun _ => True) (fun _ => 0) () trivial ⟨rfl, rfl, rfl, rfl, rfl, rfl, trivial⟩ rfl rfl ?_
     rintro - -
     (refine Go.run (g:=?_))
     (first|refine Go.finA rfl ?_|refine Go.finB rfl (hq:=?_))
     refine ⟨0, rfl, by decide, by decide, fun m hm => ?_, ?_⟩
     · rw [hnone] at hm; cases hm
     ·
      rw [hnone]
      exact ⟨a1, c1, by rw [Option.isNone_none, Bool.or_true]; exact AHeap.get_put_same _ (AHeap.lt g1) _, R1.putR o1 _, o1⟩
    have hw48 : decide (w = [48]) = true := decide_eq_true w48
    have okT : ok0 w 0 = true := by simp only [ok0]; rw [decide_eq_true hat, decide_eq_true h19, hw48]; simp
    (refine Go.run (g:=?_))
    rw [hw48]
    refine Go.loop (α := Nat × Bool × Int) (fun x => [(0, .pointer (some ⟨b, 0, none⟩)), (3, stv w), (4, .int .i64 0), (5, .int .u64 x.2.2), (6, .bool x.2.1), (7, .int .i64 (x.1 : Nat))]) (fun _ => []) (fun _ => H1) (fun x => 0 ≤ x.1 ∧ x.1 ≤ w.length ∧ x.2.1 = ((w.drop 0).take (x.1 - 0)).all isD ∧ (x.2.1 = true → x.2.2 = ((val ((w.drop 0).take (x.1 - 0)) : Nat) : Int))) (fun x => w.length - x.1) (0, true, 0) ⟨Nat.le_refl _, Nat.le_of_lt hat, by simp, fun _ => by simp [val]⟩ ⟨rfl, rfl, rfl, rfl, rfl, rfl, trivial⟩ rfl rfl ?_
    rintro ⟨i, ok, nn⟩ ⟨h1, h2, h3, h4⟩
    simp only at h1 h2 h3 h4 ⊢
    cases ok
    case false =>
     have hnone : numP w = none := by
      rw [numP_eq ht, if_neg]
      rintro ⟨-, h6, -⟩
      rw [← List.take_append_drop (i - 0) (w.drop 0), List.all_append, ← h3] at h6
      simp at h6
     rcases Nat.lt_or_ge i w.length with hi | hi
     case inl =>
      (refine Go.run (g:=?_))
      (first|refine Go.finA rfl ?_|refine Go.finB rfl (hq:=?_))
      refine ⟨0, rfl, by decide, by decide, fun m hm => ?_, ?_⟩
      · rw [hnone] at hm; cases hm
      ·
       rw [hnone]
       exact ⟨a1, c1, by rw [Option.isNone_none, Bool.or_true]; exact AHeap.get_put_same _ (AHeap.lt g1) _, R1.putR o1 _, o1⟩
     case inr =>
      (refine Go.run (g:=?_))
      (first|refine Go.finA rfl ?_|refine Go.finB rfl (hq:=?_))
      refine ⟨0, rfl, by decide, by decide, fun m hm => ?_, ?_⟩
      · rw [hnone] at hm; cases hm
      ·
       rw [hnone]
       exact ⟨a1, c1, by rw [Option.isNone_none, Bool.or_true]; exact AHeap.get_put_same _ (AHeap.lt g1) _, R1.putR o1 _, o1⟩
    have h4 := h4 rfl
    rcases Nat.lt_or_ge i w.length with hi | hi
    case inl =>
     obtain ⟨z, hz⟩ : ∃ z, w[i]? = some z := ⟨_, List.getElem?_eq_getElem hi⟩
     have hzb := z.toNat_lt
     have hzd : (w.drop 0)[i - 0]? = some z := by rw [List.getElem?_drop, show 0 + (i - 0) = i by omega]; exact hz
     have hts : (w.drop 0).take (i + 1 - 0) = (w.drop 0).take (i - 0) ++ [z] := by rw [show i + 1 - 0 = i - 0 + 1 by omega]; exact take_snoc hzd
     have hvl := val_lt _ h3.symm
     have hpw : 10 ^ ((w.drop 0).take (i - 0)).length ≤ 10 ^ 18 := Nat.pow_le_pow_right (by decide) (by rw [List.length_take]; omega)
     have hall : ((w.drop 0).take (i + 1 - 0)).all isD = isD z := by rw [hts, List.all_append, ← h3]; simp
     have hvs : val ((w.drop 0).take (i + 1 - 0)) = 10 * val ((w.drop 0).take (i - 0)) + (z.toNat - 48) := by rw [hts, val_snoc]
     generalize hV : val ((w.drop 0).take (i - 0)) = V at *
     subst h4
     have hV18 : V < 1000000000000000000 := Nat.lt_of_lt_of_le hvl hpw
     rcases Nat.lt_or_ge z.toNat 48 with hd | hd
     case inl =>
      have hnd : isD z = false := by simp [isD]; omega
      (refine Go.run (g:=?_))
      refine GoR.strAt (zs := w) rfl rfl rfl rfl rfl rfl hz ?_
      (refine Go.run (g:=?_))
      refine GoR.strAt (zs := w) rfl rfl rfl rfl rfl rfl hz ?_
      (refine Go.run (g:=?_))
      refine GoR.bin rfl rfl rfl rfl rfl rfl rfl ?_
      (refine Go.run (g:=?_))
      exact Go.again (i + 1, false, _) ⟨by show 0 ≤ i + 1; omega, by show i + 1 ≤ w.length; omega, by show false = _; rw [hall, hnd], fun e => by cases e⟩ (by show w.length - (i + 1) < w.length - i; omega) ⟨rfl, rfl, rfl, rfl, rfl, rfl, trivial⟩ rfl rfl
     rcases Nat.lt_or_ge 57 z.toNat with hd2 | hd2
     case inl =>
      have hnd : isD z = false := by simp [isD]; omega
      have hde : decide ((z.toNat : Int) ≤ 57) = false := decide_eq_false (by omega)
      (refine Go.run (g:=?_))
      refine GoR.strAt (zs := w) rfl rfl rfl rfl rfl rfl hz ?_
      (refine Go.run (g:=?_))
      refine GoR.strAt (zs := w) rfl rfl rfl rfl rfl rfl hz ?_
      (refine Go.run (g:=?_))
      refine GoR.strAt (zs := w) rfl rfl rfl rfl rfl rfl hz ?_
      (refine Go.run (g:=?_))
      exact Go.again (i + 1, false, _) ⟨by show 0 ≤ i + 1; omega, by show i + 1 ≤ w.length; omega, by show false = _; rw [hall, hnd], fun e => by cases e⟩ (by show w.length - (i + 1) < w.length - i; omega) ⟨rfl, rfl, rfl, rfl, (by rw [← hde]; rfl), rfl, trivial⟩ rfl rfl
     have hnd : isD z = true := by simp [isD]; omega
     (refine Go.run (g:=?_))
     refine GoR.strAt (zs := w) rfl rfl rfl rfl rfl rfl hz ?_
     (refine Go.run (g:=?_))
     refine GoR.strAt (zs := w) rfl rfl rfl rfl rfl rfl hz ?_
     (refine Go.run (g:=?_))
     refine GoR.strAt (zs := w) rfl rfl rfl rfl rfl rfl hz ?_
     have hde : decide ((z.toNat : Int) ≤ 57) = true := decide_eq_true (by omega)
     (refine Go.run (g:=?_))
     exact Go.again (i + 1, true, ((10 * V + z.toNat - 48 : Nat) : Int)) ⟨by show 0 ≤ i + 1; omega, by show i + 1 ≤ w.length; omega, by show true = _; rw [hall, hnd], fun _ => by show ((10 * V + z.toNat - 48 : Nat) : Int) = _; rw [hvs]; omega⟩ (by show w.length - (i + 1) < w.length - i; omega) ⟨rfl, rfl, rfl, rfl, (by rw [← hde]; rfl), rfl, trivial⟩ rfl rfl
    obtain rfl : i = w.length := by omega
    rw [List.take_of_length_le (by rw [List.length_drop]; exact Nat.le_refl _)] at h3 h4
    have hhat := hat
    generalize hV : val (w.drop 0) = V at *
    subst h4
    have hV19 : V < 10000000000000000000 := by
     have h5 := val_lt _ h3.symm
     rw [hV, List.length_drop] at h5
     exact Nat.lt_of_lt_of_le h5 (Nat.pow_le_pow_right (j := 19) (by decide) (by omega))
    have hok : ok0 w 0 = true := okT
    by_cases hle : V ≤ 9223372036854775807
    case neg =>
     have hnone : numP w = none := by rw [numP_eq ht, if_neg (by rw [hV]; rintro ⟨-, -, h⟩; exact hle h)]
     have hde : decide ((V : Int) ≤ 9223372036854775807) = false := decide_eq_false (by omega)
     (refine Go.run (g:=?_))
     (first|refine Go.finA rfl ?_|refine Go.finB rfl (hq:=?_))
     refine ⟨0, rfl, by decide, by decide, fun m hm => ?_, ?_⟩
     · rw [hnone] at hm; cases hm
     ·
      rw [hnone]
      exact ⟨a1, c1, by rw [Option.isNone_none, Bool.or_true]; exact AHeap.get_put_same _ (AHeap.lt g1) _, R1.putR o1 _, o1⟩
    have hsome : numP w = some (V : Int) := by rw [numP_eq ht, if_pos ⟨hok, h3.symm, by rw [hV]; exact hle⟩, hV]; rfl
    have hde : decide ((V : Int) ≤ 9223372036854775807) = true := decide_eq_true (by omega)
    (refine Go.run (g:=?_))
    (first|refine Go.finA rfl ?_|refine Go.finB rfl (hq:=?_))
    refine ⟨_, rfl, by omega, by omega, fun m hm => ?_, ?_⟩
    · rw [hsome] at hm; injection hm with hm
    ·
     rw [hsome]
     exact ⟨a1, c1, by rw [Option.isNone_some, Bool.or_false]; exact g1, R1, o1⟩
   have okT : ok0 w 0 = true := by
    have hn : ¬ w[0]? = some 48 := fun e => by rw [hz1] at e; injection e with e; apply z48; rw [e]; rfl
    simp only [ok0]; rw [decide_eq_true hat, decide_eq_true h19, decide_eq_false hn]; simp
   (refine Go.run (g:=?_))
   refine Go.loop (α := Nat × Bool × Int) (fun x => [(0, .pointer (some ⟨b, 0, none⟩)), (3, stv w), (4, .int .i64 0), (5, .int .u64 x.2.2), (6, .bool x.2.1), (7, .int .i64 (x.1 : Nat))]) (fun _ => []) (fun _ => H1) (fun x => 0 ≤ x.1 ∧ x.1 ≤ w.length ∧ x.2.1 = ((w.drop 0).take (x.1 - 0)).all isD ∧ (x.2.1 = true → x.2.2 = ((val ((w.drop 0).take (x.1 - 0)) : Nat) : Int))) (fun x => w.length - x.1) (0, true, 0) ⟨Nat.le_refl _, Nat.le_of_lt hat, by simp, fun _ => by simp [val]⟩ ⟨rfl, rfl, rfl, rfl, rfl, rfl, trivial⟩ rfl rfl ?_
   rintro ⟨i, ok, nn⟩ ⟨h1, h2, h3, h4⟩
   simp only at h1 h2 h3 h4 ⊢
   cases ok
   case false =>
    have hnone : numP w = none := by
     rw [numP_eq ht, if_neg]
     rintro ⟨-, h6, -⟩
     rw [← List.take_append_drop (i - 0) (w.drop 0), List.all_append, ← h3] at h6
     simp at h6
    rcases Nat.lt_or_ge i w.length with hi | hi
    case inl =>
     (refine Go.run (g:=?_))
     (first|refine Go.finA rfl ?_|refine Go.finB rfl (hq:=?_))
     refine ⟨0, rfl, by decide, by decide, fun m hm => ?_, ?_⟩
     · rw [hnone] at hm; cases hm
     ·
      rw [hnone]
      exact ⟨a1, c1, by rw [Option.isNone_none, Bool.or_true]; exact AHeap.get_put_same _ (AHeap.lt g1) _, R1.putR o1 _, o1⟩
    case inr =>
     (refine Go.run (g:=?_))
     (first|refine Go.finA rfl ?_|refine Go.finB rfl (hq:=?_))
     refine ⟨0, rfl, by decide, by decide, fun m hm => ?_, ?_⟩
     · rw [hnone] at hm; cases hm
     ·
      rw [hnone]
      exact ⟨a1, c1, by rw [Option.isNone_none, Bool.or_true]; exact AHeap.get_put_same _ (AHeap.lt g1) _, R1.putR o1 _, o1⟩
   have h4 := h4 rfl
   rcases Nat.lt_or_ge i w.length with hi | hi
   case inl =>
    obtain ⟨z, hz⟩ : ∃ z, w[i]? = some z := ⟨_, List.getElem?_eq_getElem hi⟩
    have hzb := z.toNat_lt
    have hzd : (w.drop 0)[i - 0]? = some z := by rw [List.getElem?_drop, show 0 + (i - 0) = i by omega]; exact hz
    have hts : (w.drop 0).take (i + 1 - 0) = (w.drop 0).take (i - 0) ++ [z] := by rw [show i + 1 - 0 = i - 0 + 1 by omega]; exact take_snoc hzd
    have hvl := val_lt _ h3.symm
    have hpw : 10 ^ ((w.drop 0).take (i - 0)).length ≤ 10 ^ 18 := Nat.pow_le_pow_right (by decide) (by rw [List.length_take]; omega)
    have hall : ((w.drop 0).take (i + 1 - 0)).all isD = isD z := by rw [hts, List.all_append, ← h3]; simp
    have hvs : val ((w.drop 0).take (i + 1 - 0)) = 10 * val ((w.drop 0).take (i - 0)) + (z.toNat - 48) := by rw [hts, val_snoc]
    generalize hV : val ((w.drop 0).take (i - 0)) = V at *
    subst h4
    have hV18 : V < 1000000000000000000 := Nat.lt_of_lt_of_le hvl hpw
    rcases Nat.lt_or_ge z.toNat 48 with hd | hd
    case inl =>
     have hnd : isD z = false := by simp [isD]; omega
     (refine Go.run (g:=?_))
     refine GoR.strAt (zs := w) rfl rfl rfl rfl rfl rfl hz ?_
     (refine Go.run (g:=?_))
     refine GoR.strAt (zs := w) rfl rfl rfl rfl rfl rfl hz ?_
     (refine Go.run (g:=?_))
     refine GoR.bin rfl rfl rfl rfl rfl rfl rfl ?_
     (refine Go.run (g:=?_))
     exact Go.again (i + 1, false, _) ⟨by show 0 ≤ i + 1; omega, by show i + 1 ≤ w.length; omega, by show false = _; rw [hall, hnd], fun e => by cases e⟩ (by show w.length - (i + 1) < w.length - i; omega) ⟨rfl, rfl, rfl, rfl, rfl, rfl, trivial⟩ rfl rfl
    rcases Nat.lt_or_ge 57 z.toNat with hd2 | hd2
    case inl =>
     have hnd : isD z = false := by simp [isD]; omega
     have hde : decide ((z.toNat : Int) ≤ 57) = false := decide_eq_false (by omega)
     (refine Go.run (g:=?_))
     refine GoR.strAt (zs := w) rfl rfl rfl rfl rfl rfl hz ?_
     (refine Go.run (g:=?_))
     refine GoR.strAt (zs := w) rfl rfl rfl rfl rfl rfl hz ?_
     (refine Go.run (g:=?_))
     refine GoR.strAt (zs := w) rfl rfl rfl rfl rfl rfl hz ?_
     (refine Go.run (g:=?_))
     exact Go.again (i + 1, false, _) ⟨by show 0 ≤ i + 1; omega, by show i + 1 ≤ w.length; omega, by show false = _; rw [hall, hnd], fun e => by cases e⟩ (by show w.length - (i + 1) < w.length - i; omega) ⟨rfl, rfl, rfl, rfl, (by rw [← hde]; rfl), rfl, trivial⟩ rfl rfl
    have hnd : isD z = true := by simp [isD]; omega
    (refine Go.run (g:=?_))
    refine GoR.strAt (zs := w) rfl rfl rfl rfl rfl rfl hz ?_
    (refine Go.run (g:=?_))
    refine GoR.strAt (zs := w) rfl rfl rfl rfl rfl rfl hz ?_
    (refine Go.run (g:=?_))
    refine GoR.strAt (zs := w) rfl rfl rfl rfl rfl rfl hz ?_
    have hde : decide ((z.toNat : Int) ≤ 57) = true := decide_eq_true (by omega)
    (refine Go.run (g:=?_))
    exact Go.again (i + 1, true, ((10 * V + z.toNat - 48 : Nat) : Int)) ⟨by show 0 ≤ i + 1; omega, by show i + 1 ≤ w.length; omega, by show true = _; rw [hall, hnd], fun _ => by show ((10 * V + z.toNat - 48 : Nat) : Int) = _; rw [hvs]; omega⟩ (by show w.length - (i + 1) < w.length - i; omega) ⟨rfl, rfl, rfl, rfl, (by rw [← hde]; rfl), rfl, trivial⟩ rfl rfl
   obtain rfl : i = w.length := by omega
   rw [List.take_of_length_le (by rw [List.length_drop]; exact Nat.le_refl _)] at h3 h4
   have hhat := hat
   generalize hV : val (w.drop 0) = V at *
   subst h4
   have hV19 : V < 10000000000000000000 := by
    have h5 := val_lt _ h3.symm
    rw [hV, List.length_drop] at h5
    exact Nat.lt_of_lt_of_le h5 (Nat.pow_le_pow_right (j := 19) (by decide) (by omega))
   have hok : ok0 w 0 = true := okT
   by_cases hle : V ≤ 9223372036854775807
   case neg =>
    have hnone : numP w = none := by rw [numP_eq ht, if_neg (by rw [hV]; rintro ⟨-, -, h⟩; exact hle h)]
    have hde : decide ((V : Int) ≤ 9223372036854775807) = false := decide_eq_false (by omega)
    (refine Go.run (g:=?_))
    (first|refine Go.finA rfl ?_|refine Go.finB rfl (hq:=?_))
    refine ⟨0, rfl, by decide, by decide, fun m hm => ?_, ?_⟩
    · rw [hnone] at hm; cases hm
    ·
     rw [hnone]
     exact ⟨a1, c1, by rw [Option.isNone_none, Bool.or_true]; exact AHeap.get_put_same _ (AHeap.lt g1) _, R1.putR o1 _, o1⟩
   have hsome : numP w = some (V : Int) := by rw [numP_eq ht, if_pos ⟨hok, h3.symm, by rw [hV]; exact hle⟩, hV]; rfl
   have hde : decide ((V : Int) ≤ 9223372036854775807) = true := decide_eq_true (by omega)
   (refine Go.run (g:=?_))
   (first|refine Go.finA rfl ?_|refine Go.finB rfl (hq:=?_))
   refine ⟨_, rfl, by omega, by omega, fun m hm => ?_, ?_⟩
   · rw [hsome] at hm; injection hm with hm
   ·
    rw [hsome]
    exact ⟨a1, c1, by rw [Option.isNone_some, Bool.or_false]; exact g1, R1, o1⟩
end Go.Proofs.YtncbbeghkpjpbaaDoor
namespace Go.Proofs.YtncbbeghkpjpbaaDoor
open Go.RowKit
set_option maxRecDepth 100000
attribute [local irreducible] Go GoR GoL
def upP (most : Int) (w : List UInt8) : Option Int := match numP w with
 | some n => if 0 ≤ n ∧ n ≤ most then some n else none
 | none => none
set_option maxHeartbeats 8000000 in
theorem upto_spec (most : Int) (hm0 : 0 ≤ most) (hm1 : most < 9223372036854775808) (b : Nat) (w : List UInt8) (r : List (List UInt8)) (bad : Bool) (hw : w.length ≤ 10000000) (h : AHeap) (k : RdI h 78 b (w :: r) bad) : CallS Tryd.prog [b] 35 [.pointer (some ⟨b, 0, none⟩), .int .i64 most] h fun v h' => ∃ n : Int, v = .int .i64 n ∧ 0 ≤ n ∧ n ≤ most ∧ (∀ m, upP most w = some m → n = m) ∧ RdI h' 78 b r (bad || (upP most w).isNone) := by
 (refine CallS.of2 Tryd.func35 rfl Tryd.ntmps35 Tryd.results35 rfl ?_)
 (refine Go.run (g:=?_))
 refine GoR.callW rfl rfl rfl rfl rfl rfl rfl (((num_spec b w r bad hw _ k).argA).mono ?_)
 rintro _ H1 ⟨n, rfl, n0, n1, hn, k1⟩ kp1
 refine ⟨fun i hi => .inl hi, ?_⟩
 obtain ⟨a1, c1, g1, R1, o1⟩ := k1
 by_cases hr : 0 ≤ n ∧ n ≤ most
 ·
  have hu : upP most w = numP w := by
   unfold upP
   cases hq : numP w with
   | none => rfl
   | some m =>
    have := hn m hq
    subst this
    simp only
    rw [if_pos hr]
  obtain ⟨r1, r2⟩ := hr
  (refine Go.run (g:=?_))
  (first|refine Go.finA rfl ?_|refine Go.finB rfl (hq:=?_))
  rw [hu]
  exact ⟨n, rfl, r1, r2, hn, a1, c1, g1, R1, o1⟩
 ·
  have hu : upP most w = none := by
   unfold upP
   cases hq : numP w with
   | none => rfl
   | some m =>
    have := hn m hq
    subst this
    simp only
    rw [if_neg hr]
  rw [hu]
  rcases Int.lt_or_le n 0 with r1 | r1
  ·
   (refine Go.run (g:=?_))
   (first|refine Go.finA rfl ?_|refine Go.finB rfl (hq:=?_))
   exact ⟨0, rfl, Int.le_refl _, hm0, (fun m hm => by cases hm), a1, c1, by rw [Option.isNone_none, Bool.or_true]; exact AHeap.get_put_same _ (AHeap.lt g1) _, R1.putR o1 _, o1⟩
  ·
   have r2 : most < n := by omega
   (refine Go.run (g:=?_))
   (first|refine Go.finA rfl ?_|refine Go.finB rfl (hq:=?_))
   exact ⟨0, rfl, Int.le_refl _, hm0, (fun m hm => by cases hm), a1, c1, by rw [Option.isNone_none, Bool.or_true]; exact AHeap.get_put_same _ (AHeap.lt g1) _, R1.putR o1 _, o1⟩
def hxV (c : UInt8) : Int := if 48 ≤ c.toNat ∧ c.toNat ≤ 57 then (c.toNat : Int) - 48 else if 97 ≤ c.toNat ∧ c.toNat ≤ 102 then (c.toNat : Int) - 87 else -1
set_option maxHeartbeats 4000000 in
theorem half_spec (c : UInt8) (h : AHeap) : CallS Tryd.prog [] 50 [.int .u8 (c.toNat : Nat)] h fun v h' => v = .int .i64 (hxV c) ∧ h' = h := by
 have hc := c.toNat_lt
 unfold hxV
 generalize c.toNat = n at *
 (refine CallS.of1 Tryd.func50 rfl Tryd.ntmps50 Tryd.results50 rfl ?_)
 by_cases h1 : 48 ≤ n
 case neg =>
  have h2 : ¬ 97 ≤ n := by omega
  (refine Go.run (g:=?_))
  (first|refine Go.finA rfl ?_|refine Go.finB rfl (hq:=?_))
  rw [if_neg (by omega), if_neg (by omega)]
  exact ⟨rfl, rfl⟩
 by_cases h2 : n ≤ 57
 ·
  (refine Go.run (g:=?_))
  (first|refine Go.finA rfl ?_|refine Go.finB rfl (hq:=?_))
  rw [if_pos ⟨h1, h2⟩]
  refine ⟨?_, rfl⟩
  exact congrArg (Value.int .i64) (show ((n - 48 : Nat) : Int) = (n : Int) - 48 by omega)
 by_cases h3 : 97 ≤ n
 case neg =>
  (refine Go.run (g:=?_))
  (first|refine Go.finA rfl ?_|refine Go.finB rfl (hq:=?_))
  rw [if_neg (by omega), if_neg (by omega)]
  exact ⟨rfl, rfl⟩
 by_cases h4 : n ≤ 102
 ·
  (refine Go.run (g:=?_))
  (first|refine Go.finA rfl ?_|refine Go.finB rfl (hq:=?_))
  rw [if_neg (by omega), if_pos ⟨h3, h4⟩]
  refine ⟨?_, rfl⟩
  exact congrArg (Value.int .i64) (show ((n - 87 : Nat) : Int) = (n : Int) - 87 by omega)
 ·
  (refine Go.run (g:=?_))
  (first|refine Go.finA rfl ?_|refine Go.finB rfl (hq:=?_))
  rw [if_neg (by omega), if_neg (by omega)]
  exact ⟨rfl, rfl⟩
end Go.Proofs.YtncbbeghkpjpbaaDoor
namespace Go.Proofs.YtncbbeghkpjpbaaDoor
open Go.RowKit
set_option maxRecDepth 100000
attribute [local irreducible] Go GoR GoL
section
variable {P : Program} {W : Nat → Prop} {q : Bool} {N : Nat} {k : List It} {ov : Ov} {df : List Nat} {h : AHeap} {Q : PQ} {id : Nat} {ops : Array Oper} {os : List Oper} {o : Oper} {d : Nat} {b₀ : Bool} {tr : List (Option LE)}
theorem GoL.callS {f : Operand} {xs : Array Operand} {ts : Array TypeId} {g : FuncId} {first cap : Array Value} {us : List Value} (ho : o.op = .call ⟨.value f, xs, ts⟩) (hd : o.dst = some d) (hN : dOk d N = true) (hgd : o.guard = none) (hf : evO ov f = some (.func (.func g) first cap)) (hx : evOs ov xs.toList = some us) (hc : calls P g = true)
  (hk : CallS P [] g (first.toList ++ us ++ cap.toList) h fun v h' => Same h h' → GoL P W q N ops (tr ++ [some ⟨h.n, h'.n, [], [], true, false⟩]) os k ((d, v) :: ov) df h' Q) : GoL P W q N ops tr (o :: os) k ov df h Q :=
 GoL.call (wr := []) ho hd hN hgd hf hx hc (hk.mono fun v h' g kp => ⟨fun i hi => absurd hi List.not_mem_nil, g ⟨kp.1, fun i hi => kp.2 i hi List.not_mem_nil⟩⟩)
end
end Go.Proofs.YtncbbeghkpjpbaaDoor