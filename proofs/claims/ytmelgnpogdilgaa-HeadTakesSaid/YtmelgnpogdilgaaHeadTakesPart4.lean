/- What the law leans on, part 4. No conditions. -/
import Derived.Test.YtmelgnpogdilgaaProg
import Derived.KernelRfl
import Derived.Laws.StructEq
import Derived.Test.YtmelgnpogdilgaaChecked
import Derived.WideShapes
import Derived.ProofKit
import Derived.OpenShut
import Derived.ChangeOld
import Derived.Test.YtmelgnpogdilgaaHeadTakesPart3
/- What is known of the program's types. No conditions. -/
namespace Go.Proofs.Ytmelgnpogdilgaa
set_option linter.unusedVariables false
instance : CT Try.prog 0 none := ⟨by kernel_rfl⟩
instance : SZ Try.prog 0 1 := ⟨by kernel_rfl⟩
instance : CT Try.prog 1 none := ⟨by kernel_rfl⟩
instance : SZ Try.prog 1 1 := ⟨by kernel_rfl⟩
instance : AL Try.prog 1 [.nilFunc] := ⟨by kernel_rfl⟩
instance : CT Try.prog 2 none := ⟨by kernel_rfl⟩
instance : SZ Try.prog 2 1 := ⟨by kernel_rfl⟩
theorem un2 : Try.prog.underlying 2 = some (.int .i64) := by kernel_rfl
instance : AL Try.prog 2 [.int .i64 0] := ⟨by kernel_rfl⟩
instance : CT Try.prog 3 none := ⟨by kernel_rfl⟩
instance : SZ Try.prog 3 1 := ⟨by kernel_rfl⟩
theorem un3 : Try.prog.underlying 3 = some (.int .i64) := by kernel_rfl
instance : AL Try.prog 3 [.int .i64 0] := ⟨by kernel_rfl⟩
instance : CT Try.prog 4 none := ⟨by kernel_rfl⟩
instance : SZ Try.prog 4 1 := ⟨by kernel_rfl⟩
instance : AL Try.prog 4 [.bool false] := ⟨by kernel_rfl⟩
instance : CT Try.prog 5 none := ⟨by kernel_rfl⟩
instance : SZ Try.prog 5 1 := ⟨by kernel_rfl⟩
theorem un5 : Try.prog.underlying 5 = some (.int .u8) := by kernel_rfl
instance : AL Try.prog 5 [.int .u8 0] := ⟨by kernel_rfl⟩
instance : CT Try.prog 6 none := ⟨by kernel_rfl⟩
instance : SZ Try.prog 6 1 := ⟨by kernel_rfl⟩
theorem un6 : Try.prog.underlying 6 = some (.int .u8) := by kernel_rfl
instance : AL Try.prog 6 [.int .u8 0] := ⟨by kernel_rfl⟩
instance : CT Try.prog 7 (some 4) := ⟨by kernel_rfl⟩
instance : SZ Try.prog 7 4 := ⟨by kernel_rfl⟩
instance : FO Try.prog 7 0 0 := ⟨by kernel_rfl⟩
instance : FO Try.prog 7 1 1 := ⟨by kernel_rfl⟩
instance : FO Try.prog 7 2 2 := ⟨by kernel_rfl⟩
instance : FO Try.prog 7 3 3 := ⟨by kernel_rfl⟩
instance : ST Try.prog 7 [.int .i64 0, .int .i64 0, .bool false, .int .u8 0] [(0, 1), (1, 1), (2, 1), (3, 1)] := .of (z := .agg #[.int .i64 0, .int .i64 0, .bool false, .int .u8 0]) (fs := (match Try.prog.underlying 7 with | some (.struct fs) => fs | _ => #[])) (by kernel_rfl) (by kernel_rfl) (by kernel_rfl) (by kernel_rfl) (by kernel_rfl)
instance : AL Try.prog 7 [.int .i64 0, .int .i64 0, .bool false, .int .u8 0] := ⟨by kernel_rfl⟩
instance : CT Try.prog 8 (some 4) := ⟨by kernel_rfl⟩
instance : SZ Try.prog 8 4 := ⟨by kernel_rfl⟩
instance : FO Try.prog 8 0 0 := ⟨by kernel_rfl⟩
instance : FO Try.prog 8 1 1 := ⟨by kernel_rfl⟩
instance : FO Try.prog 8 2 2 := ⟨by kernel_rfl⟩
instance : FO Try.prog 8 3 3 := ⟨by kernel_rfl⟩
instance : ST Try.prog 8 [.int .i64 0, .int .i64 0, .bool false, .int .u8 0] [(0, 1), (1, 1), (2, 1), (3, 1)] := .of (z := .agg #[.int .i64 0, .int .i64 0, .bool false, .int .u8 0]) (fs := (match Try.prog.underlying 8 with | some (.struct fs) => fs | _ => #[])) (by kernel_rfl) (by kernel_rfl) (by kernel_rfl) (by kernel_rfl) (by kernel_rfl)
instance : AL Try.prog 8 [.int .i64 0, .int .i64 0, .bool false, .int .u8 0] := ⟨by kernel_rfl⟩
instance : CT Try.prog 9 none := ⟨by kernel_rfl⟩
instance : SZ Try.prog 9 1 := ⟨by kernel_rfl⟩
instance : UN Try.prog 9 .string := ⟨by kernel_rfl⟩
instance : AL Try.prog 9 [.string ⟨#[]⟩] := ⟨by kernel_rfl⟩
instance : CT Try.prog 10 none := ⟨by kernel_rfl⟩
instance : SZ Try.prog 10 1 := ⟨by kernel_rfl⟩
instance : UN Try.prog 10 .string := ⟨by kernel_rfl⟩
instance : AL Try.prog 10 [.string ⟨#[]⟩] := ⟨by kernel_rfl⟩
instance : CT Try.prog 11 none := ⟨by kernel_rfl⟩
instance : SZ Try.prog 11 1 := ⟨by kernel_rfl⟩
instance : UN Try.prog 11 .string := ⟨by kernel_rfl⟩
instance : AL Try.prog 11 [.string ⟨#[]⟩] := ⟨by kernel_rfl⟩
instance : CT Try.prog 12 none := ⟨by kernel_rfl⟩
instance : SZ Try.prog 12 1 := ⟨by kernel_rfl⟩
theorem un12 : Try.prog.underlying 12 = some (.int .u64) := by kernel_rfl
instance : AL Try.prog 12 [.int .u64 0] := ⟨by kernel_rfl⟩
instance : CT Try.prog 13 (some 2) := ⟨by kernel_rfl⟩
instance : SZ Try.prog 13 2 := ⟨by kernel_rfl⟩
instance : FO Try.prog 13 0 0 := ⟨by kernel_rfl⟩
instance : FO Try.prog 13 1 1 := ⟨by kernel_rfl⟩
instance : ST Try.prog 13 [.string ⟨#[]⟩, .int .u64 0] [(0, 1), (1, 1)] := .of (z := .agg #[.string ⟨#[]⟩, .int .u64 0]) (fs := (match Try.prog.underlying 13 with | some (.struct fs) => fs | _ => #[])) (by kernel_rfl) (by kernel_rfl) (by kernel_rfl) (by kernel_rfl) (by kernel_rfl)
instance : AL Try.prog 13 [.string ⟨#[]⟩, .int .u64 0] := ⟨by kernel_rfl⟩
instance : CT Try.prog 14 (some 2) := ⟨by kernel_rfl⟩
instance : SZ Try.prog 14 2 := ⟨by kernel_rfl⟩
instance : FO Try.prog 14 0 0 := ⟨by kernel_rfl⟩
instance : FO Try.prog 14 1 1 := ⟨by kernel_rfl⟩
instance : ST Try.prog 14 [.string ⟨#[]⟩, .int .u64 0] [(0, 1), (1, 1)] := .of (z := .agg #[.string ⟨#[]⟩, .int .u64 0]) (fs := (match Try.prog.underlying 14 with | some (.struct fs) => fs | _ => #[])) (by kernel_rfl) (by kernel_rfl) (by kernel_rfl) (by kernel_rfl) (by kernel_rfl)
instance : AL Try.prog 14 [.string ⟨#[]⟩, .int .u64 0] := ⟨by kernel_rfl⟩
instance : CT Try.prog 15 none := ⟨by kernel_rfl⟩
instance : SZ Try.prog 15 1 := ⟨by kernel_rfl⟩
instance : AL Try.prog 15 [.pointer none] := ⟨by kernel_rfl⟩
instance : CT Try.prog 16 none := ⟨by kernel_rfl⟩
instance : SZ Try.prog 16 1 := ⟨by kernel_rfl⟩
instance : AL Try.prog 16 [.pointer none] := ⟨by kernel_rfl⟩
instance : CT Try.prog 17 none := ⟨by kernel_rfl⟩
instance : SZ Try.prog 17 1 := ⟨by kernel_rfl⟩
instance : AL Try.prog 17 [.pointer none] := ⟨by kernel_rfl⟩
instance : CT Try.prog 18 (some 1) := ⟨by kernel_rfl⟩
instance : SZ Try.prog 18 1 := ⟨by kernel_rfl⟩
instance : FO Try.prog 18 0 0 := ⟨by kernel_rfl⟩
instance : ST Try.prog 18 [.pointer none] [(0, 1)] := .of (z := .agg #[.pointer none]) (fs := (match Try.prog.underlying 18 with | some (.struct fs) => fs | _ => #[])) (by kernel_rfl) (by kernel_rfl) (by kernel_rfl) (by kernel_rfl) (by kernel_rfl)
instance : AL Try.prog 18 [.pointer none] := ⟨by kernel_rfl⟩
instance : CT Try.prog 19 (some 1) := ⟨by kernel_rfl⟩
instance : SZ Try.prog 19 1 := ⟨by kernel_rfl⟩
instance : FO Try.prog 19 0 0 := ⟨by kernel_rfl⟩
instance : ST Try.prog 19 [.pointer none] [(0, 1)] := .of (z := .agg #[.pointer none]) (fs := (match Try.prog.underlying 19 with | some (.struct fs) => fs | _ => #[])) (by kernel_rfl) (by kernel_rfl) (by kernel_rfl) (by kernel_rfl) (by kernel_rfl)
instance : AL Try.prog 19 [.pointer none] := ⟨by kernel_rfl⟩
instance : CT Try.prog 20 none := ⟨by kernel_rfl⟩
instance : SZ Try.prog 20 1 := ⟨by kernel_rfl⟩
instance : AL Try.prog 20 [.nilIface] := ⟨by kernel_rfl⟩
instance : CT Try.prog 21 none := ⟨by kernel_rfl⟩
instance : SZ Try.prog 21 1 := ⟨by kernel_rfl⟩
theorem un21 : Try.prog.underlying 21 = some (.int .i32) := by kernel_rfl
instance : AL Try.prog 21 [.int .i32 0] := ⟨by kernel_rfl⟩
instance : CT Try.prog 22 none := ⟨by kernel_rfl⟩
instance : SZ Try.prog 22 1 := ⟨by kernel_rfl⟩
theorem un22 : Try.prog.underlying 22 = some (.int .u16) := by kernel_rfl
instance : AL Try.prog 22 [.int .u16 0] := ⟨by kernel_rfl⟩
instance : CT Try.prog 23 none := ⟨by kernel_rfl⟩
instance : SZ Try.prog 23 1 := ⟨by kernel_rfl⟩
instance : EL Try.prog 23 (none, 1) := ⟨by kernel_rfl⟩
instance : UN Try.prog 23 (.slice 5) := ⟨by kernel_rfl⟩
instance : BS Try.prog 23 5 1 (.int .u8 0) := .of (by kernel_rfl) (by kernel_rfl) (by kernel_rfl) (by kernel_rfl) (by kernel_rfl)
instance : MK Try.prog 23 5 1 (.int .u8 0) := .of (inf := Try.t5) (by kernel_rfl) (by kernel_rfl) (by kernel_rfl) (by kernel_rfl) (by kernel_rfl) (by kernel_rfl) (by kernel_rfl)
instance : AP Try.prog 23 23 5 1 1 := .of (inf := Try.t5) (z := .int .u8 0) (e₂ := 5) (by kernel_rfl) (by kernel_rfl) (by kernel_rfl) (by kernel_rfl) (by kernel_rfl) (by kernel_rfl) (by decide) (by kernel_rfl) (by kernel_rfl)
instance : AL Try.prog 23 [.slice none 0 0] := ⟨by kernel_rfl⟩
instance : CT Try.prog 24 (some 3) := ⟨by kernel_rfl⟩
instance : SZ Try.prog 24 3 := ⟨by kernel_rfl⟩
instance : FO Try.prog 24 0 0 := ⟨by kernel_rfl⟩
instance : FO Try.prog 24 1 1 := ⟨by kernel_rfl⟩
instance : FO Try.prog 24 2 2 := ⟨by kernel_rfl⟩
instance : ST Try.prog 24 [.int .u16 0, .int .u8 0, .slice none 0 0] [(0, 1), (1, 1), (2, 1)] := .of (z := .agg #[.int .u16 0, .int .u8 0, .slice none 0 0]) (fs := (match Try.prog.underlying 24 with | some (.struct fs) => fs | _ => #[])) (by kernel_rfl) (by kernel_rfl) (by kernel_rfl) (by kernel_rfl) (by kernel_rfl)
instance : AL Try.prog 24 [.int .u16 0, .int .u8 0, .slice none 0 0] := ⟨by kernel_rfl⟩
instance : CT Try.prog 25 (some 3) := ⟨by kernel_rfl⟩
instance : SZ Try.prog 25 3 := ⟨by kernel_rfl⟩
instance : FO Try.prog 25 0 0 := ⟨by kernel_rfl⟩
instance : FO Try.prog 25 1 1 := ⟨by kernel_rfl⟩
instance : FO Try.prog 25 2 2 := ⟨by kernel_rfl⟩
instance : ST Try.prog 25 [.int .u16 0, .int .u8 0, .slice none 0 0] [(0, 1), (1, 1), (2, 1)] := .of (z := .agg #[.int .u16 0, .int .u8 0, .slice none 0 0]) (fs := (match Try.prog.underlying 25 with | some (.struct fs) => fs | _ => #[])) (by kernel_rfl) (by kernel_rfl) (by kernel_rfl) (by kernel_rfl) (by kernel_rfl)
instance : AL Try.prog 25 [.int .u16 0, .int .u8 0, .slice none 0 0] := ⟨by kernel_rfl⟩
instance : CT Try.prog 26 none := ⟨by kernel_rfl⟩
instance : SZ Try.prog 26 1 := ⟨by kernel_rfl⟩
instance : AL Try.prog 26 [.nilFunc] := ⟨by kernel_rfl⟩
instance : CT Try.prog 27 none := ⟨by kernel_rfl⟩
instance : SZ Try.prog 27 1 := ⟨by kernel_rfl⟩
theorem un27 : Try.prog.underlying 27 = some (.int .i64) := by kernel_rfl
instance : AL Try.prog 27 [.int .i64 0] := ⟨by kernel_rfl⟩
instance : CT Try.prog 28 none := ⟨by kernel_rfl⟩
instance : SZ Try.prog 28 1 := ⟨by kernel_rfl⟩
instance : CT Try.prog 29 none := ⟨by kernel_rfl⟩
instance : SZ Try.prog 29 1 := ⟨by kernel_rfl⟩
instance : AL Try.prog 29 [.nilFunc] := ⟨by kernel_rfl⟩
instance : CT Try.prog 30 none := ⟨by kernel_rfl⟩
instance : SZ Try.prog 30 1 := ⟨by kernel_rfl⟩
instance : AL Try.prog 30 [.nilFunc] := ⟨by kernel_rfl⟩
instance : CT Try.prog 31 none := ⟨by kernel_rfl⟩
instance : SZ Try.prog 31 1 := ⟨by kernel_rfl⟩
instance : AL Try.prog 31 [.nilFunc] := ⟨by kernel_rfl⟩
instance : CT Try.prog 32 none := ⟨by kernel_rfl⟩
instance : SZ Try.prog 32 1 := ⟨by kernel_rfl⟩
instance : EL Try.prog 32 (none, 3) := ⟨by kernel_rfl⟩
instance : UN Try.prog 32 (.slice 25) := ⟨by kernel_rfl⟩
instance : BS Try.prog 32 25 3 (.agg #[.int .u16 0, .int .u8 0, .slice none 0 0]) := .of (by kernel_rfl) (by kernel_rfl) (by kernel_rfl) (by kernel_rfl) (by kernel_rfl)
instance : AP Try.prog 32 32 25 3 32 := .of (inf := Try.t25) (z := .agg #[.int .u16 0, .int .u8 0, .slice none 0 0]) (e₂ := 25) (by kernel_rfl) (by kernel_rfl) (by kernel_rfl) (by kernel_rfl) (by kernel_rfl) (by kernel_rfl) (by decide) (by kernel_rfl) (by kernel_rfl)
instance : AL Try.prog 32 [.slice none 0 0] := ⟨by kernel_rfl⟩
instance : CT Try.prog 33 none := ⟨by kernel_rfl⟩
instance : SZ Try.prog 33 1 := ⟨by kernel_rfl⟩
instance : CT Try.prog 34 none := ⟨by kernel_rfl⟩
instance : SZ Try.prog 34 1 := ⟨by kernel_rfl⟩
instance : AL Try.prog 34 [.nilFunc] := ⟨by kernel_rfl⟩
instance : CT Try.prog 35 none := ⟨by kernel_rfl⟩
instance : SZ Try.prog 35 1 := ⟨by kernel_rfl⟩
instance : AL Try.prog 35 [.nilFunc] := ⟨by kernel_rfl⟩
instance : CT Try.prog 36 none := ⟨by kernel_rfl⟩
instance : SZ Try.prog 36 1 := ⟨by kernel_rfl⟩
instance : AL Try.prog 36 [.nilFunc] := ⟨by kernel_rfl⟩
instance : CT Try.prog 37 none := ⟨by kernel_rfl⟩
instance : SZ Try.prog 37 1 := ⟨by kernel_rfl⟩
instance : AL Try.prog 37 [.nilFunc] := ⟨by kernel_rfl⟩
instance : CT Try.prog 38 none := ⟨by kernel_rfl⟩
instance : SZ Try.prog 38 1 := ⟨by kernel_rfl⟩
instance : AL Try.prog 38 [.nilFunc] := ⟨by kernel_rfl⟩
instance : CT Try.prog 39 none := ⟨by kernel_rfl⟩
instance : SZ Try.prog 39 1 := ⟨by kernel_rfl⟩
instance : CT Try.prog 40 none := ⟨by kernel_rfl⟩
instance : SZ Try.prog 40 1 := ⟨by kernel_rfl⟩
instance : AL Try.prog 40 [.nilFunc] := ⟨by kernel_rfl⟩
instance : CT Try.prog 41 none := ⟨by kernel_rfl⟩
instance : SZ Try.prog 41 1 := ⟨by kernel_rfl⟩
instance : AL Try.prog 41 [.nilFunc] := ⟨by kernel_rfl⟩
instance : CT Try.prog 42 none := ⟨by kernel_rfl⟩
instance : SZ Try.prog 42 1 := ⟨by kernel_rfl⟩
instance : AL Try.prog 42 [.nilFunc] := ⟨by kernel_rfl⟩
instance : CT Try.prog 43 none := ⟨by kernel_rfl⟩
instance : SZ Try.prog 43 1 := ⟨by kernel_rfl⟩
instance : AL Try.prog 43 [.nilFunc] := ⟨by kernel_rfl⟩
instance : CT Try.prog 44 none := ⟨by kernel_rfl⟩
instance : SZ Try.prog 44 1 := ⟨by kernel_rfl⟩
theorem un44 : Try.prog.underlying 44 = some (.int .u32) := by kernel_rfl
instance : AL Try.prog 44 [.int .u32 0] := ⟨by kernel_rfl⟩
instance : CT Try.prog 45 (some 3) := ⟨by kernel_rfl⟩
instance : SZ Try.prog 45 3 := ⟨by kernel_rfl⟩
instance : FO Try.prog 45 0 0 := ⟨by kernel_rfl⟩
instance : FO Try.prog 45 1 1 := ⟨by kernel_rfl⟩
instance : FO Try.prog 45 2 2 := ⟨by kernel_rfl⟩
instance : ST Try.prog 45 [.int .u16 0, .int .u16 0, .int .u32 0] [(0, 1), (1, 1), (2, 1)] := .of (z := .agg #[.int .u16 0, .int .u16 0, .int .u32 0]) (fs := (match Try.prog.underlying 45 with | some (.struct fs) => fs | _ => #[])) (by kernel_rfl) (by kernel_rfl) (by kernel_rfl) (by kernel_rfl) (by kernel_rfl)
instance : AL Try.prog 45 [.int .u16 0, .int .u16 0, .int .u32 0] := ⟨by kernel_rfl⟩
instance : CT Try.prog 46 (some 3) := ⟨by kernel_rfl⟩
instance : SZ Try.prog 46 3 := ⟨by kernel_rfl⟩
instance : FO Try.prog 46 0 0 := ⟨by kernel_rfl⟩
instance : FO Try.prog 46 1 1 := ⟨by kernel_rfl⟩
instance : FO Try.prog 46 2 2 := ⟨by kernel_rfl⟩
instance : ST Try.prog 46 [.int .u16 0, .int .u16 0, .int .u32 0] [(0, 1), (1, 1), (2, 1)] := .of (z := .agg #[.int .u16 0, .int .u16 0, .int .u32 0]) (fs := (match Try.prog.underlying 46 with | some (.struct fs) => fs | _ => #[])) (by kernel_rfl) (by kernel_rfl) (by kernel_rfl) (by kernel_rfl) (by kernel_rfl)
instance : AL Try.prog 46 [.int .u16 0, .int .u16 0, .int .u32 0] := ⟨by kernel_rfl⟩
instance : CT Try.prog 47 none := ⟨by kernel_rfl⟩
instance : SZ Try.prog 47 1 := ⟨by kernel_rfl⟩
instance : AL Try.prog 47 [.nilFunc] := ⟨by kernel_rfl⟩
instance : CT Try.prog 48 none := ⟨by kernel_rfl⟩
instance : SZ Try.prog 48 1 := ⟨by kernel_rfl⟩
instance : AL Try.prog 48 [.nilFunc] := ⟨by kernel_rfl⟩
instance : CT Try.prog 49 none := ⟨by kernel_rfl⟩
instance : SZ Try.prog 49 1 := ⟨by kernel_rfl⟩
instance : CT Try.prog 50 none := ⟨by kernel_rfl⟩
instance : SZ Try.prog 50 1 := ⟨by kernel_rfl⟩
instance : AL Try.prog 50 [.nilFunc] := ⟨by kernel_rfl⟩
instance : CT Try.prog 51 none := ⟨by kernel_rfl⟩
instance : SZ Try.prog 51 1 := ⟨by kernel_rfl⟩
instance : AL Try.prog 51 [.nilFunc] := ⟨by kernel_rfl⟩
instance : CT Try.prog 52 none := ⟨by kernel_rfl⟩
instance : SZ Try.prog 52 1 := ⟨by kernel_rfl⟩
instance : AL Try.prog 52 [.nilFunc] := ⟨by kernel_rfl⟩
instance : CT Try.prog 53 none := ⟨by kernel_rfl⟩
instance : SZ Try.prog 53 1 := ⟨by kernel_rfl⟩
instance : EL Try.prog 53 (none, 1) := ⟨by kernel_rfl⟩
instance : UN Try.prog 53 (.slice 44) := ⟨by kernel_rfl⟩
instance : BS Try.prog 53 44 1 (.int .u32 0) := .of (by kernel_rfl) (by kernel_rfl) (by kernel_rfl) (by kernel_rfl) (by kernel_rfl)
instance : MK Try.prog 53 44 4 (.int .u32 0) := .of (inf := Try.t44) (by kernel_rfl) (by kernel_rfl) (by kernel_rfl) (by kernel_rfl) (by kernel_rfl) (by kernel_rfl) (by kernel_rfl)
instance : AP Try.prog 53 53 44 1 4 := .of (inf := Try.t44) (z := .int .u32 0) (e₂ := 44) (by kernel_rfl) (by kernel_rfl) (by kernel_rfl) (by kernel_rfl) (by kernel_rfl) (by kernel_rfl) (by decide) (by kernel_rfl) (by kernel_rfl)
instance : AL Try.prog 53 [.slice none 0 0] := ⟨by kernel_rfl⟩
instance : CT Try.prog 54 none := ⟨by kernel_rfl⟩
instance : SZ Try.prog 54 1 := ⟨by kernel_rfl⟩
instance : EL Try.prog 54 (none, 2) := ⟨by kernel_rfl⟩
instance : UN Try.prog 54 (.slice 82) := ⟨by kernel_rfl⟩
instance : BS Try.prog 54 82 2 (.agg #[.int .u16 0, .int .u16 0]) := .of (by kernel_rfl) (by kernel_rfl) (by kernel_rfl) (by kernel_rfl) (by kernel_rfl)
instance : AP Try.prog 54 54 82 2 4 := .of (inf := Try.t82) (z := .agg #[.int .u16 0, .int .u16 0]) (e₂ := 82) (by kernel_rfl) (by kernel_rfl) (by kernel_rfl) (by kernel_rfl) (by kernel_rfl) (by kernel_rfl) (by decide) (by kernel_rfl) (by kernel_rfl)
instance : AL Try.prog 54 [.slice none 0 0] := ⟨by kernel_rfl⟩
instance : CT Try.prog 55 none := ⟨by kernel_rfl⟩
instance : SZ Try.prog 55 1 := ⟨by kernel_rfl⟩
instance : EL Try.prog 55 (none, 2) := ⟨by kernel_rfl⟩
instance : UN Try.prog 55 (.slice 84) := ⟨by kernel_rfl⟩
instance : BS Try.prog 55 84 2 (.agg #[.int .u16 0, .slice none 0 0]) := .of (by kernel_rfl) (by kernel_rfl) (by kernel_rfl) (by kernel_rfl) (by kernel_rfl)
instance : AP Try.prog 55 55 84 2 32 := .of (inf := Try.t84) (z := .agg #[.int .u16 0, .slice none 0 0]) (e₂ := 84) (by kernel_rfl) (by kernel_rfl) (by kernel_rfl) (by kernel_rfl) (by kernel_rfl) (by kernel_rfl) (by decide) (by kernel_rfl) (by kernel_rfl)
instance : AL Try.prog 55 [.slice none 0 0] := ⟨by kernel_rfl⟩
instance : CT Try.prog 56 (some 15) := ⟨by kernel_rfl⟩
instance : SZ Try.prog 56 15 := ⟨by kernel_rfl⟩
instance : FO Try.prog 56 0 0 := ⟨by kernel_rfl⟩
instance : FO Try.prog 56 1 1 := ⟨by kernel_rfl⟩
instance : FO Try.prog 56 2 2 := ⟨by kernel_rfl⟩
instance : FO Try.prog 56 3 3 := ⟨by kernel_rfl⟩
instance : FO Try.prog 56 4 4 := ⟨by kernel_rfl⟩
instance : FO Try.prog 56 5 5 := ⟨by kernel_rfl⟩
instance : FO Try.prog 56 6 6 := ⟨by kernel_rfl⟩
instance : FO Try.prog 56 7 7 := ⟨by kernel_rfl⟩
instance : FO Try.prog 56 8 8 := ⟨by kernel_rfl⟩
instance : FO Try.prog 56 9 9 := ⟨by kernel_rfl⟩
instance : FO Try.prog 56 10 10 := ⟨by kernel_rfl⟩
instance : FO Try.prog 56 11 11 := ⟨by kernel_rfl⟩
instance : FO Try.prog 56 12 12 := ⟨by kernel_rfl⟩
instance : FO Try.prog 56 13 13 := ⟨by kernel_rfl⟩
instance : FO Try.prog 56 14 14 := ⟨by kernel_rfl⟩
instance : ST Try.prog 56 [.int .u8 0, .int .u8 0, .int .u32 0, .int .u32 0, .int .u32 0, .int .u16 0, .int .u16 0, .int .u16 0, .int .u16 0, .int .u32 0, .slice none 0 0, .slice none 0 0, .slice none 0 0, .slice none 0 0, .slice none 0 0] [(0, 1), (1, 1), (2, 1), (3, 1), (4, 1), (5, 1), (6, 1), (7, 1), (8, 1), (9, 1), (10, 1), (11, 1), (12, 1), (13, 1), (14, 1)] := .of (z := .agg #[.int .u8 0, .int .u8 0, .int .u32 0, .int .u32 0, .int .u32 0, .int .u16 0, .int .u16 0, .int .u16 0, .int .u16 0, .int .u32 0, .slice none 0 0, .slice none 0 0, .slice none 0 0, .slice none 0 0, .slice none 0 0]) (fs := (match Try.prog.underlying 56 with | some (.struct fs) => fs | _ => #[])) (by kernel_rfl) (by kernel_rfl) (by kernel_rfl) (by kernel_rfl) (by kernel_rfl)
instance : AL Try.prog 56 [.int .u8 0, .int .u8 0, .int .u32 0, .int .u32 0, .int .u32 0, .int .u16 0, .int .u16 0, .int .u16 0, .int .u16 0, .int .u32 0, .slice none 0 0, .slice none 0 0, .slice none 0 0, .slice none 0 0, .slice none 0 0] := ⟨by kernel_rfl⟩
instance : CT Try.prog 57 (some 15) := ⟨by kernel_rfl⟩
instance : SZ Try.prog 57 15 := ⟨by kernel_rfl⟩
instance : FO Try.prog 57 0 0 := ⟨by kernel_rfl⟩
instance : FO Try.prog 57 1 1 := ⟨by kernel_rfl⟩
instance : FO Try.prog 57 2 2 := ⟨by kernel_rfl⟩
instance : FO Try.prog 57 3 3 := ⟨by kernel_rfl⟩
instance : FO Try.prog 57 4 4 := ⟨by kernel_rfl⟩
instance : FO Try.prog 57 5 5 := ⟨by kernel_rfl⟩
instance : FO Try.prog 57 6 6 := ⟨by kernel_rfl⟩
instance : FO Try.prog 57 7 7 := ⟨by kernel_rfl⟩
instance : FO Try.prog 57 8 8 := ⟨by kernel_rfl⟩
instance : FO Try.prog 57 9 9 := ⟨by kernel_rfl⟩
instance : FO Try.prog 57 10 10 := ⟨by kernel_rfl⟩
instance : FO Try.prog 57 11 11 := ⟨by kernel_rfl⟩
instance : FO Try.prog 57 12 12 := ⟨by kernel_rfl⟩
instance : FO Try.prog 57 13 13 := ⟨by kernel_rfl⟩
instance : FO Try.prog 57 14 14 := ⟨by kernel_rfl⟩
instance : ST Try.prog 57 [.int .u8 0, .int .u8 0, .int .u32 0, .int .u32 0, .int .u32 0, .int .u16 0, .int .u16 0, .int .u16 0, .int .u16 0, .int .u32 0, .slice none 0 0, .slice none 0 0, .slice none 0 0, .slice none 0 0, .slice none 0 0] [(0, 1), (1, 1), (2, 1), (3, 1), (4, 1), (5, 1), (6, 1), (7, 1), (8, 1), (9, 1), (10, 1), (11, 1), (12, 1), (13, 1), (14, 1)] := .of (z := .agg #[.int .u8 0, .int .u8 0, .int .u32 0, .int .u32 0, .int .u32 0, .int .u16 0, .int .u16 0, .int .u16 0, .int .u16 0, .int .u32 0, .slice none 0 0, .slice none 0 0, .slice none 0 0, .slice none 0 0, .slice none 0 0]) (fs := (match Try.prog.underlying 57 with | some (.struct fs) => fs | _ => #[])) (by kernel_rfl) (by kernel_rfl) (by kernel_rfl) (by kernel_rfl) (by kernel_rfl)
instance : AL Try.prog 57 [.int .u8 0, .int .u8 0, .int .u32 0, .int .u32 0, .int .u32 0, .int .u16 0, .int .u16 0, .int .u16 0, .int .u16 0, .int .u32 0, .slice none 0 0, .slice none 0 0, .slice none 0 0, .slice none 0 0, .slice none 0 0] := ⟨by kernel_rfl⟩
instance : CT Try.prog 58 none := ⟨by kernel_rfl⟩
instance : SZ Try.prog 58 1 := ⟨by kernel_rfl⟩
instance : AL Try.prog 58 [.nilFunc] := ⟨by kernel_rfl⟩
instance : CT Try.prog 59 none := ⟨by kernel_rfl⟩
instance : SZ Try.prog 59 1 := ⟨by kernel_rfl⟩
instance : AL Try.prog 59 [.nilFunc] := ⟨by kernel_rfl⟩
instance : CT Try.prog 60 none := ⟨by kernel_rfl⟩
instance : SZ Try.prog 60 1 := ⟨by kernel_rfl⟩
instance : CT Try.prog 61 none := ⟨by kernel_rfl⟩
instance : SZ Try.prog 61 1 := ⟨by kernel_rfl⟩
instance : AL Try.prog 61 [.nilFunc] := ⟨by kernel_rfl⟩
instance : CT Try.prog 62 none := ⟨by kernel_rfl⟩
instance : SZ Try.prog 62 1 := ⟨by kernel_rfl⟩
instance : AL Try.prog 62 [.nilFunc] := ⟨by kernel_rfl⟩
instance : CT Try.prog 63 none := ⟨by kernel_rfl⟩
instance : SZ Try.prog 63 1 := ⟨by kernel_rfl⟩
instance : AL Try.prog 63 [.nilFunc] := ⟨by kernel_rfl⟩
instance : CT Try.prog 64 none := ⟨by kernel_rfl⟩
instance : SZ Try.prog 64 1 := ⟨by kernel_rfl⟩
instance : AL Try.prog 64 [.nilFunc] := ⟨by kernel_rfl⟩
instance : CT Try.prog 65 none := ⟨by kernel_rfl⟩
instance : SZ Try.prog 65 1 := ⟨by kernel_rfl⟩
instance : AL Try.prog 65 [.nilFunc] := ⟨by kernel_rfl⟩
instance : CT Try.prog 66 none := ⟨by kernel_rfl⟩
instance : SZ Try.prog 66 1 := ⟨by kernel_rfl⟩
theorem un66 : Try.prog.underlying 66 = some (.int .u64) := by kernel_rfl
instance : AL Try.prog 66 [.int .u64 0] := ⟨by kernel_rfl⟩
instance : CT Try.prog 67 none := ⟨by kernel_rfl⟩
instance : SZ Try.prog 67 1 := ⟨by kernel_rfl⟩
instance : AL Try.prog 67 [.nilFunc] := ⟨by kernel_rfl⟩
instance : CT Try.prog 68 none := ⟨by kernel_rfl⟩
instance : SZ Try.prog 68 1 := ⟨by kernel_rfl⟩
instance : EL Try.prog 68 (none, 1) := ⟨by kernel_rfl⟩
instance : UN Try.prog 68 (.slice 23) := ⟨by kernel_rfl⟩
instance : BS Try.prog 68 23 1 (.slice none 0 0) := .of (by kernel_rfl) (by kernel_rfl) (by kernel_rfl) (by kernel_rfl) (by kernel_rfl)
instance : MK Try.prog 68 23 24 (.slice none 0 0) := .of (inf := Try.t23) (by kernel_rfl) (by kernel_rfl) (by kernel_rfl) (by kernel_rfl) (by kernel_rfl) (by kernel_rfl) (by kernel_rfl)
instance : AP Try.prog 68 68 23 1 24 := .of (inf := Try.t23) (z := .slice none 0 0) (e₂ := 23) (by kernel_rfl) (by kernel_rfl) (by kernel_rfl) (by kernel_rfl) (by kernel_rfl) (by kernel_rfl) (by decide) (by kernel_rfl) (by kernel_rfl)
instance : AL Try.prog 68 [.slice none 0 0] := ⟨by kernel_rfl⟩
instance : CT Try.prog 69 none := ⟨by kernel_rfl⟩
instance : SZ Try.prog 69 1 := ⟨by kernel_rfl⟩
instance : AL Try.prog 69 [.nilFunc] := ⟨by kernel_rfl⟩
instance : CT Try.prog 70 none := ⟨by kernel_rfl⟩
instance : SZ Try.prog 70 1 := ⟨by kernel_rfl⟩
theorem un70 : Try.prog.underlying 70 = some (.int .u64) := by kernel_rfl
instance : AL Try.prog 70 [.int .u64 0] := ⟨by kernel_rfl⟩
instance : CT Try.prog 71 none := ⟨by kernel_rfl⟩
instance : SZ Try.prog 71 1 := ⟨by kernel_rfl⟩
instance : AL Try.prog 71 [.nilFunc] := ⟨by kernel_rfl⟩
instance : CT Try.prog 72 none := ⟨by kernel_rfl⟩
instance : SZ Try.prog 72 1 := ⟨by kernel_rfl⟩
instance : CT Try.prog 73 none := ⟨by kernel_rfl⟩
instance : SZ Try.prog 73 1 := ⟨by kernel_rfl⟩
instance : AL Try.prog 73 [.nilFunc] := ⟨by kernel_rfl⟩
instance : CT Try.prog 74 none := ⟨by kernel_rfl⟩
instance : SZ Try.prog 74 1 := ⟨by kernel_rfl⟩
instance : AL Try.prog 74 [.nilFunc] := ⟨by kernel_rfl⟩
instance : CT Try.prog 75 none := ⟨by kernel_rfl⟩
instance : SZ Try.prog 75 1 := ⟨by kernel_rfl⟩
instance : AL Try.prog 75 [.nilFunc] := ⟨by kernel_rfl⟩
instance : CT Try.prog 76 none := ⟨by kernel_rfl⟩
instance : SZ Try.prog 76 1 := ⟨by kernel_rfl⟩
instance : AL Try.prog 76 [.nilFunc] := ⟨by kernel_rfl⟩
instance : CT Try.prog 77 none := ⟨by kernel_rfl⟩
instance : SZ Try.prog 77 1 := ⟨by kernel_rfl⟩
instance : AL Try.prog 77 [.nilFunc] := ⟨by kernel_rfl⟩
instance : CT Try.prog 78 none := ⟨by kernel_rfl⟩
instance : SZ Try.prog 78 1 := ⟨by kernel_rfl⟩
instance : AL Try.prog 78 [.nilFunc] := ⟨by kernel_rfl⟩
instance : CT Try.prog 79 none := ⟨by kernel_rfl⟩
instance : SZ Try.prog 79 1 := ⟨by kernel_rfl⟩
instance : AL Try.prog 79 [.nilFunc] := ⟨by kernel_rfl⟩
instance : CT Try.prog 80 none := ⟨by kernel_rfl⟩
instance : SZ Try.prog 80 1 := ⟨by kernel_rfl⟩
instance : AL Try.prog 80 [.nilFunc] := ⟨by kernel_rfl⟩
instance : CT Try.prog 81 (some 2) := ⟨by kernel_rfl⟩
instance : SZ Try.prog 81 2 := ⟨by kernel_rfl⟩
instance : FO Try.prog 81 0 0 := ⟨by kernel_rfl⟩
instance : FO Try.prog 81 1 1 := ⟨by kernel_rfl⟩
instance : ST Try.prog 81 [.int .u16 0, .int .u16 0] [(0, 1), (1, 1)] := .of (z := .agg #[.int .u16 0, .int .u16 0]) (fs := (match Try.prog.underlying 81 with | some (.struct fs) => fs | _ => #[])) (by kernel_rfl) (by kernel_rfl) (by kernel_rfl) (by kernel_rfl) (by kernel_rfl)
instance : AL Try.prog 81 [.int .u16 0, .int .u16 0] := ⟨by kernel_rfl⟩
instance : CT Try.prog 82 (some 2) := ⟨by kernel_rfl⟩
instance : SZ Try.prog 82 2 := ⟨by kernel_rfl⟩
instance : FO Try.prog 82 0 0 := ⟨by kernel_rfl⟩
instance : FO Try.prog 82 1 1 := ⟨by kernel_rfl⟩
instance : ST Try.prog 82 [.int .u16 0, .int .u16 0] [(0, 1), (1, 1)] := .of (z := .agg #[.int .u16 0, .int .u16 0]) (fs := (match Try.prog.underlying 82 with | some (.struct fs) => fs | _ => #[])) (by kernel_rfl) (by kernel_rfl) (by kernel_rfl) (by kernel_rfl) (by kernel_rfl)
instance : AL Try.prog 82 [.int .u16 0, .int .u16 0] := ⟨by kernel_rfl⟩
instance : CT Try.prog 83 (some 2) := ⟨by kernel_rfl⟩
instance : SZ Try.prog 83 2 := ⟨by kernel_rfl⟩
instance : FO Try.prog 83 0 0 := ⟨by kernel_rfl⟩
instance : FO Try.prog 83 1 1 := ⟨by kernel_rfl⟩
instance : ST Try.prog 83 [.int .u16 0, .slice none 0 0] [(0, 1), (1, 1)] := .of (z := .agg #[.int .u16 0, .slice none 0 0]) (fs := (match Try.prog.underlying 83 with | some (.struct fs) => fs | _ => #[])) (by kernel_rfl) (by kernel_rfl) (by kernel_rfl) (by kernel_rfl) (by kernel_rfl)
instance : AL Try.prog 83 [.int .u16 0, .slice none 0 0] := ⟨by kernel_rfl⟩
instance : CT Try.prog 84 (some 2) := ⟨by kernel_rfl⟩
instance : SZ Try.prog 84 2 := ⟨by kernel_rfl⟩
instance : FO Try.prog 84 0 0 := ⟨by kernel_rfl⟩
instance : FO Try.prog 84 1 1 := ⟨by kernel_rfl⟩
instance : ST Try.prog 84 [.int .u16 0, .slice none 0 0] [(0, 1), (1, 1)] := .of (z := .agg #[.int .u16 0, .slice none 0 0]) (fs := (match Try.prog.underlying 84 with | some (.struct fs) => fs | _ => #[])) (by kernel_rfl) (by kernel_rfl) (by kernel_rfl) (by kernel_rfl) (by kernel_rfl)
instance : AL Try.prog 84 [.int .u16 0, .slice none 0 0] := ⟨by kernel_rfl⟩
instance : CT Try.prog 85 none := ⟨by kernel_rfl⟩
instance : SZ Try.prog 85 1 := ⟨by kernel_rfl⟩
instance : AL Try.prog 85 [.pointer none] := ⟨by kernel_rfl⟩
instance : CT Try.prog 86 (some 2) := ⟨by kernel_rfl⟩
instance : SZ Try.prog 86 2 := ⟨by kernel_rfl⟩
instance : FO Try.prog 86 0 0 := ⟨by kernel_rfl⟩
instance : FO Try.prog 86 1 1 := ⟨by kernel_rfl⟩
instance : ST Try.prog 86 [.slice none 0 0, .int .i64 0] [(0, 1), (1, 1)] := .of (z := .agg #[.slice none 0 0, .int .i64 0]) (fs := (match Try.prog.underlying 86 with | some (.struct fs) => fs | _ => #[])) (by kernel_rfl) (by kernel_rfl) (by kernel_rfl) (by kernel_rfl) (by kernel_rfl)
instance : AL Try.prog 86 [.slice none 0 0, .int .i64 0] := ⟨by kernel_rfl⟩
instance : CT Try.prog 87 (some 2) := ⟨by kernel_rfl⟩
instance : SZ Try.prog 87 2 := ⟨by kernel_rfl⟩
instance : FO Try.prog 87 0 0 := ⟨by kernel_rfl⟩
instance : FO Try.prog 87 1 1 := ⟨by kernel_rfl⟩
instance : ST Try.prog 87 [.slice none 0 0, .int .i64 0] [(0, 1), (1, 1)] := .of (z := .agg #[.slice none 0 0, .int .i64 0]) (fs := (match Try.prog.underlying 87 with | some (.struct fs) => fs | _ => #[])) (by kernel_rfl) (by kernel_rfl) (by kernel_rfl) (by kernel_rfl) (by kernel_rfl)
instance : AL Try.prog 87 [.slice none 0 0, .int .i64 0] := ⟨by kernel_rfl⟩
instance : CT Try.prog 88 none := ⟨by kernel_rfl⟩
instance : SZ Try.prog 88 1 := ⟨by kernel_rfl⟩
instance : AL Try.prog 88 [.nilFunc] := ⟨by kernel_rfl⟩
instance : CT Try.prog 89 none := ⟨by kernel_rfl⟩
instance : SZ Try.prog 89 1 := ⟨by kernel_rfl⟩
instance : AL Try.prog 89 [.nilFunc] := ⟨by kernel_rfl⟩
instance : CT Try.prog 90 none := ⟨by kernel_rfl⟩
instance : SZ Try.prog 90 1 := ⟨by kernel_rfl⟩
instance : AL Try.prog 90 [.nilFunc] := ⟨by kernel_rfl⟩
instance : CT Try.prog 91 none := ⟨by kernel_rfl⟩
instance : SZ Try.prog 91 1 := ⟨by kernel_rfl⟩
instance : AL Try.prog 91 [.nilFunc] := ⟨by kernel_rfl⟩
instance : CT Try.prog 92 none := ⟨by kernel_rfl⟩
instance : SZ Try.prog 92 1 := ⟨by kernel_rfl⟩
instance : AL Try.prog 92 [.nilFunc] := ⟨by kernel_rfl⟩
instance : CT Try.prog 93 none := ⟨by kernel_rfl⟩
instance : SZ Try.prog 93 1 := ⟨by kernel_rfl⟩
instance : AL Try.prog 93 [.nilFunc] := ⟨by kernel_rfl⟩
instance : CT Try.prog 94 none := ⟨by kernel_rfl⟩
instance : SZ Try.prog 94 1 := ⟨by kernel_rfl⟩
instance : AL Try.prog 94 [.pointer none] := ⟨by kernel_rfl⟩
instance : CT Try.prog 95 (some 2) := ⟨by kernel_rfl⟩
instance : SZ Try.prog 95 2 := ⟨by kernel_rfl⟩
instance : FO Try.prog 95 0 0 := ⟨by kernel_rfl⟩
instance : FO Try.prog 95 1 1 := ⟨by kernel_rfl⟩
instance : ST Try.prog 95 [.slice none 0 0, .bool false] [(0, 1), (1, 1)] := .of (z := .agg #[.slice none 0 0, .bool false]) (fs := (match Try.prog.underlying 95 with | some (.struct fs) => fs | _ => #[])) (by kernel_rfl) (by kernel_rfl) (by kernel_rfl) (by kernel_rfl) (by kernel_rfl)
instance : AL Try.prog 95 [.slice none 0 0, .bool false] := ⟨by kernel_rfl⟩
instance : CT Try.prog 96 (some 2) := ⟨by kernel_rfl⟩
instance : SZ Try.prog 96 2 := ⟨by kernel_rfl⟩
instance : FO Try.prog 96 0 0 := ⟨by kernel_rfl⟩
instance : FO Try.prog 96 1 1 := ⟨by kernel_rfl⟩
instance : ST Try.prog 96 [.slice none 0 0, .bool false] [(0, 1), (1, 1)] := .of (z := .agg #[.slice none 0 0, .bool false]) (fs := (match Try.prog.underlying 96 with | some (.struct fs) => fs | _ => #[])) (by kernel_rfl) (by kernel_rfl) (by kernel_rfl) (by kernel_rfl) (by kernel_rfl)
instance : AL Try.prog 96 [.slice none 0 0, .bool false] := ⟨by kernel_rfl⟩
instance : CT Try.prog 97 none := ⟨by kernel_rfl⟩
instance : SZ Try.prog 97 1 := ⟨by kernel_rfl⟩
instance : AL Try.prog 97 [.nilFunc] := ⟨by kernel_rfl⟩
instance : CT Try.prog 98 none := ⟨by kernel_rfl⟩
instance : SZ Try.prog 98 1 := ⟨by kernel_rfl⟩
instance : AL Try.prog 98 [.nilFunc] := ⟨by kernel_rfl⟩
instance : CT Try.prog 99 none := ⟨by kernel_rfl⟩
instance : SZ Try.prog 99 1 := ⟨by kernel_rfl⟩
instance : AL Try.prog 99 [.nilFunc] := ⟨by kernel_rfl⟩
instance : CT Try.prog 100 none := ⟨by kernel_rfl⟩
instance : SZ Try.prog 100 1 := ⟨by kernel_rfl⟩
instance : AL Try.prog 100 [.nilFunc] := ⟨by kernel_rfl⟩
instance : CT Try.prog 101 none := ⟨by kernel_rfl⟩
instance : SZ Try.prog 101 1 := ⟨by kernel_rfl⟩
instance : AL Try.prog 101 [.pointer none] := ⟨by kernel_rfl⟩
instance : CT Try.prog 102 none := ⟨by kernel_rfl⟩
instance : SZ Try.prog 102 1 := ⟨by kernel_rfl⟩
instance : AL Try.prog 102 [.nilFunc] := ⟨by kernel_rfl⟩
instance : CT Try.prog 103 none := ⟨by kernel_rfl⟩
instance : SZ Try.prog 103 1 := ⟨by kernel_rfl⟩
instance : CT Try.prog 104 none := ⟨by kernel_rfl⟩
instance : SZ Try.prog 104 1 := ⟨by kernel_rfl⟩
instance : AL Try.prog 104 [.nilFunc] := ⟨by kernel_rfl⟩
instance : CT Try.prog 105 none := ⟨by kernel_rfl⟩
instance : SZ Try.prog 105 1 := ⟨by kernel_rfl⟩
instance : AL Try.prog 105 [.nilFunc] := ⟨by kernel_rfl⟩
instance : CT Try.prog 106 none := ⟨by kernel_rfl⟩
instance : SZ Try.prog 106 1 := ⟨by kernel_rfl⟩
instance : AL Try.prog 106 [.nilFunc] := ⟨by kernel_rfl⟩
instance : CT Try.prog 107 none := ⟨by kernel_rfl⟩
instance : SZ Try.prog 107 1 := ⟨by kernel_rfl⟩
instance : EL Try.prog 107 (none, 1) := ⟨by kernel_rfl⟩
instance : UN Try.prog 107 (.slice 22) := ⟨by kernel_rfl⟩
instance : BS Try.prog 107 22 1 (.int .u16 0) := .of (by kernel_rfl) (by kernel_rfl) (by kernel_rfl) (by kernel_rfl) (by kernel_rfl)
instance : MK Try.prog 107 22 2 (.int .u16 0) := .of (inf := Try.t22) (by kernel_rfl) (by kernel_rfl) (by kernel_rfl) (by kernel_rfl) (by kernel_rfl) (by kernel_rfl) (by kernel_rfl)
instance : AP Try.prog 107 107 22 1 2 := .of (inf := Try.t22) (z := .int .u16 0) (e₂ := 22) (by kernel_rfl) (by kernel_rfl) (by kernel_rfl) (by kernel_rfl) (by kernel_rfl) (by kernel_rfl) (by decide) (by kernel_rfl) (by kernel_rfl)
instance : AL Try.prog 107 [.slice none 0 0] := ⟨by kernel_rfl⟩
instance : CT Try.prog 108 none := ⟨by kernel_rfl⟩
instance : SZ Try.prog 108 1 := ⟨by kernel_rfl⟩
instance : AL Try.prog 108 [.nilFunc] := ⟨by kernel_rfl⟩
instance : CT Try.prog 109 none := ⟨by kernel_rfl⟩
instance : SZ Try.prog 109 1 := ⟨by kernel_rfl⟩
instance : AL Try.prog 109 [.nilFunc] := ⟨by kernel_rfl⟩
instance : CT Try.prog 110 none := ⟨by kernel_rfl⟩
instance : SZ Try.prog 110 1 := ⟨by kernel_rfl⟩
instance : AL Try.prog 110 [.nilFunc] := ⟨by kernel_rfl⟩
instance : CT Try.prog 111 (some 256) := ⟨by kernel_rfl⟩
instance : SZ Try.prog 111 256 := ⟨by kernel_rfl⟩
instance : EL Try.prog 111 (some 256, 1) := ⟨by kernel_rfl⟩
instance : AL Try.prog 111 [.int .u32 0, .int .u32 0, .int .u32 0, .int .u32 0, .int .u32 0, .int .u32 0, .int .u32 0, .int .u32 0, .int .u32 0, .int .u32 0, .int .u32 0, .int .u32 0, .int .u32 0, .int .u32 0, .int .u32 0, .int .u32 0, .int .u32 0, .int .u32 0, .int .u32 0, .int .u32 0, .int .u32 0, .int .u32 0, .int .u32 0, .int .u32 0, .int .u32 0, .int .u32 0, .int .u32 0, .int .u32 0, .int .u32 0, .int .u32 0, .int .u32 0, .int .u32 0, .int .u32 0, .int .u32 0, .int .u32 0, .int .u32 0, .int .u32 0, .int .u32 0, .int .u32 0, .int .u32 0, .int .u32 0, .int .u32 0, .int .u32 0, .int .u32 0, .int .u32 0, .int .u32 0, .int .u32 0, .int .u32 0, .int .u32 0, .int .u32 0, .int .u32 0, .int .u32 0, .int .u32 0, .int .u32 0, .int .u32 0, .int .u32 0, .int .u32 0, .int .u32 0, .int .u32 0, .int .u32 0, .int .u32 0, .int .u32 0, .int .u32 0, .int .u32 0, .int .u32 0, .int .u32 0, .int .u32 0, .int .u32 0, .int .u32 0, .int .u32 0, .int .u32 0, .int .u32 0, .int .u32 0, .int .u32 0, .int .u32 0, .int .u32 0, .int .u32 0, .int .u32 0, .int .u32 0, .int .u32 0, .int .u32 0, .int .u32 0, .int .u32 0, .int .u32 0, .int .u32 0, .int .u32 0, .int .u32 0, .int .u32 0, .int .u32 0, .int .u32 0, .int .u32 0, .int .u32 0, .int .u32 0, .int .u32 0, .int .u32 0, .int .u32 0, .int .u32 0, .int .u32 0, .int .u32 0, .int .u32 0, .int .u32 0, .int .u32 0, .int .u32 0, .int .u32 0, .int .u32 0, .int .u32 0, .int .u32 0, .int .u32 0, .int .u32 0, .int .u32 0, .int .u32 0, .int .u32 0, .int .u32 0, .int .u32 0, .int .u32 0, .int .u32 0, .int .u32 0, .int .u32 0, .int .u32 0, .int .u32 0, .int .u32 0, .int .u32 0, .int .u32 0, .int .u32 0, .int .u32 0, .int .u32 0, .int .u32 0, .int .u32 0, .int .u32 0, .int .u32 0, .int .u32 0, .int .u32 0, .int .u32 0, .int .u32 0, .int .u32 0, .int .u32 0, .int .u32 0, .int .u32 0, .int .u32 0, .int .u32 0, .int .u32 0, .int .u32 0, .int .u32 0, .int .u32 0, .int .u32 0, .int .u32 0, .int .u32 0, .int .u32 0, .int .u32 0, .int .u32 0, .int .u32 0, .int .u32 0, .int .u32 0, .int .u32 0, .int .u32 0, .int .u32 0, .int .u32 0, .int .u32 0, .int .u32 0, .int .u32 0, .int .u32 0, .int .u32 0, .int .u32 0, .int .u32 0, .int .u32 0, .int .u32 0, .int .u32 0, .int .u32 0, .int .u32 0, .int .u32 0, .int .u32 0, .int .u32 0, .int .u32 0, .int .u32 0, .int .u32 0, .int .u32 0, .int .u32 0, .int .u32 0, .int .u32 0, .int .u32 0, .int .u32 0, .int .u32 0, .int .u32 0, .int .u32 0, .int .u32 0, .int .u32 0, .int .u32 0, .int .u32 0, .int .u32 0, .int .u32 0, .int .u32 0, .int .u32 0, .int .u32 0, .int .u32 0, .int .u32 0, .int .u32 0, .int .u32 0, .int .u32 0, .int .u32 0, .int .u32 0, .int .u32 0, .int .u32 0, .int .u32 0, .int .u32 0, .int .u32 0, .int .u32 0, .int .u32 0, .int .u32 0, .int .u32 0, .int .u32 0, .int .u32 0, .int .u32 0, .int .u32 0, .int .u32 0, .int .u32 0, .int .u32 0, .int .u32 0, .int .u32 0, .int .u32 0, .int .u32 0, .int .u32 0, .int .u32 0, .int .u32 0, .int .u32 0, .int .u32 0, .int .u32 0, .int .u32 0, .int .u32 0, .int .u32 0, .int .u32 0, .int .u32 0, .int .u32 0, .int .u32 0, .int .u32 0, .int .u32 0, .int .u32 0, .int .u32 0, .int .u32 0, .int .u32 0, .int .u32 0, .int .u32 0, .int .u32 0, .int .u32 0, .int .u32 0, .int .u32 0, .int .u32 0, .int .u32 0, .int .u32 0, .int .u32 0, .int .u32 0, .int .u32 0, .int .u32 0, .int .u32 0, .int .u32 0, .int .u32 0, .int .u32 0] := ⟨by kernel_rfl⟩
instance : CT Try.prog 112 none := ⟨by kernel_rfl⟩
instance : SZ Try.prog 112 1 := ⟨by kernel_rfl⟩
instance : AL Try.prog 112 [.nilFunc] := ⟨by kernel_rfl⟩
instance : CT Try.prog 113 none := ⟨by kernel_rfl⟩
instance : SZ Try.prog 113 1 := ⟨by kernel_rfl⟩
instance : AL Try.prog 113 [.nilFunc] := ⟨by kernel_rfl⟩
instance : CT Try.prog 114 none := ⟨by kernel_rfl⟩
instance : SZ Try.prog 114 1 := ⟨by kernel_rfl⟩
instance : AL Try.prog 114 [.nilFunc] := ⟨by kernel_rfl⟩
instance : CT Try.prog 115 (some 4) := ⟨by kernel_rfl⟩
instance : SZ Try.prog 115 4 := ⟨by kernel_rfl⟩
instance : FO Try.prog 115 0 0 := ⟨by kernel_rfl⟩
instance : FO Try.prog 115 1 1 := ⟨by kernel_rfl⟩
instance : FO Try.prog 115 2 2 := ⟨by kernel_rfl⟩
instance : FO Try.prog 115 3 3 := ⟨by kernel_rfl⟩
instance : ST Try.prog 115 [.pointer none, .pointer none, .pointer none, .string ⟨#[]⟩] [(0, 1), (1, 1), (2, 1), (3, 1)] := .of (z := .agg #[.pointer none, .pointer none, .pointer none, .string ⟨#[]⟩]) (fs := (match Try.prog.underlying 115 with | some (.struct fs) => fs | _ => #[])) (by kernel_rfl) (by kernel_rfl) (by kernel_rfl) (by kernel_rfl) (by kernel_rfl)
instance : AL Try.prog 115 [.pointer none, .pointer none, .pointer none, .string ⟨#[]⟩] := ⟨by kernel_rfl⟩
instance : CT Try.prog 116 (some 4) := ⟨by kernel_rfl⟩
instance : SZ Try.prog 116 4 := ⟨by kernel_rfl⟩
instance : FO Try.prog 116 0 0 := ⟨by kernel_rfl⟩
instance : FO Try.prog 116 1 1 := ⟨by kernel_rfl⟩
instance : FO Try.prog 116 2 2 := ⟨by kernel_rfl⟩
instance : FO Try.prog 116 3 3 := ⟨by kernel_rfl⟩
instance : ST Try.prog 116 [.pointer none, .pointer none, .pointer none, .string ⟨#[]⟩] [(0, 1), (1, 1), (2, 1), (3, 1)] := .of (z := .agg #[.pointer none, .pointer none, .pointer none, .string ⟨#[]⟩]) (fs := (match Try.prog.underlying 116 with | some (.struct fs) => fs | _ => #[])) (by kernel_rfl) (by kernel_rfl) (by kernel_rfl) (by kernel_rfl) (by kernel_rfl)
instance : AL Try.prog 116 [.pointer none, .pointer none, .pointer none, .string ⟨#[]⟩] := ⟨by kernel_rfl⟩
instance : CT Try.prog 117 (some 0) := ⟨by kernel_rfl⟩
instance : SZ Try.prog 117 0 := ⟨by kernel_rfl⟩
instance : EL Try.prog 117 (some 0, 1) := ⟨by kernel_rfl⟩
instance : AL Try.prog 117 [] := ⟨by kernel_rfl⟩
instance : CT Try.prog 118 (some 0) := ⟨by kernel_rfl⟩
instance : SZ Try.prog 118 0 := ⟨by kernel_rfl⟩
instance : ST Try.prog 118 [] [(0, 0)] := .of (z := .agg #[]) (fs := (match Try.prog.underlying 118 with | some (.struct fs) => fs | _ => #[])) (by kernel_rfl) (by kernel_rfl) (by kernel_rfl) (by kernel_rfl) (by kernel_rfl)
instance : AL Try.prog 118 [] := ⟨by kernel_rfl⟩
instance : CT Try.prog 119 (some 0) := ⟨by kernel_rfl⟩
instance : SZ Try.prog 119 0 := ⟨by kernel_rfl⟩
instance : ST Try.prog 119 [] [(0, 0)] := .of (z := .agg #[]) (fs := (match Try.prog.underlying 119 with | some (.struct fs) => fs | _ => #[])) (by kernel_rfl) (by kernel_rfl) (by kernel_rfl) (by kernel_rfl) (by kernel_rfl)
instance : AL Try.prog 119 [] := ⟨by kernel_rfl⟩
instance : CT Try.prog 120 none := ⟨by kernel_rfl⟩
instance : SZ Try.prog 120 1 := ⟨by kernel_rfl⟩
instance : AL Try.prog 120 [.nilFunc] := ⟨by kernel_rfl⟩
instance : CT Try.prog 121 none := ⟨by kernel_rfl⟩
instance : SZ Try.prog 121 1 := ⟨by kernel_rfl⟩
theorem un121 : Try.prog.underlying 121 = some (.int .u8) := by kernel_rfl
instance : AL Try.prog 121 [.int .u8 0] := ⟨by kernel_rfl⟩
instance : CT Try.prog 122 none := ⟨by kernel_rfl⟩
instance : SZ Try.prog 122 1 := ⟨by kernel_rfl⟩
theorem un122 : Try.prog.underlying 122 = some (.int .u8) := by kernel_rfl
instance : AL Try.prog 122 [.int .u8 0] := ⟨by kernel_rfl⟩
instance : CT Try.prog 123 none := ⟨by kernel_rfl⟩
instance : SZ Try.prog 123 1 := ⟨by kernel_rfl⟩
instance : AL Try.prog 123 [.nilFunc] := ⟨by kernel_rfl⟩
instance : CT Try.prog 124 none := ⟨by kernel_rfl⟩
instance : SZ Try.prog 124 1 := ⟨by kernel_rfl⟩
instance : AL Try.prog 124 [.pointer none] := ⟨by kernel_rfl⟩
instance : CT Try.prog 125 none := ⟨by kernel_rfl⟩
instance : SZ Try.prog 125 1 := ⟨by kernel_rfl⟩
theorem un125 : Try.prog.underlying 125 = some (.int .i32) := by kernel_rfl
instance : AL Try.prog 125 [.int .i32 0] := ⟨by kernel_rfl⟩
instance : CT Try.prog 126 none := ⟨by kernel_rfl⟩
instance : SZ Try.prog 126 1 := ⟨by kernel_rfl⟩
theorem un126 : Try.prog.underlying 126 = some (.int .i32) := by kernel_rfl
instance : AL Try.prog 126 [.int .i32 0] := ⟨by kernel_rfl⟩
instance : CT Try.prog 127 (some 11) := ⟨by kernel_rfl⟩
instance : SZ Try.prog 127 11 := ⟨by kernel_rfl⟩
instance : FO Try.prog 127 0 0 := ⟨by kernel_rfl⟩
instance : FO Try.prog 127 1 1 := ⟨by kernel_rfl⟩
instance : FO Try.prog 127 2 2 := ⟨by kernel_rfl⟩
instance : FO Try.prog 127 3 3 := ⟨by kernel_rfl⟩
instance : FO Try.prog 127 4 4 := ⟨by kernel_rfl⟩
instance : FO Try.prog 127 5 5 := ⟨by kernel_rfl⟩
instance : FO Try.prog 127 6 6 := ⟨by kernel_rfl⟩
instance : FO Try.prog 127 7 7 := ⟨by kernel_rfl⟩
instance : FO Try.prog 127 8 8 := ⟨by kernel_rfl⟩
instance : FO Try.prog 127 9 9 := ⟨by kernel_rfl⟩
instance : FO Try.prog 127 10 10 := ⟨by kernel_rfl⟩
instance : ST Try.prog 127 [.int .u64 0, .int .u64 0, .int .u32 0, .int .u8 0, .int .u8 0, .int .u8 0, .int .u8 0, .nilFunc, .pointer none, .int .i32 0, .int .i32 0] [(0, 1), (1, 1), (2, 1), (3, 1), (4, 1), (5, 1), (6, 1), (7, 1), (8, 1), (9, 1), (10, 1)] := .of (z := .agg #[.int .u64 0, .int .u64 0, .int .u32 0, .int .u8 0, .int .u8 0, .int .u8 0, .int .u8 0, .nilFunc, .pointer none, .int .i32 0, .int .i32 0]) (fs := (match Try.prog.underlying 127 with | some (.struct fs) => fs | _ => #[])) (by kernel_rfl) (by kernel_rfl) (by kernel_rfl) (by kernel_rfl) (by kernel_rfl)
instance : AL Try.prog 127 [.int .u64 0, .int .u64 0, .int .u32 0, .int .u8 0, .int .u8 0, .int .u8 0, .int .u8 0, .nilFunc, .pointer none, .int .i32 0, .int .i32 0] := ⟨by kernel_rfl⟩
instance : CT Try.prog 128 (some 11) := ⟨by kernel_rfl⟩
instance : SZ Try.prog 128 11 := ⟨by kernel_rfl⟩
instance : FO Try.prog 128 0 0 := ⟨by kernel_rfl⟩
instance : FO Try.prog 128 1 1 := ⟨by kernel_rfl⟩
instance : FO Try.prog 128 2 2 := ⟨by kernel_rfl⟩
instance : FO Try.prog 128 3 3 := ⟨by kernel_rfl⟩
instance : FO Try.prog 128 4 4 := ⟨by kernel_rfl⟩
instance : FO Try.prog 128 5 5 := ⟨by kernel_rfl⟩
instance : FO Try.prog 128 6 6 := ⟨by kernel_rfl⟩
instance : FO Try.prog 128 7 7 := ⟨by kernel_rfl⟩
instance : FO Try.prog 128 8 8 := ⟨by kernel_rfl⟩
instance : FO Try.prog 128 9 9 := ⟨by kernel_rfl⟩
instance : FO Try.prog 128 10 10 := ⟨by kernel_rfl⟩
instance : ST Try.prog 128 [.int .u64 0, .int .u64 0, .int .u32 0, .int .u8 0, .int .u8 0, .int .u8 0, .int .u8 0, .nilFunc, .pointer none, .int .i32 0, .int .i32 0] [(0, 1), (1, 1), (2, 1), (3, 1), (4, 1), (5, 1), (6, 1), (7, 1), (8, 1), (9, 1), (10, 1)] := .of (z := .agg #[.int .u64 0, .int .u64 0, .int .u32 0, .int .u8 0, .int .u8 0, .int .u8 0, .int .u8 0, .nilFunc, .pointer none, .int .i32 0, .int .i32 0]) (fs := (match Try.prog.underlying 128 with | some (.struct fs) => fs | _ => #[])) (by kernel_rfl) (by kernel_rfl) (by kernel_rfl) (by kernel_rfl) (by kernel_rfl)
instance : AL Try.prog 128 [.int .u64 0, .int .u64 0, .int .u32 0, .int .u8 0, .int .u8 0, .int .u8 0, .int .u8 0, .nilFunc, .pointer none, .int .i32 0, .int .i32 0] := ⟨by kernel_rfl⟩
instance : CT Try.prog 129 none := ⟨by kernel_rfl⟩
instance : SZ Try.prog 129 1 := ⟨by kernel_rfl⟩
instance : AL Try.prog 129 [.pointer none] := ⟨by kernel_rfl⟩
instance : IC Try.prog 2 2 .i64 := .of un2 un2
instance : IC Try.prog 2 3 .i64 := .of un2 un3
instance : IC Try.prog 2 5 .u8 := .of un2 un5
instance : IC Try.prog 2 6 .u8 := .of un2 un6
instance : IC Try.prog 2 12 .u64 := .of un2 un12
instance : IC Try.prog 2 21 .i32 := .of un2 un21
instance : IC Try.prog 2 22 .u16 := .of un2 un22
instance : IC Try.prog 2 27 .i64 := .of un2 un27
instance : IC Try.prog 2 44 .u32 := .of un2 un44
instance : IC Try.prog 2 66 .u64 := .of un2 un66
instance : IC Try.prog 2 70 .u64 := .of un2 un70
instance : IC Try.prog 2 121 .u8 := .of un2 un121
instance : IC Try.prog 2 122 .u8 := .of un2 un122
instance : IC Try.prog 2 125 .i32 := .of un2 un125
instance : IC Try.prog 2 126 .i32 := .of un2 un126
instance : IC Try.prog 3 2 .i64 := .of un3 un2
instance : IC Try.prog 3 3 .i64 := .of un3 un3
instance : IC Try.prog 3 5 .u8 := .of un3 un5
instance : IC Try.prog 3 6 .u8 := .of un3 un6
instance : IC Try.prog 3 12 .u64 := .of un3 un12
instance : IC Try.prog 3 21 .i32 := .of un3 un21
instance : IC Try.prog 3 22 .u16 := .of un3 un22
instance : IC Try.prog 3 27 .i64 := .of un3 un27
instance : IC Try.prog 3 44 .u32 := .of un3 un44
instance : IC Try.prog 3 66 .u64 := .of un3 un66
instance : IC Try.prog 3 70 .u64 := .of un3 un70
instance : IC Try.prog 3 121 .u8 := .of un3 un121
instance : IC Try.prog 3 122 .u8 := .of un3 un122
instance : IC Try.prog 3 125 .i32 := .of un3 un125
instance : IC Try.prog 3 126 .i32 := .of un3 un126
instance : IC Try.prog 5 2 .i64 := .of un5 un2
instance : IC Try.prog 5 3 .i64 := .of un5 un3
instance : IC Try.prog 5 5 .u8 := .of un5 un5
instance : IC Try.prog 5 6 .u8 := .of un5 un6
instance : IC Try.prog 5 12 .u64 := .of un5 un12
instance : IC Try.prog 5 21 .i32 := .of un5 un21
instance : IC Try.prog 5 22 .u16 := .of un5 un22
instance : IC Try.prog 5 27 .i64 := .of un5 un27
instance : IC Try.prog 5 44 .u32 := .of un5 un44
instance : IC Try.prog 5 66 .u64 := .of un5 un66
instance : IC Try.prog 5 70 .u64 := .of un5 un70
instance : IC Try.prog 5 121 .u8 := .of un5 un121
instance : IC Try.prog 5 122 .u8 := .of un5 un122
instance : IC Try.prog 5 125 .i32 := .of un5 un125
instance : IC Try.prog 5 126 .i32 := .of un5 un126
instance : IC Try.prog 6 2 .i64 := .of un6 un2
instance : IC Try.prog 6 3 .i64 := .of un6 un3
instance : IC Try.prog 6 5 .u8 := .of un6 un5
instance : IC Try.prog 6 6 .u8 := .of un6 un6
instance : IC Try.prog 6 12 .u64 := .of un6 un12
instance : IC Try.prog 6 21 .i32 := .of un6 un21
instance : IC Try.prog 6 22 .u16 := .of un6 un22
instance : IC Try.prog 6 27 .i64 := .of un6 un27
instance : IC Try.prog 6 44 .u32 := .of un6 un44
instance : IC Try.prog 6 66 .u64 := .of un6 un66
instance : IC Try.prog 6 70 .u64 := .of un6 un70
instance : IC Try.prog 6 121 .u8 := .of un6 un121
instance : IC Try.prog 6 122 .u8 := .of un6 un122
instance : IC Try.prog 6 125 .i32 := .of un6 un125
instance : IC Try.prog 6 126 .i32 := .of un6 un126
instance : IC Try.prog 12 2 .i64 := .of un12 un2
instance : IC Try.prog 12 3 .i64 := .of un12 un3
instance : IC Try.prog 12 5 .u8 := .of un12 un5
instance : IC Try.prog 12 6 .u8 := .of un12 un6
instance : IC Try.prog 12 12 .u64 := .of un12 un12
instance : IC Try.prog 12 21 .i32 := .of un12 un21
instance : IC Try.prog 12 22 .u16 := .of un12 un22
instance : IC Try.prog 12 27 .i64 := .of un12 un27
instance : IC Try.prog 12 44 .u32 := .of un12 un44
instance : IC Try.prog 12 66 .u64 := .of un12 un66
instance : IC Try.prog 12 70 .u64 := .of un12 un70
instance : IC Try.prog 12 121 .u8 := .of un12 un121
instance : IC Try.prog 12 122 .u8 := .of un12 un122
instance : IC Try.prog 12 125 .i32 := .of un12 un125
instance : IC Try.prog 12 126 .i32 := .of un12 un126
instance : IC Try.prog 21 2 .i64 := .of un21 un2
instance : IC Try.prog 21 3 .i64 := .of un21 un3
instance : IC Try.prog 21 5 .u8 := .of un21 un5
instance : IC Try.prog 21 6 .u8 := .of un21 un6
instance : IC Try.prog 21 12 .u64 := .of un21 un12
instance : IC Try.prog 21 21 .i32 := .of un21 un21
instance : IC Try.prog 21 22 .u16 := .of un21 un22
instance : IC Try.prog 21 27 .i64 := .of un21 un27
instance : IC Try.prog 21 44 .u32 := .of un21 un44
instance : IC Try.prog 21 66 .u64 := .of un21 un66
instance : IC Try.prog 21 70 .u64 := .of un21 un70
instance : IC Try.prog 21 121 .u8 := .of un21 un121
instance : IC Try.prog 21 122 .u8 := .of un21 un122
instance : IC Try.prog 21 125 .i32 := .of un21 un125
instance : IC Try.prog 21 126 .i32 := .of un21 un126
instance : IC Try.prog 22 2 .i64 := .of un22 un2
instance : IC Try.prog 22 3 .i64 := .of un22 un3
instance : IC Try.prog 22 5 .u8 := .of un22 un5
instance : IC Try.prog 22 6 .u8 := .of un22 un6
instance : IC Try.prog 22 12 .u64 := .of un22 un12
instance : IC Try.prog 22 21 .i32 := .of un22 un21
instance : IC Try.prog 22 22 .u16 := .of un22 un22
instance : IC Try.prog 22 27 .i64 := .of un22 un27
instance : IC Try.prog 22 44 .u32 := .of un22 un44
instance : IC Try.prog 22 66 .u64 := .of un22 un66
instance : IC Try.prog 22 70 .u64 := .of un22 un70
instance : IC Try.prog 22 121 .u8 := .of un22 un121
instance : IC Try.prog 22 122 .u8 := .of un22 un122
instance : IC Try.prog 22 125 .i32 := .of un22 un125
instance : IC Try.prog 22 126 .i32 := .of un22 un126
instance : IC Try.prog 27 2 .i64 := .of un27 un2
instance : IC Try.prog 27 3 .i64 := .of un27 un3
instance : IC Try.prog 27 5 .u8 := .of un27 un5
instance : IC Try.prog 27 6 .u8 := .of un27 un6
instance : IC Try.prog 27 12 .u64 := .of un27 un12
instance : IC Try.prog 27 21 .i32 := .of un27 un21
instance : IC Try.prog 27 22 .u16 := .of un27 un22
instance : IC Try.prog 27 27 .i64 := .of un27 un27
instance : IC Try.prog 27 44 .u32 := .of un27 un44
instance : IC Try.prog 27 66 .u64 := .of un27 un66
instance : IC Try.prog 27 70 .u64 := .of un27 un70
instance : IC Try.prog 27 121 .u8 := .of un27 un121
instance : IC Try.prog 27 122 .u8 := .of un27 un122
instance : IC Try.prog 27 125 .i32 := .of un27 un125
instance : IC Try.prog 27 126 .i32 := .of un27 un126
instance : IC Try.prog 44 2 .i64 := .of un44 un2
instance : IC Try.prog 44 3 .i64 := .of un44 un3
instance : IC Try.prog 44 5 .u8 := .of un44 un5
instance : IC Try.prog 44 6 .u8 := .of un44 un6
instance : IC Try.prog 44 12 .u64 := .of un44 un12
instance : IC Try.prog 44 21 .i32 := .of un44 un21
instance : IC Try.prog 44 22 .u16 := .of un44 un22
instance : IC Try.prog 44 27 .i64 := .of un44 un27
instance : IC Try.prog 44 44 .u32 := .of un44 un44
instance : IC Try.prog 44 66 .u64 := .of un44 un66
instance : IC Try.prog 44 70 .u64 := .of un44 un70
instance : IC Try.prog 44 121 .u8 := .of un44 un121
instance : IC Try.prog 44 122 .u8 := .of un44 un122
instance : IC Try.prog 44 125 .i32 := .of un44 un125
instance : IC Try.prog 44 126 .i32 := .of un44 un126
instance : IC Try.prog 66 2 .i64 := .of un66 un2
instance : IC Try.prog 66 3 .i64 := .of un66 un3
instance : IC Try.prog 66 5 .u8 := .of un66 un5
instance : IC Try.prog 66 6 .u8 := .of un66 un6
instance : IC Try.prog 66 12 .u64 := .of un66 un12
instance : IC Try.prog 66 21 .i32 := .of un66 un21
instance : IC Try.prog 66 22 .u16 := .of un66 un22
instance : IC Try.prog 66 27 .i64 := .of un66 un27
instance : IC Try.prog 66 44 .u32 := .of un66 un44
instance : IC Try.prog 66 66 .u64 := .of un66 un66
instance : IC Try.prog 66 70 .u64 := .of un66 un70
instance : IC Try.prog 66 121 .u8 := .of un66 un121
instance : IC Try.prog 66 122 .u8 := .of un66 un122
instance : IC Try.prog 66 125 .i32 := .of un66 un125
instance : IC Try.prog 66 126 .i32 := .of un66 un126
instance : IC Try.prog 70 2 .i64 := .of un70 un2
instance : IC Try.prog 70 3 .i64 := .of un70 un3
instance : IC Try.prog 70 5 .u8 := .of un70 un5
instance : IC Try.prog 70 6 .u8 := .of un70 un6
instance : IC Try.prog 70 12 .u64 := .of un70 un12
instance : IC Try.prog 70 21 .i32 := .of un70 un21
instance : IC Try.prog 70 22 .u16 := .of un70 un22
instance : IC Try.prog 70 27 .i64 := .of un70 un27
instance : IC Try.prog 70 44 .u32 := .of un70 un44
instance : IC Try.prog 70 66 .u64 := .of un70 un66
instance : IC Try.prog 70 70 .u64 := .of un70 un70
instance : IC Try.prog 70 121 .u8 := .of un70 un121
instance : IC Try.prog 70 122 .u8 := .of un70 un122
instance : IC Try.prog 70 125 .i32 := .of un70 un125
instance : IC Try.prog 70 126 .i32 := .of un70 un126
instance : IC Try.prog 121 2 .i64 := .of un121 un2
instance : IC Try.prog 121 3 .i64 := .of un121 un3
instance : IC Try.prog 121 5 .u8 := .of un121 un5
instance : IC Try.prog 121 6 .u8 := .of un121 un6
instance : IC Try.prog 121 12 .u64 := .of un121 un12
instance : IC Try.prog 121 21 .i32 := .of un121 un21
instance : IC Try.prog 121 22 .u16 := .of un121 un22
instance : IC Try.prog 121 27 .i64 := .of un121 un27
instance : IC Try.prog 121 44 .u32 := .of un121 un44
instance : IC Try.prog 121 66 .u64 := .of un121 un66
instance : IC Try.prog 121 70 .u64 := .of un121 un70
instance : IC Try.prog 121 121 .u8 := .of un121 un121
instance : IC Try.prog 121 122 .u8 := .of un121 un122
instance : IC Try.prog 121 125 .i32 := .of un121 un125
instance : IC Try.prog 121 126 .i32 := .of un121 un126
instance : IC Try.prog 122 2 .i64 := .of un122 un2
instance : IC Try.prog 122 3 .i64 := .of un122 un3
instance : IC Try.prog 122 5 .u8 := .of un122 un5
instance : IC Try.prog 122 6 .u8 := .of un122 un6
instance : IC Try.prog 122 12 .u64 := .of un122 un12
instance : IC Try.prog 122 21 .i32 := .of un122 un21
instance : IC Try.prog 122 22 .u16 := .of un122 un22
instance : IC Try.prog 122 27 .i64 := .of un122 un27
instance : IC Try.prog 122 44 .u32 := .of un122 un44
instance : IC Try.prog 122 66 .u64 := .of un122 un66
instance : IC Try.prog 122 70 .u64 := .of un122 un70
instance : IC Try.prog 122 121 .u8 := .of un122 un121
instance : IC Try.prog 122 122 .u8 := .of un122 un122
instance : IC Try.prog 122 125 .i32 := .of un122 un125
instance : IC Try.prog 122 126 .i32 := .of un122 un126
instance : IC Try.prog 125 2 .i64 := .of un125 un2
instance : IC Try.prog 125 3 .i64 := .of un125 un3
instance : IC Try.prog 125 5 .u8 := .of un125 un5
instance : IC Try.prog 125 6 .u8 := .of un125 un6
instance : IC Try.prog 125 12 .u64 := .of un125 un12
instance : IC Try.prog 125 21 .i32 := .of un125 un21
instance : IC Try.prog 125 22 .u16 := .of un125 un22
instance : IC Try.prog 125 27 .i64 := .of un125 un27
instance : IC Try.prog 125 44 .u32 := .of un125 un44
instance : IC Try.prog 125 66 .u64 := .of un125 un66
instance : IC Try.prog 125 70 .u64 := .of un125 un70
instance : IC Try.prog 125 121 .u8 := .of un125 un121
instance : IC Try.prog 125 122 .u8 := .of un125 un122
instance : IC Try.prog 125 125 .i32 := .of un125 un125
instance : IC Try.prog 125 126 .i32 := .of un125 un126
instance : IC Try.prog 126 2 .i64 := .of un126 un2
instance : IC Try.prog 126 3 .i64 := .of un126 un3
instance : IC Try.prog 126 5 .u8 := .of un126 un5
instance : IC Try.prog 126 6 .u8 := .of un126 un6
instance : IC Try.prog 126 12 .u64 := .of un126 un12
instance : IC Try.prog 126 21 .i32 := .of un126 un21
instance : IC Try.prog 126 22 .u16 := .of un126 un22
instance : IC Try.prog 126 27 .i64 := .of un126 un27
instance : IC Try.prog 126 44 .u32 := .of un126 un44
instance : IC Try.prog 126 66 .u64 := .of un126 un66
instance : IC Try.prog 126 70 .u64 := .of un126 un70
instance : IC Try.prog 126 121 .u8 := .of un126 un121
instance : IC Try.prog 126 122 .u8 := .of un126 un122
instance : IC Try.prog 126 125 .i32 := .of un126 un125
instance : IC Try.prog 126 126 .i32 := .of un126 un126
instance : BY Try.prog 23 9 := ⟨⟨5, by kernel_rfl, by kernel_rfl⟩, by kernel_rfl⟩
instance : BY Try.prog 23 10 := ⟨⟨5, by kernel_rfl, by kernel_rfl⟩, by kernel_rfl⟩
instance : BY Try.prog 23 11 := ⟨⟨5, by kernel_rfl, by kernel_rfl⟩, by kernel_rfl⟩
theorem noGlobals : Try.prog.globals.size = 0 := by kernel_rfl
end Go.Proofs.Ytmelgnpogdilgaa

/- Literals that are only read, and what is appended to them: no old block is written. No conditions. -/
namespace Go.Proofs.Ytmelgnpogdilgaa
set_option linter.unusedVariables false
section
variable {P : Program} {m : Mp} {D W : Nat → Prop} {h : AHeap} {w : World}
theorem HRel.allocRo (H : HRel P m D h w) (hf : m h.n = none) {c : List Value} {o' : Obj} {l : Loc} (hb : l.b = w.heap.size) (hs : l.slk = 0) (ho : ORel P (upd m h.n l) l (.ro c) o') : HRel P (upd m h.n l) D (h.push (.ro c)) (w.alloc o') where
  lt i k e := by
    by_cases hi : i = h.n
    · subst hi; rw [upd_same] at e; cases e; rw [alloc_size]; omega
    · rw [upd_ne m l hi] at e; have := H.lt i k e; rw [alloc_size]; omega
  typ i k c t e g := by
    by_cases hn : i = h.n
    · subst hn; rw [h.get_push_same] at g; cases g
    · rw [upd_ne m l hn] at e; rw [h.get_push_ne _ (Ne.symm hn)] at g
      exact H.typ i k c t e g
  inj i j l₁ l₂ e₁ e₂ g₁ g₂ e := by
    by_cases hi : i = h.n
    · by_cases hj : j = h.n
      · omega
      · subst hi; rw [upd_same] at e₁; cases e₁; rw [upd_ne m l hj] at e₂; have := H.lt j _ e₂; omega
    · by_cases hj : j = h.n
      · subst hj; rw [upd_same] at e₂; cases e₂; rw [upd_ne m l hi] at e₁; have := H.lt i _ e₁; omega
      · rw [upd_ne m l hi] at e₁; rw [upd_ne m l hj] at e₂
        rw [h.get_push_ne _ (Ne.symm hi)] at g₁
        exact H.inj i j _ _ e₁ e₂ g₁ (AHeap.live_eq (h.get_push_ne _ (Ne.symm hj)) g₂) e
  roS i k c e g := by
    by_cases hn : i = h.n
    · subst hn; rw [upd_same] at e; cases e; exact hs
    · rw [upd_ne m l hn] at e; rw [h.get_push_ne _ (Ne.symm hn)] at g; exact H.roS i k c e g
  obj i k x hd e g := by
    by_cases hi : i = h.n
    · subst hi; rw [upd_same] at e; cases e; rw [h.get_push_same] at g; cases g
      exact ⟨o', by rw [alloc_get, if_pos hb], ho⟩
    · rw [upd_ne m l hi] at e; rw [h.get_push_ne _ (Ne.symm hi)] at g
      obtain ⟨x', a, b⟩ := H.obj i k x hd e g
      have hlt := H.lt i k e
      exact ⟨x', by rw [alloc_get, if_neg (by omega)]; exact a, b.mono (upd_le hf)⟩
theorem OpRun.buildRo {o : Oper} {tm : List Value} {t : TypeId} {len : Nat} {ps : Array (Nat × Operand)} {c₀ : List Value} {e₀ : TypeId} (ho : o.op = .buildSlice t len ps) (he : aBuildSlice P t len (ps.toList.map fun p => (p.1, evalT tm p.2)) = some (.cells c₀ e₀)) : OpRun P D W o tm h (.slice (some ⟨h.n, 0, none⟩) len len) (h.push (.ro c₀)) :=
  .ofNew (by simp [ho]) fun m w A hm hf hx H => by
    have hp := parts_rel (m := m) (A := A) (tm := tm) (ps := ps) (by simpa [ho, Op.operands] using hx)
    unfold aBuildSlice at he
    split at he
    · rename_i e hu
      split at he
      · rename_i size hs
        split at he
        · rename_i hle
          split at he
          · rename_i z hz
            simp only [Option.map_eq_some_iff] at he
            obtain ⟨c, hc, he⟩ := he
            cases he
            obtain ⟨hzr, hzs⟩ := aZeros_rel hz m
            obtain ⟨c', e1, e2⟩ := fill_rel _ _ _ _ _ _ hp.1 hp.2 hzr hc
            have e3 : (ps.map fun x => (x.1, A.eval x.2)).toList = ps.toList.map fun p => (p.1, A.eval p.2) := by simp
            refine ⟨.slice (some ⟨w.heap.size, 0, none⟩) len len, .cells c' e₀ (0, 0), locNew w size c₀.length 0, w, rfl, rfl, rfl, rfl, rfl, ?_, H.allocRo hf rfl rfl (.ro rfl fun i v ei => ?_), ?_⟩
            · exact .slice (l := locNew w size c₀.length 0) (upd_same _ _ _) (.inl rfl)
            · obtain ⟨v', a, b⟩ := e2.get (v := v) (by simpa using ei)
              exact ⟨v', by simpa [locNew] using a, b.mono (upd_le hf)⟩
            · have hle' : ¬ len * size > 2 ^ 24 := by omega
              simp only [execOp, ho, Instr.buildSlice, Sem.run_bind, run_under hu, Result.andThen_ok, run_sizeOf hs, e3, if_neg hle', Sem.run_pure]
              rcases aZeros_run hz w with ⟨h0, rfl⟩ | ⟨h0, z', hz1, hz2⟩
              · have e4 : Instr.fill (fun i => some (i * size, size)) #[] (ps.toList.map fun p => (p.1, A.eval p.2)) = some c' := e1
                simp [h0, e4, newRow, World.alloc_eq, map_range0]
              · simp [h0, hz1, hz2, e1, newRow, World.alloc_eq]
          · cases he
        · cases he
      · cases he
    · cases he
end
/-- A slice that is read alone, without room. -/
def Ro (h : AHeap) (a : Option Addr) : Prop := ∃ b o c, a = some ⟨b, o, none⟩ ∧ h.get b = some (.ro c)
theorem Ro.same {h h' : AHeap} {a : Option Addr} (k : Ro h a) (s : Same h h') : Ro h' a := let ⟨b, o, c, e, g⟩ := k; ⟨b, o, c, e, s.get g⟩
section
variable {P : Program} {W : Nat → Prop} {q : Bool} {N : Nat} {k : List It} {ov : Ov} {df : List Nat} {h : AHeap} {Q : PQ} {ops : Array Oper} {os : List Oper} {o : Oper} {d : Nat} {b₀ : Bool} {tr : List (Option LE)}
theorem S.buildRo {t e : TypeId} {len sz : Nat} {z : Value} {ps : Array (Nat × Operand)} {vs : List (Nat × Value)} {c : List Value} (ho : o.op = .buildSlice t len ps) [hs : BS P t e sz z] (hp : evPs ov ps.toList = some vs) (hl : len * sz ≤ 16777216) (hf : fillL (fun i => some (i * sz, sz)) ((List.replicate len (Value.cells z).toList).flatten) vs = some c) : ∀ tm, Rp ov tm → OpOk P o tm h ⟨(.slice (some ⟨h.n, 0, none⟩) len len), (h.push (.ro c)), [], [], false, false⟩ := fun tm hr => .new fun D W => OpRun.buildRo ho (by rw [evPs_eq hr hp]; exact hs.h _ _ _ hl hf)
theorem Rv.newRo (P : Program) (h : AHeap) (c : List Value) {sz len : Nat} (hc : c.length = len * sz) : Rv P (h.push (.ro c)) sz (Option.some ⟨h.n, 0, none⟩) len len c := Rv.mk (.inr (AHeap.get_push_same h _)) (by simp [hc]) (Nat.le_refl _) (by simp [← hc])
theorem GoR.buildRo {t e : TypeId} {len sz : Nat} {z : Value} {ps : Array (Nat × Operand)} {vs : List (Nat × Value)} {c : List Value} (ho : o.op = .buildSlice t len ps) (hd : o.dst = some d) (hN : dOk d N = true) (hgd : o.guard = none) [hs : BS P t e sz z] (hp : evPs ov ps.toList = some vs) (hl : len * sz ≤ 16777216) (hf : fillL (fun i => some (i * sz, sz)) ((List.replicate len (Value.cells z).toList).flatten) vs = some c) (hc : c.length = len * sz)
    (g : ∀ a h', Rv P h' sz a len len c → Ro h' a → Own h.n a → Same h h' → h'.n = h.n + 1 → GoR P W q N ops b₀ os k ((d, .slice a len len) :: ov) df h' Q) : GoR P W q N ops b₀ (o :: os) k ov df h Q :=
  GoR.step (r := ⟨_, _, [], [], false, false⟩) hgd hd hN (S.buildRo ho hp hl hf) (.inr rfl) (fun i hi => by cases hi) (g _ _ (Rv.newRo P h c hc) ⟨_, _, _, rfl, AHeap.get_push_same h _⟩ (Own.mk (Nat.le_refl _)) ((Same.refl h).push _) rfl)
theorem GoL.buildRo {t e : TypeId} {len sz : Nat} {z : Value} {ps : Array (Nat × Operand)} {vs : List (Nat × Value)} {c : List Value} (ho : o.op = .buildSlice t len ps) (hd : o.dst = some d) (hN : dOk d N = true) (hgd : o.guard = none) [hs : BS P t e sz z] (hp : evPs ov ps.toList = some vs) (hl : len * sz ≤ 16777216) (hf : fillL (fun i => some (i * sz, sz)) ((List.replicate len (Value.cells z).toList).flatten) vs = some c) (hc : c.length = len * sz)
    (g : ∀ a h', Rv P h' sz a len len c → Ro h' a → Own h.n a → Same h h' → h'.n = h.n + 1 → GoL P W q N ops (tr ++ [some ⟨h.n, h.n + 1, [], [], false, false⟩]) os k ((d, .slice a len len) :: ov) df h' Q) : GoL P W q N ops tr (o :: os) k ov df h Q :=
  GoL.step (r := ⟨_, _, [], [], false, false⟩) (some ⟨h.n, h.n + 1, [], [], false, false⟩) ⟨rfl, rfl, rfl, rfl, rfl, rfl⟩ hgd hd hN (S.buildRo ho hp hl hf) (fun i hi => by cases hi) (g _ _ (Rv.newRo P h c hc) ⟨_, _, _, rfl, AHeap.get_push_same h _⟩ (Own.mk (Nat.le_refl _)) ((Same.refl h).push _) rfl)
theorem aAppend_ro {t t₂ e : TypeId} {sz bytes : Nat} [hA : AP P t t₂ e sz bytes] {a a' : Option Addr} {len n cap' : Nat} {cs new : List Value} (hS : Rv P h sz a len len cs) (hr : Ro h a) (hN : Rv P h sz a' n cap' new) (h1 : len + n ≤ 1099511627776) (h2 : (len + n) * bytes ≤ 140737488355328) :
    ∃ v h' rd, aAppend P h t t₂ (.slice a len len) (.slice a' n cap') = some (v, h', rd, []) ∧ (∀ i ∈ rd, i ∈ blk a ∨ i ∈ blk a') ∧ ∃ a₂, v = .slice a₂ (len + n) (len + n) ∧ Rv P h' sz a₂ (len + n) (len + n) (cs ++ new) ∧ Same h h' ∧ (∀ i ∈ blk a₂, i ∈ blk a ∨ h.n ≤ i) := by
  obtain ⟨inf, z, hi, rfl, rfl, hz, hsz, hzf, hzl⟩ := hA.i
  obtain ⟨e₂, hu2⟩ := hA.u2
  obtain ⟨rd₁, hsrc, hrd₁⟩ := aSrc_of hN
  obtain ⟨rd₂, hold, hrd₂⟩ := aSrc_of hS
  have hnl := hN.length
  have hcl := hS.length
  have hnew : aNew P h e inf t₂ (.slice a' n cap') = some (n, new, rd₁) := by simp [aNew, hu2, hsrc]
  obtain ⟨b, o, c, rfl, hg⟩ := hr
  simp only [aAppend, hA.u, hi, hz]
  rw [if_pos ⟨hsz, hzf, hzl⟩]
  simp only [hnew, aGrow]
  by_cases h0 : n = 0
  · subst h0
    have : new = [] := List.length_eq_zero_iff.1 (by simpa using hnl)
    subst this
    rw [if_pos (by omega), if_pos (show ([] : List Value).isEmpty = true from rfl)]
    exact ⟨_, _, _, rfl, (fun i hi => .inr (hrd₁ i hi)), _, rfl, by rw [List.append_nil]; exact hS, .refl h, fun i hi => .inl hi⟩
  · rw [if_neg (by omega), if_pos ⟨h1, h2⟩]
    simp only [hold]
    rw [if_pos (by simp [tight, hg])]
    refine ⟨_, _, _, rfl, (fun i hi => ?_), _, rfl, ?_, (Same.refl h).push _, fun i hi => ?_⟩
    · rcases List.mem_append.1 hi with hi | hi
      · exact .inr (hrd₁ i hi)
      · exact .inl (hrd₂ i hi)
    · exact .mk (.inl ⟨e, AHeap.get_push_same h _, hA.s⟩) (by rw [List.length_append, hcl, hnl, Nat.add_mul]; omega) (Nat.le_refl _) (by rw [List.drop_zero, List.take_of_length_le (by rw [List.length_append, hcl, hnl, Nat.add_mul]; omega)])
    · simp [blk] at hi; omega
theorem GoR.appendRo {x y : Operand} {t t₂ e : TypeId} {sz bytes : Nat} {a a' : Option Addr} {len n cap' : Nat} {cs new : List Value} (ho : o.op = .call ⟨.builtin .append, #[x, y], #[t, t₂]⟩) (hd : o.dst = some d) (hN : dOk d N = true) (hgd : o.guard = none) (hx : evO ov x = some (.slice a len len)) (hy : evO ov y = some (.slice a' n cap')) [hA : AP P t t₂ e sz bytes]
    (hS : Rv P h sz a len len cs) (hr : Ro h a) (hT : Rv P h sz a' n cap' new) (h1 : len + n ≤ 1099511627776) (h2 : (len + n) * bytes ≤ 140737488355328)
    (g : ∀ a₂ h', Rv P h' sz a₂ (len + n) (len + n) (cs ++ new) → Same h h' → (∀ i ∈ blk a₂, i ∈ blk a ∨ h.n ≤ i) → GoR P W q N ops b₀ os k ((d, .slice a₂ (len + n) (len + n)) :: ov) df h' Q) : GoR P W q N ops b₀ (o :: os) k ov df h Q := by
  obtain ⟨v, h', rd, he, hrd, a₂, rfl, h5, h6, h7⟩ := aAppend_ro (P := P) (t := t) (t₂ := t₂) hS hr hT h1 h2
  exact GoR.step (r := ⟨_, _, rd, [], false, false⟩) hgd hd hN (S.append ho hx hy he) (.inr rfl) (fun i hi => by cases hi) (g a₂ h' h5 h6 h7)
theorem GoL.appendRo {x y : Operand} {t t₂ e : TypeId} {sz bytes : Nat} {a a' : Option Addr} {len n cap' : Nat} {cs new : List Value} (ho : o.op = .call ⟨.builtin .append, #[x, y], #[t, t₂]⟩) (hd : o.dst = some d) (hN : dOk d N = true) (hgd : o.guard = none) (hx : evO ov x = some (.slice a len len)) (hy : evO ov y = some (.slice a' n cap')) [hA : AP P t t₂ e sz bytes]
    (hS : Rv P h sz a len len cs) (hr : Ro h a) (hT : Rv P h sz a' n cap' new) (h1 : len + n ≤ 1099511627776) (h2 : (len + n) * bytes ≤ 140737488355328)
    (g : ∀ a₂ h' rd, (∀ i ∈ rd, i ∈ blk a ∨ i ∈ blk a') → Rv P h' sz a₂ (len + n) (len + n) (cs ++ new) → Same h h' → (∀ i ∈ blk a₂, i ∈ blk a ∨ h.n ≤ i) → GoL P W q N ops (tr ++ [some ⟨h.n, h'.n, rd, [], false, false⟩]) os k ((d, .slice a₂ (len + n) (len + n)) :: ov) df h' Q) : GoL P W q N ops tr (o :: os) k ov df h Q := by
  obtain ⟨v, h', rd, he, hrd, a₂, rfl, h5, h6, h7⟩ := aAppend_ro (P := P) (t := t) (t₂ := t₂) hS hr hT h1 h2
  exact GoL.step (r := ⟨_, _, rd, [], false, false⟩) (some ⟨h.n, h'.n, rd, [], false, false⟩) ⟨rfl, rfl, rfl, rfl, rfl, rfl⟩ hgd hd hN (S.append ho hx hy he) (fun i hi => by cases hi) (g a₂ h' rd hrd h5 h6 h7)
end
end Go.Proofs.Ytmelgnpogdilgaa

/- Structs that are compared, flat ones. No conditions. -/
namespace Go.Proofs.Ytmelgnpogdilgaa
set_option linter.unusedVariables false
section
variable {P : Program}
def eqFieldsB (P : Program) (xs ys : Array Value) : List Field → Option Bool
  | [] => some true
  | f :: fs => match decide (f.name = "_") with
    | true => eqFieldsB P xs ys fs
    | false => match aPart P f.type xs f.offset, aPart P f.type ys f.offset, P.underlying f.type with
      | some a, some b, some d => match Instr.sameNow d a b, eqFieldsB P xs ys fs with
        | some r, some rs => some (r && rs)
        | _, _ => none
      | _, _, _ => none
theorem eqFieldsB_run {xs ys : Array Value} (hx : flatB (.agg xs) = true) (hy : flatB (.agg ys) = true) (w : World) (d : Nat) : ∀ {fs : List Field} {b : Bool}, eqFieldsB P xs ys fs = some b → (Op.eqFields (d + 1) xs ys fs).run P w = .ok b w
  | [], b, h => by
    simp only [eqFieldsB, Option.some.injEq] at h
    subst h
    simp [Op.eqFields]
  | f :: fs, b, h => by
    simp only [eqFieldsB] at h
    simp only [Op.eqFields]
    split at h
    · rename_i hn
      have hn' : f.name = "_" := of_decide_eq_true hn
      rw [if_neg (by simp [hn'])]
      exact eqFieldsB_run hx hy w d h
    · rename_i hn
      have hn' : f.name ≠ "_" := of_decide_eq_false hn
      rw [if_pos hn']
      split at h
      · rename_i a c dd ha hc hd
        split at h
        · rename_i r rs hr hrs
          cases h
          have ih := eqFieldsB_run hx hy w d hrs
          have fx : ∀ (cs : Array Value), flatB (.agg cs) = true → ARel (fun _ => none) cs cs := fun cs hc => ⟨rfl, fun i v v' e e' => by
            rw [e] at e'; cases e'
            have := VRel.flat (fun _ => none) hc
            cases this with
            | agg h1 h3 => exact h3 i _ _ e e⟩
          obtain ⟨a', ra, va⟩ := aPart_run ha (fx xs hx) w
          obtain ⟨c', rc, vc⟩ := aPart_run hc (fx ys hy) w
          have key : (Op.equalIn (d + 1) f.type a' c').run P w = .ok r w := by
            cases dd <;> cases a <;> cases c <;> simp [Instr.sameNow] at hr <;> cases va <;> cases vc <;> simp_all [Op.equalIn, run_under hd]
          simp only [Sem.run_bind, ra, rc, key, Result.andThen_ok]
          cases r with
          | true => simpa using ih
          | false => simp
        · cases h
      · cases h
def aStructEq (P : Program) (t : TypeId) (xs ys : Array Value) : Option Bool := match P.stoodInHeld t, P.eqGuardType P.depth t, P.underlying t with
  | false, false, some (.struct fs) => eqFieldsB P xs ys fs.toList
  | _, _, _ => none
class SEq (P : Program) (t : TypeId) (xs ys : List Value) (b : outParam Bool) : Prop where h : aStructEq P t xs.toArray ys.toArray = some b
theorem OpRun.structEq {D W : Nat → Prop} {o : Oper} {tm : List Value} {h : AHeap} {op : BinOp} {t t₂ : TypeId} {x y : Operand} {xs ys : Array Value} {b : Bool} (ho : o.op = .binOp op t x y t₂) (hop : op = .eql ∨ op = .neq) (ex : evalT tm x = .agg xs) (ey : evalT tm y = .agg ys) (fx : flatB (.agg xs) = true) (fy : flatB (.agg ys) = true) (he : aStructEq P t xs ys = some b) : OpRun P D W o tm h (.bool (if op = .eql then b else !b)) h :=
  .ofPure (by simp [ho]) fun m w A hm hx H => by
    have h1 := hx x (by simp [ho, Op.operands])
    have h2 := hx y (by simp [ho, Op.operands])
    rw [ex] at h1
    rw [ey] at h2
    have e1 := VRel.eq_of_flat h1 fx
    have e2 := VRel.eq_of_flat h2 fy
    unfold aStructEq at he
    split at he
    · rename_i fs hs hg hu
      have hf : P.fieldsOf t = fs := by simp [Program.fieldsOf, hu]
      have hr := eqFieldsB_run fx fy w 9998 he
      rw [← hf] at hr
      have hq := (run_equalIn_agg (P := P) w 9999 t xs ys (by rw [hf]; exact hu) hs).trans hr
      refine ⟨_, .bool _, ?_⟩
      simp only [execOp, ho, e1, e2]
      rcases hop with rfl | rfl
      · simp [run_eqGuard_agg w .eql t x y xs ys hg, run_eql_struct w t xs ys, hq]
      · simp [run_eqGuard_agg w .neq t x y xs ys hg, run_neq_struct w t xs ys, hq]
    · cases he
variable {W : Nat → Prop} {q : Bool} {N : Nat} {k : List It} {ov : Ov} {df : List Nat} {h : AHeap} {Q : PQ} {ops : Array Oper} {os : List Oper} {o : Oper} {d : Nat} {b₀ : Bool} {tr : List (Option LE)}
theorem S.structEq {op : BinOp} {t t₂ : TypeId} {x y : Operand} {xs ys : List Value} {b : Bool} (ho : o.op = .binOp op t x y t₂) (hop : op = .eql ∨ op = .neq) (hx : evO ov x = some (.agg xs.toArray)) (hy : evO ov y = some (.agg ys.toArray)) [he : SEq P t xs ys b] (fx : flatB (.agg xs.toArray) = true) (fy : flatB (.agg ys.toArray) = true) : ∀ tm, Rp ov tm → OpOk P o tm h ⟨.bool (if op = .eql then b else !b), h, [], [], false, true⟩ := fun tm hr => OpOk.pure fun D W => OpRun.structEq ho hop (evO_eq hr hx) (evO_eq hr hy) fx fy he.h
theorem GoR.structEq {t t₂ : TypeId} {x y : Operand} {xs ys : List Value} {b : Bool} (ho : o.op = .binOp .eql t x y t₂) (hd : o.dst = some d) (hN : dOk d N = true) (hgd : o.guard = none) (hx : evO ov x = some (.agg xs.toArray)) (hy : evO ov y = some (.agg ys.toArray)) [he : SEq P t xs ys b] (fx : flatB (.agg xs.toArray) = true) (fy : flatB (.agg ys.toArray) = true) (g : GoR P W q N ops b₀ os k ((d, .bool b) :: ov) df h Q) : GoR P W q N ops b₀ (o :: os) k ov df h Q :=
  GoR.step (r := ⟨.bool b, h, [], [], false, true⟩) hgd hd hN (S.structEq (b := b) ho (.inl rfl) hx hy fx fy) (.inr rfl) (fun i hi => by cases hi) g
theorem GoR.structNe {t t₂ : TypeId} {x y : Operand} {xs ys : List Value} {b : Bool} (ho : o.op = .binOp .neq t x y t₂) (hd : o.dst = some d) (hN : dOk d N = true) (hgd : o.guard = none) (hx : evO ov x = some (.agg xs.toArray)) (hy : evO ov y = some (.agg ys.toArray)) [he : SEq P t xs ys b] (fx : flatB (.agg xs.toArray) = true) (fy : flatB (.agg ys.toArray) = true) (g : GoR P W q N ops b₀ os k ((d, .bool (!b)) :: ov) df h Q) : GoR P W q N ops b₀ (o :: os) k ov df h Q :=
  GoR.step (r := ⟨.bool (!b), h, [], [], false, true⟩) hgd hd hN (S.structEq (b := b) ho (.inr rfl) hx hy fx fy) (.inr rfl) (fun i hi => by cases hi) g
end
end Go.Proofs.Ytmelgnpogdilgaa

/- Walks on the abstract heap: the rules with their side conditions found by tactics. No conditions. -/
namespace Go.Proofs.Ytmelgnpogdilgaa
set_option linter.unusedVariables false
theorem Rv.pushPut {P : Program} {h : AHeap} {sz len cap : Nat} {a : Option Addr} {cs : List Value} (k : Rv P h sz a len cap cs) (A : AObj) (B : Option AObj) : Rv P ((h.push A).put h.n B) sz a len cap cs := k.same (((Same.refl h).push A).put (Nat.le_refl _) B)
section
variable {P : Program} {W : Nat → Prop} {q : Bool} {N : Nat} {k : List It} {ov : Ov} {df : List Nat} {h : AHeap} {Q : PQ} {id : Nat} {ops : Array Oper} {os : List Oper} {o : Oper} {d : Nat} {b₀ : Bool} {tr : List (Option LE)}
theorem GoR.wanted' {j t : Nat} {w B : Bool} {oj : Oper} (hg : o.guard = some (j, w)) (hj : ops[j]? = some oj) (hdj : oj.dst = some t) (hv : ov.find t = some (.bool B)) (hB : B = w := by first | with_reducible rfl | with_reducible assumption | (with_reducible refine @decide_eq_true _ _ ?_; first | with_reducible rfl | omega) | (with_reducible refine @decide_eq_false _ _ ?_; omega) | with_reducible exact Bool.not_false | with_reducible exact Bool.not_true | (simp; fail_if_success focus skip) | (simp; omega)) (g : GoR P W q N ops b₀ ({ o with guard := none } :: os) k ov df h Q) : GoR P W q N ops b₀ (o :: os) k ov df h Q := GoR.wanted hg hj hdj hv hB g
theorem GoL.wanted' {j t : Nat} {w B : Bool} {oj : Oper} (hg : o.guard = some (j, w)) (hj : ops[j]? = some oj) (hdj : oj.dst = some t) (hv : ov.find t = some (.bool B)) (hB : B = w := by first | with_reducible rfl | with_reducible assumption | (with_reducible refine @decide_eq_true _ _ ?_; first | with_reducible rfl | omega) | (with_reducible refine @decide_eq_false _ _ ?_; omega) | with_reducible exact Bool.not_false | with_reducible exact Bool.not_true | (simp; fail_if_success focus skip) | (simp; omega)) (g : GoL P W q N ops tr ({ o with guard := none } :: os) k ov df h Q) : GoL P W q N ops tr (o :: os) k ov df h Q := GoL.wanted hg hj hdj hv hB g
theorem GoR.unwanted' {b : Bool} {j t : Nat} {w B : Bool} {oj : Oper} (hg : o.guard = some (j, w)) (hj : ops[j]? = some oj) (hdj : oj.dst = some t) (hv : ov.find t = some (.bool B)) (hB : B = !w := by first | with_reducible rfl | with_reducible assumption | (with_reducible refine @decide_eq_true _ _ ?_; first | with_reducible rfl | omega) | (with_reducible refine @decide_eq_false _ _ ?_; omega) | with_reducible exact Bool.not_false | with_reducible exact Bool.not_true | (simp; fail_if_success focus skip) | (simp; omega)) (hd : o.dst = some d) (hN : dOk d N = true) (g : GoR P W q N ops b os k ((d, undef) :: ov) df h Q) : GoR P W q N ops b (o :: os) k ov df h Q := GoR.unwanted hg hj hdj hv hB hd hN g
theorem GoL.unwanted' {tr : List (Option LE)} {j t : Nat} {w B : Bool} {oj : Oper} (hg : o.guard = some (j, w)) (hj : ops[j]? = some oj) (hdj : oj.dst = some t) (hv : ov.find t = some (.bool B)) (hB : B = !w := by first | with_reducible rfl | with_reducible assumption | (with_reducible refine @decide_eq_true _ _ ?_; first | with_reducible rfl | omega) | (with_reducible refine @decide_eq_false _ _ ?_; omega) | with_reducible exact Bool.not_false | with_reducible exact Bool.not_true | (simp; fail_if_success focus skip) | (simp; omega)) (hd : o.dst = some d) (hN : dOk d N = true) (g : GoL P W q N ops (tr ++ [none]) os k ((d, undef) :: ov) df h Q) : GoL P W q N ops tr (o :: os) k ov df h Q := GoL.unwanted hg hj hdj hv hB hd hN g
theorem GoR.pickE' {c x y : Operand} {B : Bool} {u v : Value} (ho : o.op = .pick c x y) (hd : o.dst = some d) (hN : dOk d N = true) (hgd : o.guard = none) (hc : evO ov c = some (.bool B)) (hB : B = true := by first | with_reducible rfl | with_reducible assumption | (with_reducible refine @decide_eq_true _ _ ?_; first | with_reducible rfl | omega) | (with_reducible refine @decide_eq_false _ _ ?_; omega) | with_reducible exact Bool.not_false | with_reducible exact Bool.not_true | (simp; fail_if_success focus skip) | (simp; omega)) (hx : evO ov x = some u) (hy : evO ov y = some v) (g : GoR P W q N ops b₀ os k ((d, u) :: ov) df h Q) : GoR P W q N ops b₀ (o :: os) k ov df h Q := GoR.pickE ho hd hN hgd hc hB hx hy g
theorem GoL.pickE' {c x y : Operand} {B : Bool} {u v : Value} (ho : o.op = .pick c x y) (hd : o.dst = some d) (hN : dOk d N = true) (hgd : o.guard = none) (hc : evO ov c = some (.bool B)) (hB : B = true := by first | with_reducible rfl | with_reducible assumption | (with_reducible refine @decide_eq_true _ _ ?_; first | with_reducible rfl | omega) | (with_reducible refine @decide_eq_false _ _ ?_; omega) | with_reducible exact Bool.not_false | with_reducible exact Bool.not_true | (simp; fail_if_success focus skip) | (simp; omega)) (hx : evO ov x = some u) (hy : evO ov y = some v) (g : GoL P W q N ops (tr ++ [none]) os k ((d, u) :: ov) df h Q) : GoL P W q N ops tr (o :: os) k ov df h Q := GoL.pickE ho hd hN hgd hc hB hx hy g
theorem GoR.pickN' {c x y : Operand} {B : Bool} {u v : Value} (ho : o.op = .pick c x y) (hd : o.dst = some d) (hN : dOk d N = true) (hgd : o.guard = none) (hc : evO ov c = some (.bool B)) (hB : B = false := by first | with_reducible rfl | with_reducible assumption | (with_reducible refine @decide_eq_true _ _ ?_; first | with_reducible rfl | omega) | (with_reducible refine @decide_eq_false _ _ ?_; omega) | with_reducible exact Bool.not_false | with_reducible exact Bool.not_true | (simp; fail_if_success focus skip) | (simp; omega)) (hx : evO ov x = some u) (hy : evO ov y = some v) (g : GoR P W q N ops b₀ os k ((d, v) :: ov) df h Q) : GoR P W q N ops b₀ (o :: os) k ov df h Q := GoR.pickN ho hd hN hgd hc hB hx hy g
theorem GoL.pickN' {c x y : Operand} {B : Bool} {u v : Value} (ho : o.op = .pick c x y) (hd : o.dst = some d) (hN : dOk d N = true) (hgd : o.guard = none) (hc : evO ov c = some (.bool B)) (hB : B = false := by first | with_reducible rfl | with_reducible assumption | (with_reducible refine @decide_eq_true _ _ ?_; first | with_reducible rfl | omega) | (with_reducible refine @decide_eq_false _ _ ?_; omega) | with_reducible exact Bool.not_false | with_reducible exact Bool.not_true | (simp; fail_if_success focus skip) | (simp; omega)) (hx : evO ov x = some u) (hy : evO ov y = some v) (g : GoL P W q N ops (tr ++ [none]) os k ((d, v) :: ov) df h Q) : GoL P W q N ops tr (o :: os) k ov df h Q := GoL.pickN ho hd hN hgd hc hB hx hy g
theorem GoR.load' {t ct : TypeId} {x : Operand} {b off : Nat} {c : List Value} {v : Value} (ho : o.op = .load t x) (hd : o.dst = some d) (hN : dOk d N = true) (hgd : o.guard = none) (hx : evO ov x = some (.pointer (some ⟨b, off, none⟩))) [hc : CT P t none] (hg : h.get b = some (.cells c ct) := by (first | assumption | exact AHeap.get_push_same _ _ | ((repeat first | exact AHeap.get_push_same _ _ | assumption | refine get_push_lt ?_ | exact AHeap.get_put_same _ (by simp only [AHeap.n_push, AHeap.n_put]; omega) _ | exact get_put_self (by assumption) | apply get_put_self | refine get_put_other (by first | omega | (simp only [AHeap.n_push, AHeap.n_put]; omega)) ?_ | refine Same.get (by assumption) ?_ | refine Keeps.get (by assumption) ?_ (fun hi => by have hx := Own.out (by assumption) hi; omega)) ; fail_if_success focus skip) | fail)) (hv : c[off]? = some v := by (first | rfl | assumption | (simp only [List.getElem?_cons_zero, List.getElem?_cons_succ, Int.toNat_natCast, Nat.mul_one, Nat.add_zero, Nat.zero_add]; first | rfl | assumption))) (g : GoR P W q N ops b₀ os k ((d, v) :: ov) df h Q) : GoR P W q N ops b₀ (o :: os) k ov df h Q := GoR.load ho hd hN hgd hx hg hv g
theorem GoL.load' {t ct : TypeId} {x : Operand} {b off : Nat} {c : List Value} {v : Value} (ho : o.op = .load t x) (hd : o.dst = some d) (hN : dOk d N = true) (hgd : o.guard = none) (hx : evO ov x = some (.pointer (some ⟨b, off, none⟩))) [hc : CT P t none] (hg : h.get b = some (.cells c ct) := by (first | assumption | exact AHeap.get_push_same _ _ | ((repeat first | exact AHeap.get_push_same _ _ | assumption | refine get_push_lt ?_ | exact AHeap.get_put_same _ (by simp only [AHeap.n_push, AHeap.n_put]; omega) _ | exact get_put_self (by assumption) | apply get_put_self | refine get_put_other (by first | omega | (simp only [AHeap.n_push, AHeap.n_put]; omega)) ?_ | refine Same.get (by assumption) ?_ | refine Keeps.get (by assumption) ?_ (fun hi => by have hx := Own.out (by assumption) hi; omega)) ; fail_if_success focus skip) | fail)) (hv : c[off]? = some v := by (first | rfl | assumption | (simp only [List.getElem?_cons_zero, List.getElem?_cons_succ, Int.toNat_natCast, Nat.mul_one, Nat.add_zero, Nat.zero_add]; first | rfl | assumption))) (g : GoL P W q N ops (tr ++ [(some ⟨h.n, h.n, [b], [], false, true⟩)]) os k ((d, v) :: ov) df h Q) : GoL P W q N ops tr (o :: os) k ov df h Q := GoL.load ho hd hN hgd hx hg hv g
theorem GoR.loadA' {t ct : TypeId} {x : Operand} {b off n : Nat} {c l : List Value} (ho : o.op = .load t x) (hd : o.dst = some d) (hN : dOk d N = true) (hgd : o.guard = none) (hx : evO ov x = some (.pointer (some ⟨b, off, none⟩))) [hc : CT P t (some n)] (hg : h.get b = some (.cells c ct) := by (first | assumption | exact AHeap.get_push_same _ _ | ((repeat first | exact AHeap.get_push_same _ _ | assumption | refine get_push_lt ?_ | exact AHeap.get_put_same _ (by simp only [AHeap.n_push, AHeap.n_put]; omega) _ | exact get_put_self (by assumption) | apply get_put_self | refine get_put_other (by first | omega | (simp only [AHeap.n_push, AHeap.n_put]; omega)) ?_ | refine Same.get (by assumption) ?_ | refine Keeps.get (by assumption) ?_ (fun hi => by have hx := Own.out (by assumption) hi; omega)) ; fail_if_success focus skip) | fail)) (hv : cutL off n c = some l) (g : GoR P W q N ops b₀ os k ((d, .agg l.toArray) :: ov) df h Q) : GoR P W q N ops b₀ (o :: os) k ov df h Q := GoR.loadA ho hd hN hgd hx hg hv g
theorem GoL.loadA' {t ct : TypeId} {x : Operand} {b off n : Nat} {c l : List Value} (ho : o.op = .load t x) (hd : o.dst = some d) (hN : dOk d N = true) (hgd : o.guard = none) (hx : evO ov x = some (.pointer (some ⟨b, off, none⟩))) [hc : CT P t (some n)] (hg : h.get b = some (.cells c ct) := by (first | assumption | exact AHeap.get_push_same _ _ | ((repeat first | exact AHeap.get_push_same _ _ | assumption | refine get_push_lt ?_ | exact AHeap.get_put_same _ (by simp only [AHeap.n_push, AHeap.n_put]; omega) _ | exact get_put_self (by assumption) | apply get_put_self | refine get_put_other (by first | omega | (simp only [AHeap.n_push, AHeap.n_put]; omega)) ?_ | refine Same.get (by assumption) ?_ | refine Keeps.get (by assumption) ?_ (fun hi => by have hx := Own.out (by assumption) hi; omega)) ; fail_if_success focus skip) | fail)) (hv : cutL off n c = some l) (g : GoL P W q N ops (tr ++ [some ⟨h.n, h.n, [b], [], false, true⟩]) os k ((d, .agg l.toArray) :: ov) df h Q) : GoL P W q N ops tr (o :: os) k ov df h Q := GoL.loadA ho hd hN hgd hx hg hv g
theorem GoR.loadV' {t : TypeId} {x : Operand} {kv : Nat} {v : Value} {sz : Nat} {a : Option Addr} {len cap : Nat} {cs : List Value} (ho : o.op = .load t x) (hd : o.dst = some d) (hN : dOk d N = true) (hgd : o.guard = none) (hx : evO ov x = some (ptA a kv)) [hc : CT P t none] (hS : Rv P h sz a len cap cs := by first | assumption | exact Rv.same (h := h) (by assumption) (by assumption) | exact Sv.rv (by assumption) | ((repeat first | assumption | refine Rv.pushPut ?_ _ _ | refine Rv.push ?_ _ | refine Rv.same ?_ (by assumption) | exact Sv.rv (by assumption)) ; fail_if_success focus skip) | fail) (hv : cs[kv]? = some v := by (first | rfl | assumption | (simp only [List.getElem?_cons_zero, List.getElem?_cons_succ, Int.toNat_natCast, Nat.mul_one, Nat.add_zero, Nat.zero_add]; first | rfl | assumption))) (g : GoR P W q N ops b₀ os k ((d, v) :: ov) df h Q) : GoR P W q N ops b₀ (o :: os) k ov df h Q := GoR.loadV ho hd hN hgd hx hS hv g
theorem GoL.loadV' {t : TypeId} {x : Operand} {kv : Nat} {v : Value} {sz : Nat} {a : Option Addr} {len cap : Nat} {cs : List Value} (ho : o.op = .load t x) (hd : o.dst = some d) (hN : dOk d N = true) (hgd : o.guard = none) (hx : evO ov x = some (ptA a kv)) [hc : CT P t none] (hS : Rv P h sz a len cap cs := by first | assumption | exact Rv.same (h := h) (by assumption) (by assumption) | exact Sv.rv (by assumption) | ((repeat first | assumption | refine Rv.pushPut ?_ _ _ | refine Rv.push ?_ _ | refine Rv.same ?_ (by assumption) | exact Sv.rv (by assumption)) ; fail_if_success focus skip) | fail) (hv : cs[kv]? = some v := by (first | rfl | assumption | (simp only [List.getElem?_cons_zero, List.getElem?_cons_succ, Int.toNat_natCast, Nat.mul_one, Nat.add_zero, Nat.zero_add]; first | rfl | assumption))) (g : GoL P W q N ops (tr ++ [(some ⟨h.n, h.n, (blk a), [], false, true⟩)]) os k ((d, v) :: ov) df h Q) : GoL P W q N ops tr (o :: os) k ov df h Q := GoL.loadV ho hd hN hgd hx hS hv g
theorem GoR.indexN' {t : TypeId} {x y : Operand} {kk : IntKind} {i : Nat} {a : Option Addr} {len cap : Nat} {cs : List Value} (ho : o.op = .indexAddr t x y) (hd : o.dst = some d) (hN : dOk d N = true) (hgd : o.guard = none) (hx : evO ov x = some (.slice a len cap)) (hy : evO ov y = some (.int kk (i : Int))) [he : EL P t (none, 1)] (hS : Rv P h 1 a len cap cs := by first | assumption | exact Rv.same (h := h) (by assumption) (by assumption) | exact Sv.rv (by assumption) | ((repeat first | assumption | refine Rv.pushPut ?_ _ _ | refine Rv.push ?_ _ | refine Rv.same ?_ (by assumption) | exact Sv.rv (by assumption)) ; fail_if_success focus skip) | fail) (h1 : i < len := by first | omega | (simp only [Int.toNat_natCast] at *; omega)) (g : GoR P W q N ops b₀ os k ((d, ptA a i) :: ov) df h Q) : GoR P W q N ops b₀ (o :: os) k ov df h Q := GoR.indexN ho hd hN hgd hx hy hS h1 g
theorem GoL.indexN' {t : TypeId} {x y : Operand} {kk : IntKind} {i : Nat} {a : Option Addr} {len cap : Nat} {cs : List Value} (ho : o.op = .indexAddr t x y) (hd : o.dst = some d) (hN : dOk d N = true) (hgd : o.guard = none) (hx : evO ov x = some (.slice a len cap)) (hy : evO ov y = some (.int kk (i : Int))) [he : EL P t (none, 1)] (hS : Rv P h 1 a len cap cs := by first | assumption | exact Rv.same (h := h) (by assumption) (by assumption) | exact Sv.rv (by assumption) | ((repeat first | assumption | refine Rv.pushPut ?_ _ _ | refine Rv.push ?_ _ | refine Rv.same ?_ (by assumption) | exact Sv.rv (by assumption)) ; fail_if_success focus skip) | fail) (h1 : i < len := by first | omega | (simp only [Int.toNat_natCast] at *; omega)) (g : GoL P W q N ops (tr ++ [none]) os k ((d, ptA a i) :: ov) df h Q) : GoL P W q N ops tr (o :: os) k ov df h Q := GoL.indexN ho hd hN hgd hx hy hS h1 g
theorem GoR.indexNs' {t : TypeId} {x y : Operand} {kk : IntKind} {i : Nat} {sz : Nat} {a : Option Addr} {len cap : Nat} {cs : List Value} (ho : o.op = .indexAddr t x y) (hd : o.dst = some d) (hN : dOk d N = true) (hgd : o.guard = none) (hx : evO ov x = some (.slice a len cap)) (hy : evO ov y = some (.int kk (i : Int))) [he : EL P t (none, sz)] (hS : Rv P h sz a len cap cs := by first | assumption | exact Rv.same (h := h) (by assumption) (by assumption) | exact Sv.rv (by assumption) | ((repeat first | assumption | refine Rv.pushPut ?_ _ _ | refine Rv.push ?_ _ | refine Rv.same ?_ (by assumption) | exact Sv.rv (by assumption)) ; fail_if_success focus skip) | fail) (h1 : i < len := by first | omega | (simp only [Int.toNat_natCast] at *; omega)) (g : GoR P W q N ops b₀ os k ((d, ptA a (i * sz)) :: ov) df h Q) : GoR P W q N ops b₀ (o :: os) k ov df h Q := GoR.indexNs ho hd hN hgd hx hy hS h1 g
theorem GoL.indexNs' {t : TypeId} {x y : Operand} {kk : IntKind} {i : Nat} {sz : Nat} {a : Option Addr} {len cap : Nat} {cs : List Value} (ho : o.op = .indexAddr t x y) (hd : o.dst = some d) (hN : dOk d N = true) (hgd : o.guard = none) (hx : evO ov x = some (.slice a len cap)) (hy : evO ov y = some (.int kk (i : Int))) [he : EL P t (none, sz)] (hS : Rv P h sz a len cap cs := by first | assumption | exact Rv.same (h := h) (by assumption) (by assumption) | exact Sv.rv (by assumption) | ((repeat first | assumption | refine Rv.pushPut ?_ _ _ | refine Rv.push ?_ _ | refine Rv.same ?_ (by assumption) | exact Sv.rv (by assumption)) ; fail_if_success focus skip) | fail) (h1 : i < len := by first | omega | (simp only [Int.toNat_natCast] at *; omega)) (g : GoL P W q N ops (tr ++ [none]) os k ((d, ptA a (i * sz)) :: ov) df h Q) : GoL P W q N ops tr (o :: os) k ov df h Q := GoL.indexNs ho hd hN hgd hx hy hS h1 g
theorem GoR.indexV' {t : TypeId} {x y : Operand} {kk : IntKind} {i : Int} {sz : Nat} {a : Option Addr} {len cap : Nat} {cs : List Value} (ho : o.op = .indexAddr t x y) (hd : o.dst = some d) (hN : dOk d N = true) (hgd : o.guard = none) (hx : evO ov x = some (.slice a len cap)) (hy : evO ov y = some (.int kk i)) [he : EL P t (none, sz)] (hS : Rv P h sz a len cap cs := by first | assumption | exact Rv.same (h := h) (by assumption) (by assumption) | exact Sv.rv (by assumption) | ((repeat first | assumption | refine Rv.pushPut ?_ _ _ | refine Rv.push ?_ _ | refine Rv.same ?_ (by assumption) | exact Sv.rv (by assumption)) ; fail_if_success focus skip) | fail) (h0 : 0 ≤ i := by first | omega | (simp only [Int.toNat_natCast] at *; omega)) (h1 : i < (len : Int) := by first | omega | (simp only [Int.toNat_natCast] at *; omega)) (g : GoR P W q N ops b₀ os k ((d, (ptA a (i.toNat * sz))) :: ov) df h Q) : GoR P W q N ops b₀ (o :: os) k ov df h Q := GoR.indexV ho hd hN hgd hx hy hS h0 h1 g
theorem GoL.indexV' {t : TypeId} {x y : Operand} {kk : IntKind} {i : Int} {sz : Nat} {a : Option Addr} {len cap : Nat} {cs : List Value} (ho : o.op = .indexAddr t x y) (hd : o.dst = some d) (hN : dOk d N = true) (hgd : o.guard = none) (hx : evO ov x = some (.slice a len cap)) (hy : evO ov y = some (.int kk i)) [he : EL P t (none, sz)] (hS : Rv P h sz a len cap cs := by first | assumption | exact Rv.same (h := h) (by assumption) (by assumption) | exact Sv.rv (by assumption) | ((repeat first | assumption | refine Rv.pushPut ?_ _ _ | refine Rv.push ?_ _ | refine Rv.same ?_ (by assumption) | exact Sv.rv (by assumption)) ; fail_if_success focus skip) | fail) (h0 : 0 ≤ i := by first | omega | (simp only [Int.toNat_natCast] at *; omega)) (h1 : i < (len : Int) := by first | omega | (simp only [Int.toNat_natCast] at *; omega)) (g : GoL P W q N ops (tr ++ [none]) os k ((d, (ptA a (i.toNat * sz))) :: ov) df h Q) : GoL P W q N ops tr (o :: os) k ov df h Q := GoL.indexV ho hd hN hgd hx hy hS h0 h1 g
theorem GoR.indexA' {t : TypeId} {n len : Nat} {x y : Operand} {b off : Nat} {kk : IntKind} {i : Int} (ho : o.op = .indexAddr t x y) (hd : o.dst = some d) (hN : dOk d N = true) (hgd : o.guard = none) (hx : evO ov x = some (.pointer (some ⟨b, off, none⟩))) (hy : evO ov y = some (.int kk i)) [he : EL P t (some len, n)] (h0 : 0 ≤ i := by first | omega | (simp only [Int.toNat_natCast] at *; omega)) (h1 : i < (len : Int) := by first | omega | (simp only [Int.toNat_natCast] at *; omega)) (g : GoR P W q N ops b₀ os k ((d, (.pointer (some ⟨b, off + i.toNat * n, none⟩))) :: ov) df h Q) : GoR P W q N ops b₀ (o :: os) k ov df h Q := GoR.indexA ho hd hN hgd hx hy h0 h1 g
theorem GoL.indexA' {t : TypeId} {n len : Nat} {x y : Operand} {b off : Nat} {kk : IntKind} {i : Int} (ho : o.op = .indexAddr t x y) (hd : o.dst = some d) (hN : dOk d N = true) (hgd : o.guard = none) (hx : evO ov x = some (.pointer (some ⟨b, off, none⟩))) (hy : evO ov y = some (.int kk i)) [he : EL P t (some len, n)] (h0 : 0 ≤ i := by first | omega | (simp only [Int.toNat_natCast] at *; omega)) (h1 : i < (len : Int) := by first | omega | (simp only [Int.toNat_natCast] at *; omega)) (g : GoL P W q N ops (tr ++ [none]) os k ((d, (.pointer (some ⟨b, off + i.toNat * n, none⟩))) :: ov) df h Q) : GoL P W q N ops tr (o :: os) k ov df h Q := GoL.indexA ho hd hN hgd hx hy h0 h1 g
theorem GoR.addN' {t t₂ : TypeId} {x y : Operand} {i j : Nat} (ho : o.op = .binOp .add t x y t₂) (hd : o.dst = some d) (hN : dOk d N = true) (hgd : o.guard = none) (hx : evO ov x = some (.int .i64 (i : Int))) (hy : evO ov y = some (.int .i64 (j : Int))) (h1 : i + j ≤ 9223372036854775807 := by first | omega | (simp only [Int.toNat_natCast] at *; omega)) (g : GoR P W q N ops b₀ os k ((d, .int .i64 ((i + j : Nat) : Int)) :: ov) df h Q) : GoR P W q N ops b₀ (o :: os) k ov df h Q := GoR.addN ho hd hN hgd hx hy h1 g
theorem GoL.addN' {t t₂ : TypeId} {x y : Operand} {i j : Nat} (ho : o.op = .binOp .add t x y t₂) (hd : o.dst = some d) (hN : dOk d N = true) (hgd : o.guard = none) (hx : evO ov x = some (.int .i64 (i : Int))) (hy : evO ov y = some (.int .i64 (j : Int))) (h1 : i + j ≤ 9223372036854775807 := by first | omega | (simp only [Int.toNat_natCast] at *; omega)) (g : GoL P W q N ops (tr ++ [none]) os k ((d, .int .i64 ((i + j : Nat) : Int)) :: ov) df h Q) : GoL P W q N ops tr (o :: os) k ov df h Q := GoL.addN ho hd hN hgd hx hy h1 g
theorem GoR.subN' {t t₂ : TypeId} {x y : Operand} {i j : Nat} (ho : o.op = .binOp .sub t x y t₂) (hd : o.dst = some d) (hN : dOk d N = true) (hgd : o.guard = none) (hx : evO ov x = some (.int .i64 (i : Int))) (hy : evO ov y = some (.int .i64 (j : Int))) (h1 : j ≤ i := by first | omega | (simp only [Int.toNat_natCast] at *; omega)) (h2 : i ≤ 9223372036854775807 := by first | omega | (simp only [Int.toNat_natCast] at *; omega)) (g : GoR P W q N ops b₀ os k ((d, .int .i64 ((i - j : Nat) : Int)) :: ov) df h Q) : GoR P W q N ops b₀ (o :: os) k ov df h Q := GoR.subN ho hd hN hgd hx hy h1 h2 g
theorem GoL.subN' {t t₂ : TypeId} {x y : Operand} {i j : Nat} (ho : o.op = .binOp .sub t x y t₂) (hd : o.dst = some d) (hN : dOk d N = true) (hgd : o.guard = none) (hx : evO ov x = some (.int .i64 (i : Int))) (hy : evO ov y = some (.int .i64 (j : Int))) (h1 : j ≤ i := by first | omega | (simp only [Int.toNat_natCast] at *; omega)) (h2 : i ≤ 9223372036854775807 := by first | omega | (simp only [Int.toNat_natCast] at *; omega)) (g : GoL P W q N ops (tr ++ [none]) os k ((d, .int .i64 ((i - j : Nat) : Int)) :: ov) df h Q) : GoL P W q N ops tr (o :: os) k ov df h Q := GoL.subN ho hd hN hgd hx hy h1 h2 g
theorem GoR.add' {t t₂ : TypeId} {x y : Operand} {i j : Int} (ho : o.op = .binOp .add t x y t₂) (hd : o.dst = some d) (hN : dOk d N = true) (hgd : o.guard = none) (hx : evO ov x = some (.int .i64 i)) (hy : evO ov y = some (.int .i64 j)) (h0 : -9223372036854775808 ≤ i + j := by first | omega | (simp only [Int.toNat_natCast] at *; omega)) (h1 : i + j ≤ 9223372036854775807 := by first | omega | (simp only [Int.toNat_natCast] at *; omega)) (g : GoR P W q N ops b₀ os k ((d, .int .i64 (i + j)) :: ov) df h Q) : GoR P W q N ops b₀ (o :: os) k (ov) df h Q := GoR.add ho hd hN hgd hx hy h0 h1 g
theorem GoL.add' {t t₂ : TypeId} {x y : Operand} {i j : Int} (ho : o.op = .binOp .add t x y t₂) (hd : o.dst = some d) (hN : dOk d N = true) (hgd : o.guard = none) (hx : evO ov x = some (.int .i64 i)) (hy : evO ov y = some (.int .i64 j)) (h0 : -9223372036854775808 ≤ i + j := by first | omega | (simp only [Int.toNat_natCast] at *; omega)) (h1 : i + j ≤ 9223372036854775807 := by first | omega | (simp only [Int.toNat_natCast] at *; omega)) (g : GoL P W q N ops (tr ++ [none]) os k ((d, .int .i64 (i + j)) :: ov) df h Q) : GoL P W q N ops tr (o :: os) k (ov) df h Q := GoL.add ho hd hN hgd hx hy h0 h1 g
theorem GoR.sub' {t t₂ : TypeId} {x y : Operand} {i j : Int} (ho : o.op = .binOp .sub t x y t₂) (hd : o.dst = some d) (hN : dOk d N = true) (hgd : o.guard = none) (hx : evO ov x = some (.int .i64 i)) (hy : evO ov y = some (.int .i64 j)) (h0 : -9223372036854775808 ≤ i - j := by first | omega | (simp only [Int.toNat_natCast] at *; omega)) (h1 : i - j ≤ 9223372036854775807 := by first | omega | (simp only [Int.toNat_natCast] at *; omega)) (g : GoR P W q N ops b₀ os k ((d, .int .i64 (i - j)) :: ov) df h Q) : GoR P W q N ops b₀ (o :: os) k (ov) df h Q := GoR.sub ho hd hN hgd hx hy h0 h1 g
theorem GoL.sub' {t t₂ : TypeId} {x y : Operand} {i j : Int} (ho : o.op = .binOp .sub t x y t₂) (hd : o.dst = some d) (hN : dOk d N = true) (hgd : o.guard = none) (hx : evO ov x = some (.int .i64 i)) (hy : evO ov y = some (.int .i64 j)) (h0 : -9223372036854775808 ≤ i - j := by first | omega | (simp only [Int.toNat_natCast] at *; omega)) (h1 : i - j ≤ 9223372036854775807 := by first | omega | (simp only [Int.toNat_natCast] at *; omega)) (g : GoL P W q N ops (tr ++ [none]) os k ((d, .int .i64 (i - j)) :: ov) df h Q) : GoL P W q N ops tr (o :: os) k (ov) df h Q := GoL.sub ho hd hN hgd hx hy h0 h1 g
theorem GoR.addM' {t t₂ : TypeId} {x y : Operand} {kd : IntKind} {i j : Nat} (ho : o.op = .binOp .add t x y t₂) (hd : o.dst = some d) (hN : dOk d N = true) (hgd : o.guard = none) (hx : evO ov x = some (.int kd (i : Int))) (hy : evO ov y = some (.int kd (j : Int))) (h1 : i + j < 2 ^ (kd.bits - if kd.signed then 1 else 0) := by first | (simp [IntKind.bits, IntKind.signed]; fail_if_success focus skip) | (simp [IntKind.bits, IntKind.signed]; omega)) (g : GoR P W q N ops b₀ os k ((d, .int kd ((i + j : Nat) : Int)) :: ov) df h Q) : GoR P W q N ops b₀ (o :: os) k ov df h Q := GoR.addM ho hd hN hgd hx hy h1 g
theorem GoL.addM' {t t₂ : TypeId} {x y : Operand} {kd : IntKind} {i j : Nat} (ho : o.op = .binOp .add t x y t₂) (hd : o.dst = some d) (hN : dOk d N = true) (hgd : o.guard = none) (hx : evO ov x = some (.int kd (i : Int))) (hy : evO ov y = some (.int kd (j : Int))) (h1 : i + j < 2 ^ (kd.bits - if kd.signed then 1 else 0) := by first | (simp [IntKind.bits, IntKind.signed]; fail_if_success focus skip) | (simp [IntKind.bits, IntKind.signed]; omega)) (g : GoL P W q N ops (tr ++ [none]) os k ((d, .int kd ((i + j : Nat) : Int)) :: ov) df h Q) : GoL P W q N ops tr (o :: os) k ov df h Q := GoL.addM ho hd hN hgd hx hy h1 g
theorem GoR.subM' {t t₂ : TypeId} {x y : Operand} {kd : IntKind} {i j : Nat} (ho : o.op = .binOp .sub t x y t₂) (hd : o.dst = some d) (hN : dOk d N = true) (hgd : o.guard = none) (hx : evO ov x = some (.int kd (i : Int))) (hy : evO ov y = some (.int kd (j : Int))) (h0 : j ≤ i := by first | omega | (simp only [Int.toNat_natCast] at *; omega)) (h1 : i < 2 ^ (kd.bits - if kd.signed then 1 else 0) := by first | (simp [IntKind.bits, IntKind.signed]; fail_if_success focus skip) | (simp [IntKind.bits, IntKind.signed]; omega)) (g : GoR P W q N ops b₀ os k ((d, .int kd ((i - j : Nat) : Int)) :: ov) df h Q) : GoR P W q N ops b₀ (o :: os) k ov df h Q := GoR.subM ho hd hN hgd hx hy h0 h1 g
theorem GoL.subM' {t t₂ : TypeId} {x y : Operand} {kd : IntKind} {i j : Nat} (ho : o.op = .binOp .sub t x y t₂) (hd : o.dst = some d) (hN : dOk d N = true) (hgd : o.guard = none) (hx : evO ov x = some (.int kd (i : Int))) (hy : evO ov y = some (.int kd (j : Int))) (h0 : j ≤ i := by first | omega | (simp only [Int.toNat_natCast] at *; omega)) (h1 : i < 2 ^ (kd.bits - if kd.signed then 1 else 0) := by first | (simp [IntKind.bits, IntKind.signed]; fail_if_success focus skip) | (simp [IntKind.bits, IntKind.signed]; omega)) (g : GoL P W q N ops (tr ++ [none]) os k ((d, .int kd ((i - j : Nat) : Int)) :: ov) df h Q) : GoL P W q N ops tr (o :: os) k ov df h Q := GoL.subM ho hd hN hgd hx hy h0 h1 g
theorem GoR.mulM' {t t₂ : TypeId} {x y : Operand} {kd : IntKind} {i j : Nat} (ho : o.op = .binOp .mul t x y t₂) (hd : o.dst = some d) (hN : dOk d N = true) (hgd : o.guard = none) (hx : evO ov x = some (.int kd (i : Int))) (hy : evO ov y = some (.int kd (j : Int))) (h1 : i * j < 2 ^ (kd.bits - if kd.signed then 1 else 0) := by first | (simp [IntKind.bits, IntKind.signed]; fail_if_success focus skip) | (simp [IntKind.bits, IntKind.signed]; omega)) (g : GoR P W q N ops b₀ os k ((d, .int kd ((i * j : Nat) : Int)) :: ov) df h Q) : GoR P W q N ops b₀ (o :: os) k ov df h Q := GoR.mulM ho hd hN hgd hx hy h1 g
theorem GoL.mulM' {t t₂ : TypeId} {x y : Operand} {kd : IntKind} {i j : Nat} (ho : o.op = .binOp .mul t x y t₂) (hd : o.dst = some d) (hN : dOk d N = true) (hgd : o.guard = none) (hx : evO ov x = some (.int kd (i : Int))) (hy : evO ov y = some (.int kd (j : Int))) (h1 : i * j < 2 ^ (kd.bits - if kd.signed then 1 else 0) := by first | (simp [IntKind.bits, IntKind.signed]; fail_if_success focus skip) | (simp [IntKind.bits, IntKind.signed]; omega)) (g : GoL P W q N ops (tr ++ [none]) os k ((d, .int kd ((i * j : Nat) : Int)) :: ov) df h Q) : GoL P W q N ops tr (o :: os) k ov df h Q := GoL.mulM ho hd hN hgd hx hy h1 g
theorem GoR.shlN' {t t₂ : TypeId} {x y : Operand} {kd kd' : IntKind} {i j : Nat} (ho : o.op = .binOp .shl t x y t₂) (hd : o.dst = some d) (hN : dOk d N = true) (hgd : o.guard = none) (hx : evO ov x = some (.int kd (i : Int))) (hy : evO ov y = some (.int kd' (j : Int))) (h1 : Nat.ble j kd.bits = true) (h2 : i * 2 ^ j < 2 ^ (kd.bits - if kd.signed then 1 else 0) := by first | (simp [IntKind.bits, IntKind.signed]; fail_if_success focus skip) | (simp [IntKind.bits, IntKind.signed]; omega)) (g : GoR P W q N ops b₀ os k ((d, .int kd ((i * 2 ^ j : Nat) : Int)) :: ov) df h Q) : GoR P W q N ops b₀ (o :: os) k ov df h Q := GoR.shlN ho hd hN hgd hx hy h1 h2 g
theorem GoL.shlN' {t t₂ : TypeId} {x y : Operand} {kd kd' : IntKind} {i j : Nat} (ho : o.op = .binOp .shl t x y t₂) (hd : o.dst = some d) (hN : dOk d N = true) (hgd : o.guard = none) (hx : evO ov x = some (.int kd (i : Int))) (hy : evO ov y = some (.int kd' (j : Int))) (h1 : Nat.ble j kd.bits = true) (h2 : i * 2 ^ j < 2 ^ (kd.bits - if kd.signed then 1 else 0) := by first | (simp [IntKind.bits, IntKind.signed]; fail_if_success focus skip) | (simp [IntKind.bits, IntKind.signed]; omega)) (g : GoL P W q N ops (tr ++ [none]) os k ((d, .int kd ((i * 2 ^ j : Nat) : Int)) :: ov) df h Q) : GoL P W q N ops tr (o :: os) k ov df h Q := GoL.shlN ho hd hN hgd hx hy h1 h2 g
theorem GoR.orN' {t t₂ : TypeId} {x y : Operand} {kd : IntKind} {i j : Nat} (ho : o.op = .binOp .or t x y t₂) (hd : o.dst = some d) (hN : dOk d N = true) (hgd : o.guard = none) (hx : evO ov x = some (.int kd (i : Int))) (hy : evO ov y = some (.int kd (j : Int))) (h1 : i < 2 ^ (kd.bits - if kd.signed then 1 else 0) := by first | (simp [IntKind.bits, IntKind.signed]; fail_if_success focus skip) | (simp [IntKind.bits, IntKind.signed]; omega)) (h2 : j < 2 ^ (kd.bits - if kd.signed then 1 else 0) := by first | (simp [IntKind.bits, IntKind.signed]; fail_if_success focus skip) | (simp [IntKind.bits, IntKind.signed]; omega)) (g : GoR P W q N ops b₀ os k ((d, .int kd ((i ||| j : Nat) : Int)) :: ov) df h Q) : GoR P W q N ops b₀ (o :: os) k ov df h Q := GoR.orN ho hd hN hgd hx hy h1 h2 g
theorem GoL.orN' {t t₂ : TypeId} {x y : Operand} {kd : IntKind} {i j : Nat} (ho : o.op = .binOp .or t x y t₂) (hd : o.dst = some d) (hN : dOk d N = true) (hgd : o.guard = none) (hx : evO ov x = some (.int kd (i : Int))) (hy : evO ov y = some (.int kd (j : Int))) (h1 : i < 2 ^ (kd.bits - if kd.signed then 1 else 0) := by first | (simp [IntKind.bits, IntKind.signed]; fail_if_success focus skip) | (simp [IntKind.bits, IntKind.signed]; omega)) (h2 : j < 2 ^ (kd.bits - if kd.signed then 1 else 0) := by first | (simp [IntKind.bits, IntKind.signed]; fail_if_success focus skip) | (simp [IntKind.bits, IntKind.signed]; omega)) (g : GoL P W q N ops (tr ++ [none]) os k ((d, .int kd ((i ||| j : Nat) : Int)) :: ov) df h Q) : GoL P W q N ops tr (o :: os) k ov df h Q := GoL.orN ho hd hN hgd hx hy h1 h2 g
theorem GoR.andN' {t t₂ : TypeId} {x y : Operand} {kd : IntKind} {i j : Nat} (ho : o.op = .binOp .and t x y t₂) (hd : o.dst = some d) (hN : dOk d N = true) (hgd : o.guard = none) (hx : evO ov x = some (.int kd (i : Int))) (hy : evO ov y = some (.int kd (j : Int))) (h1 : i < 2 ^ (kd.bits - if kd.signed then 1 else 0) := by first | (simp [IntKind.bits, IntKind.signed]; fail_if_success focus skip) | (simp [IntKind.bits, IntKind.signed]; omega)) (h2 : j < 2 ^ (kd.bits - if kd.signed then 1 else 0) := by first | (simp [IntKind.bits, IntKind.signed]; fail_if_success focus skip) | (simp [IntKind.bits, IntKind.signed]; omega)) (g : GoR P W q N ops b₀ os k ((d, .int kd ((i &&& j : Nat) : Int)) :: ov) df h Q) : GoR P W q N ops b₀ (o :: os) k ov df h Q := GoR.andN ho hd hN hgd hx hy h1 h2 g
theorem GoL.andN' {t t₂ : TypeId} {x y : Operand} {kd : IntKind} {i j : Nat} (ho : o.op = .binOp .and t x y t₂) (hd : o.dst = some d) (hN : dOk d N = true) (hgd : o.guard = none) (hx : evO ov x = some (.int kd (i : Int))) (hy : evO ov y = some (.int kd (j : Int))) (h1 : i < 2 ^ (kd.bits - if kd.signed then 1 else 0) := by first | (simp [IntKind.bits, IntKind.signed]; fail_if_success focus skip) | (simp [IntKind.bits, IntKind.signed]; omega)) (h2 : j < 2 ^ (kd.bits - if kd.signed then 1 else 0) := by first | (simp [IntKind.bits, IntKind.signed]; fail_if_success focus skip) | (simp [IntKind.bits, IntKind.signed]; omega)) (g : GoL P W q N ops (tr ++ [none]) os k ((d, .int kd ((i &&& j : Nat) : Int)) :: ov) df h Q) : GoL P W q N ops tr (o :: os) k ov df h Q := GoL.andN ho hd hN hgd hx hy h1 h2 g
theorem GoR.remN' {t t₂ : TypeId} {x y : Operand} {kd : IntKind} {i j : Nat} (ho : o.op = .binOp .rem t x y t₂) (hd : o.dst = some d) (hN : dOk d N = true) (hgd : o.guard = none) (hx : evO ov x = some (.int kd (i : Int))) (hy : evO ov y = some (.int kd (j : Int))) (h1 : 0 < j := by first | omega | (simp only [Int.toNat_natCast] at *; omega)) (g : GoR P W q N ops b₀ os k ((d, .int kd ((i % j : Nat) : Int)) :: ov) df h Q) : GoR P W q N ops b₀ (o :: os) k ov df h Q := GoR.remN ho hd hN hgd hx hy h1 g
theorem GoL.remN' {t t₂ : TypeId} {x y : Operand} {kd : IntKind} {i j : Nat} (ho : o.op = .binOp .rem t x y t₂) (hd : o.dst = some d) (hN : dOk d N = true) (hgd : o.guard = none) (hx : evO ov x = some (.int kd (i : Int))) (hy : evO ov y = some (.int kd (j : Int))) (h1 : 0 < j := by first | omega | (simp only [Int.toNat_natCast] at *; omega)) (g : GoL P W q N ops (tr ++ [none]) os k ((d, .int kd ((i % j : Nat) : Int)) :: ov) df h Q) : GoL P W q N ops tr (o :: os) k ov df h Q := GoL.remN ho hd hN hgd hx hy h1 g
theorem GoR.quoN' {t t₂ : TypeId} {x y : Operand} {kd : IntKind} {i j : Nat} (ho : o.op = .binOp .quo t x y t₂) (hd : o.dst = some d) (hN : dOk d N = true) (hgd : o.guard = none) (hx : evO ov x = some (.int kd (i : Int))) (hy : evO ov y = some (.int kd (j : Int))) (h1 : 0 < j := by first | omega | (simp only [Int.toNat_natCast] at *; omega)) (h2 : i < 2 ^ (kd.bits - if kd.signed then 1 else 0) := by first | (simp [IntKind.bits, IntKind.signed]; fail_if_success focus skip) | (simp [IntKind.bits, IntKind.signed]; omega)) (g : GoR P W q N ops b₀ os k ((d, .int kd ((i / j : Nat) : Int)) :: ov) df h Q) : GoR P W q N ops b₀ (o :: os) k ov df h Q := GoR.quoN ho hd hN hgd hx hy h1 h2 g
theorem GoL.quoN' {t t₂ : TypeId} {x y : Operand} {kd : IntKind} {i j : Nat} (ho : o.op = .binOp .quo t x y t₂) (hd : o.dst = some d) (hN : dOk d N = true) (hgd : o.guard = none) (hx : evO ov x = some (.int kd (i : Int))) (hy : evO ov y = some (.int kd (j : Int))) (h1 : 0 < j := by first | omega | (simp only [Int.toNat_natCast] at *; omega)) (h2 : i < 2 ^ (kd.bits - if kd.signed then 1 else 0) := by first | (simp [IntKind.bits, IntKind.signed]; fail_if_success focus skip) | (simp [IntKind.bits, IntKind.signed]; omega)) (g : GoL P W q N ops (tr ++ [none]) os k ((d, .int kd ((i / j : Nat) : Int)) :: ov) df h Q) : GoL P W q N ops tr (o :: os) k ov df h Q := GoL.quoN ho hd hN hgd hx hy h1 h2 g
theorem GoR.convW' {t t₂ : TypeId} {x : Operand} {kd kd' : IntKind} {i : Nat} (ho : o.op = .convert t t₂ x) (hd : o.dst = some d) (hN : dOk d N = true) (hgd : o.guard = none) (hx : evO ov x = some (.int kd' (i : Int))) [hc : IC P t t₂ kd] (hs : i < 2 ^ (kd.bits - if kd.signed then 1 else 0) := by first | (simp [IntKind.bits, IntKind.signed]; omega) | omega) (g : GoR P W q N ops b₀ os k ((d, .int kd (i : Int)) :: ov) df h Q) : GoR P W q N ops b₀ (o :: os) k ov df h Q := GoR.convW ho hd hN hgd hx hs g
theorem GoL.convW' {t t₂ : TypeId} {x : Operand} {kd kd' : IntKind} {i : Nat} (ho : o.op = .convert t t₂ x) (hd : o.dst = some d) (hN : dOk d N = true) (hgd : o.guard = none) (hx : evO ov x = some (.int kd' (i : Int))) [hc : IC P t t₂ kd] (hs : i < 2 ^ (kd.bits - if kd.signed then 1 else 0) := by first | (simp [IntKind.bits, IntKind.signed]; omega) | omega) (g : GoL P W q N ops (tr ++ [none]) os k ((d, .int kd (i : Int)) :: ov) df h Q) : GoL P W q N ops tr (o :: os) k ov df h Q := GoL.convW ho hd hN hgd hx hs g
theorem GoR.strV' {t t₂ : TypeId} {x : Operand} {a : Option Addr} {len cap : Nat} {zs : List UInt8} (ho : o.op = .convert t t₂ x) (hd : o.dst = some d) (hN : dOk d N = true) (hgd : o.guard = none) (hx : evO ov x = some (.slice a len cap)) [hB : BY P t t₂] (hS : Rv P h 1 a len cap (zs.map bv) := by first | assumption | exact Rv.same (h := h) (by assumption) (by assumption) | exact Sv.rv (by assumption) | ((repeat first | assumption | refine Rv.pushPut ?_ _ _ | refine Rv.push ?_ _ | refine Rv.same ?_ (by assumption) | exact Sv.rv (by assumption)) ; fail_if_success focus skip) | fail) (g : GoR P W q N ops b₀ os k ((d, .string ⟨zs.toArray⟩) :: ov) df h Q) : GoR P W q N ops b₀ (o :: os) k ov df h Q := GoR.strV ho hd hN hgd hx hS g
theorem GoL.strV' {t t₂ : TypeId} {x : Operand} {a : Option Addr} {len cap : Nat} {zs : List UInt8} (ho : o.op = .convert t t₂ x) (hd : o.dst = some d) (hN : dOk d N = true) (hgd : o.guard = none) (hx : evO ov x = some (.slice a len cap)) [hB : BY P t t₂] (hS : Rv P h 1 a len cap (zs.map bv) := by first | assumption | exact Rv.same (h := h) (by assumption) (by assumption) | exact Sv.rv (by assumption) | ((repeat first | assumption | refine Rv.pushPut ?_ _ _ | refine Rv.push ?_ _ | refine Rv.same ?_ (by assumption) | exact Sv.rv (by assumption)) ; fail_if_success focus skip) | fail) (g : ∀ rd, (∀ i ∈ rd, i ∈ blk a) → GoL P W q N ops (tr ++ [some ⟨h.n, h.n, rd, [], false, true⟩]) os k ((d, .string ⟨zs.toArray⟩) :: ov) df h Q) : GoL P W q N ops tr (o :: os) k ov df h Q := GoL.strV ho hd hN hgd hx hS g
theorem GoR.store' {t ct : TypeId} {x y : Operand} {b off n : Nat} {c l c' : List Value} {v : Value} (ho : o.op = .store t x y) (hd : o.dst = none) (hgd : o.guard = none) (hx : evO ov x = some (.pointer (some ⟨b, off, none⟩))) (hy : evO ov y = some v) [hs : SZ P t n] (hg : h.get b = some (.cells c ct) := by (first | assumption | exact AHeap.get_push_same _ _ | ((repeat first | exact AHeap.get_push_same _ _ | assumption | refine get_push_lt ?_ | exact AHeap.get_put_same _ (by simp only [AHeap.n_push, AHeap.n_put]; omega) _ | exact get_put_self (by assumption) | apply get_put_self | refine get_put_other (by first | omega | (simp only [AHeap.n_push, AHeap.n_put]; omega)) ?_ | refine Same.get (by assumption) ?_ | refine Keeps.get (by assumption) ?_ (fun hi => by have hx := Own.out (by assumption) hi; omega)) ; fail_if_success focus skip) | fail)) (hl : cellsL v = l) (h1 : l.length = n) (h2 : off + n ≤ c.length := by first | (simp; fail_if_success focus skip) | (simp [cellsL]; fail_if_success focus skip) | (simp [cellsL]; omega)) (h3 : l.all Value.oneCell' = true) (hc : setL c off l = c' := by first | (simp only [setL, cellsL, List.take_zero, List.take_succ_cons, List.drop_succ_cons, List.drop_zero, List.drop_nil, List.length_cons, List.length_nil, List.nil_append, List.cons_append, Nat.zero_add, Nat.reduceAdd, List.take_nil]; rfl) | rfl) (hw : W b := by first | exact .inr (by omega) | exact .inr (by simp only [AHeap.n_push, AHeap.n_put]; omega) | (simp; fail_if_success focus skip) | (simp; omega)) (g : GoR P W q N ops true os k ov df (h.put b (some (.cells c' ct))) Q) : GoR P W q N ops true (o :: os) k ov df h Q := GoR.store ho hd hgd hx hy hg hl h1 h2 h3 hc hw g
theorem GoL.store' {t ct : TypeId} {x y : Operand} {b off n : Nat} {c l c' : List Value} {v : Value} (ho : o.op = .store t x y) (hd : o.dst = none) (hgd : o.guard = none) (hx : evO ov x = some (.pointer (some ⟨b, off, none⟩))) (hy : evO ov y = some v) [hs : SZ P t n] (hg : h.get b = some (.cells c ct) := by (first | assumption | exact AHeap.get_push_same _ _ | ((repeat first | exact AHeap.get_push_same _ _ | assumption | refine get_push_lt ?_ | exact AHeap.get_put_same _ (by simp only [AHeap.n_push, AHeap.n_put]; omega) _ | exact get_put_self (by assumption) | apply get_put_self | refine get_put_other (by first | omega | (simp only [AHeap.n_push, AHeap.n_put]; omega)) ?_ | refine Same.get (by assumption) ?_ | refine Keeps.get (by assumption) ?_ (fun hi => by have hx := Own.out (by assumption) hi; omega)) ; fail_if_success focus skip) | fail)) (hl : cellsL v = l) (h1 : l.length = n) (h2 : off + n ≤ c.length := by first | (simp; fail_if_success focus skip) | (simp [cellsL]; fail_if_success focus skip) | (simp [cellsL]; omega)) (h3 : l.all Value.oneCell' = true) (hc : setL c off l = c' := by first | (simp only [setL, cellsL, List.take_zero, List.take_succ_cons, List.drop_succ_cons, List.drop_zero, List.drop_nil, List.length_cons, List.length_nil, List.nil_append, List.cons_append, Nat.zero_add, Nat.reduceAdd, List.take_nil]; rfl) | rfl) (hw : W b := by first | exact .inr (by omega) | exact .inr (by simp only [AHeap.n_push, AHeap.n_put]; omega) | (simp; fail_if_success focus skip) | (simp; omega)) (g : GoL P W q N ops (tr ++ [(some ⟨h.n, h.n, [b], [b], false, false⟩)]) os k ov df (h.put b (some (.cells c' ct))) Q) : GoL P W q N ops tr (o :: os) k ov df h Q := GoL.store ho hd hgd hx hy hg hl h1 h2 h3 hc hw g
theorem GoR.store1' {t tt : TypeId} {x y : Operand} {kv sz : Nat} {a : Option Addr} {len cap : Nat} {cs : List Value} {v : Value} (ho : o.op = .store t x y) (hd : o.dst = none) (hgd : o.guard = none) (hx : evO ov x = some (ptA a kv)) (hy : evO ov y = some v) [hs : SZ P t 1] (h1 : v.oneCell' = true) (hS : Sv h tt sz a len cap cs := by first | assumption | exact Sv.same (h := h) (by assumption) (by assumption) | fail) (h2 : kv < cs.length := by first | omega | (simp only [List.length_set, List.length_append, List.length_cons, List.length_nil, List.length_replicate]; omega) | (simp; omega)) (hw : ∀ i ∈ blk a, W i := by exact Own.ok (by assumption) (by omega)) (g : ∀ h', Sv h' tt sz a len cap (cs.set kv v) → Keeps (blk a) h h' → h'.n = h.n → GoR P W q N ops true os k ov df h' Q) : GoR P W q N ops true (o :: os) k ov df h Q := GoR.store1 ho hd hgd hx hy h1 hS h2 hw g
theorem GoL.store1' {t tt : TypeId} {x y : Operand} {kv sz : Nat} {a : Option Addr} {len cap : Nat} {cs : List Value} {v : Value} (ho : o.op = .store t x y) (hd : o.dst = none) (hgd : o.guard = none) (hx : evO ov x = some (ptA a kv)) (hy : evO ov y = some v) [hs : SZ P t 1] (h1 : v.oneCell' = true) (hS : Sv h tt sz a len cap cs := by first | assumption | exact Sv.same (h := h) (by assumption) (by assumption) | fail) (h2 : kv < cs.length := by first | omega | (simp only [List.length_set, List.length_append, List.length_cons, List.length_nil, List.length_replicate]; omega) | (simp; omega)) (hw : ∀ i ∈ blk a, W i := by exact Own.ok (by assumption) (by omega)) (g : ∀ h', Sv h' tt sz a len cap (cs.set kv v) → Keeps (blk a) h h' → h'.n = h.n → GoL P W q N ops (tr ++ [some ⟨h.n, h'.n, blk a, blk a, false, false⟩]) os k ov df h' Q) : GoL P W q N ops tr (o :: os) k ov df h Q := GoL.store1 ho hd hgd hx hy h1 hS h2 hw g
theorem Go.cond_t' {o : Operand} {a b : Code} {B : Bool} (ho : evO ov o = some (.bool B)) (hB : B = true := by first | with_reducible rfl | with_reducible assumption | (with_reducible refine @decide_eq_true _ _ ?_; first | with_reducible rfl | omega) | (with_reducible refine @decide_eq_false _ _ ?_; omega) | with_reducible exact Bool.not_false | with_reducible exact Bool.not_true | (simp; fail_if_success focus skip) | (simp; omega)) (g : Go P W q N (.code a :: k) .normal ov df h Q) : Go P W q N (.code (.cond o a b) :: k) .normal ov df h Q := Go.cond_t ho hB g
theorem Go.cond_f' {o : Operand} {a b : Code} {B : Bool} (ho : evO ov o = some (.bool B)) (hB : B = false := by first | with_reducible rfl | with_reducible assumption | (with_reducible refine @decide_eq_true _ _ ?_; first | with_reducible rfl | omega) | (with_reducible refine @decide_eq_false _ _ ?_; omega) | with_reducible exact Bool.not_false | with_reducible exact Bool.not_true | (simp; fail_if_success focus skip) | (simp; omega)) (g : Go P W q N (.code b :: k) .normal ov df h Q) : Go P W q N (.code (.cond o a b) :: k) .normal ov df h Q := Go.cond_f ho hB g
theorem Go.fin1 {x : Exit} {a : Tmp} {t ct : TypeId} {n₀ : Nat} {b off : Nat} {c : List Value} {v : Value} {Q : Value → AHeap → Prop} (hx : x = .normal ∨ x = .ret) (ha : ov.find a = some (.pointer (some ⟨b, off, none⟩))) [hc : CT P t none] (hg : h.get b = some (.cells c ct) := by (first | assumption | exact AHeap.get_push_same _ _ | ((repeat first | exact AHeap.get_push_same _ _ | assumption | refine get_push_lt ?_ | exact AHeap.get_put_same _ (by simp only [AHeap.n_push, AHeap.n_put]; omega) _ | exact get_put_self (by assumption) | apply get_put_self | refine get_put_other (by first | omega | (simp only [AHeap.n_push, AHeap.n_put]; omega)) ?_ | refine Same.get (by assumption) ?_ | refine Keeps.get (by assumption) ?_ (fun hi => by have hx := Own.out (by assumption) hi; omega)) ; fail_if_success focus skip) | fail)) (hv : c[off]? = some v := by (first | rfl | assumption | (simp only [List.getElem?_cons_zero, List.getElem?_cons_succ, Int.toNat_natCast, Nat.mul_one, Nat.add_zero, Nat.zero_add]; first | rfl | assumption))) (hq : Q v h) : Go P W q N [] x ov [] h (Fin P [.cell a t] n₀ Q) := Go.fin (vs := [v]) hx (.cell ha hc hg hv .nil) hq
end
/-- What is left to show. -/
structure Wrap (B : Prop) : Prop where
  out : B
theorem Go.run {A B : Prop} (k : Wrap B → A := by (intro b_; (repeat (first|refine GoR.end ?_|(refine GoR.gd rfl ?_;first|refine GoR.wanted' rfl rfl rfl rfl (g:=?_)|refine GoR.unwanted' rfl rfl rfl rfl (hd:=rfl) (hN:=rfl) (g:=?_)|refine GoR.unwantedU rfl rfl rfl rfl rfl rfl ?_)|(refine GoR.kk 0 rfl ?_;first|refine GoR.move rfl rfl rfl rfl rfl ?_|refine GoR.assign rfl rfl rfl rfl rfl ?_)|(refine GoR.kk 1 rfl ?_;first|refine GoR.load' rfl rfl rfl rfl rfl (g:=?_)|refine GoR.loadA' rfl rfl rfl rfl rfl (hv:=rfl) (g:=?_)|refine GoR.loadV' rfl rfl rfl rfl rfl (g:=?_))|(refine GoR.kk 2 rfl ?_;first|refine GoR.store' rfl rfl rfl rfl rfl (hl:=rfl) (h1:=rfl) (h3:=rfl) (g:=?_))|(refine GoR.kk 3 rfl ?_;first|refine GoR.fieldAddr rfl rfl rfl rfl rfl ?_|refine GoR.indexN' rfl rfl rfl rfl rfl rfl (g:=?_)|refine GoR.indexNs' rfl rfl rfl rfl rfl rfl (g:=?_)|refine GoR.indexV' rfl rfl rfl rfl rfl rfl (g:=?_)|refine GoR.indexA' rfl rfl rfl rfl rfl rfl (g:=?_))|(refine GoR.kk 4 rfl ?_;first|refine GoR.eq rfl rfl rfl rfl rfl rfl ?_|refine GoR.ne rfl rfl rfl rfl rfl rfl ?_|refine GoR.lt rfl rfl rfl rfl rfl rfl ?_|refine GoR.le rfl rfl rfl rfl rfl rfl ?_|refine GoR.gt rfl rfl rfl rfl rfl rfl ?_|refine GoR.ge rfl rfl rfl rfl rfl rfl ?_|refine GoR.addN' rfl rfl rfl rfl rfl rfl (g:=?_)|refine GoR.subN' rfl rfl rfl rfl rfl rfl (g:=?_)|refine GoR.add' rfl rfl rfl rfl rfl rfl (g:=?_)|refine GoR.sub' rfl rfl rfl rfl rfl rfl (g:=?_)|refine GoR.addM' rfl rfl rfl rfl rfl rfl (g:=?_)|refine GoR.subM' rfl rfl rfl rfl rfl rfl (g:=?_)|refine GoR.mulM' rfl rfl rfl rfl rfl rfl (g:=?_)|refine GoR.shrN rfl rfl rfl rfl rfl rfl rfl ?_|refine GoR.structEq rfl rfl rfl rfl rfl rfl (by rfl) (by rfl) ?_|refine GoR.structNe rfl rfl rfl rfl rfl rfl (by rfl) (by rfl) ?_|refine GoR.strEq rfl rfl rfl rfl rfl rfl ?_|refine GoR.strNe rfl rfl rfl rfl rfl rfl ?_|refine GoR.remN' rfl rfl rfl rfl rfl rfl (g:=?_)|refine GoR.quoN' rfl rfl rfl rfl rfl rfl (g:=?_)|refine GoR.shlN' rfl rfl rfl rfl rfl rfl rfl (g:=?_)|refine GoR.orN' rfl rfl rfl rfl rfl rfl (g:=?_))|(refine GoR.kk 5 rfl ?_;first|refine GoR.len rfl rfl rfl rfl rfl ?_|refine GoR.lenStr rfl rfl rfl rfl rfl ?_|refine GoR.capB rfl rfl rfl rfl rfl ?_)|(refine GoR.kk 7 rfl ?_;first|refine GoR.pickE' rfl rfl rfl rfl rfl (hx:=rfl) (hy:=rfl) (g:=?_)|refine GoR.pickN' rfl rfl rfl rfl rfl (hx:=rfl) (hy:=rfl) (g:=?_)|refine GoR.pickB rfl rfl rfl rfl rfl rfl rfl ?_)|(refine GoR.kk 8 rfl ?_;first|refine GoR.boxA rfl rfl rfl rfl rfl ?_|refine GoR.boxS rfl rfl rfl rfl rfl rfl ?_|refine GoR.alloc rfl rfl rfl rfl ?_)|(refine GoR.kk 9 rfl ?_;first|refine GoR.strV' rfl rfl rfl rfl rfl (g:=?_)|refine GoR.conv_u8 rfl rfl rfl rfl rfl ?_|refine GoR.convW' rfl rfl rfl rfl rfl (g:=?_)|refine GoR.conv_u16 rfl rfl rfl rfl rfl ?_|refine GoR.conv_u32 rfl rfl rfl rfl rfl ?_)|(refine GoR.kk 10 rfl ?_;first|refine GoR.build rfl rfl rfl rfl rfl rfl ?_)|(refine GoR.kk 11 rfl ?_;first|refine GoR.extract rfl rfl rfl rfl rfl rfl ?_|refine GoR.not rfl rfl rfl rfl rfl ?_|refine GoR.nilCheck rfl rfl rfl rfl rfl ?_|refine GoR.nilCheckF rfl rfl rfl rfl rfl ?_|refine GoR.makeFunc rfl rfl rfl rfl rfl rfl ?_)|(refine Go.kk 0 rfl ?_;refine Go.seq ?_)|(refine Go.kk 1 rfl ?_;refine Go.region (by kernel_rfl) rfl ?_)|(refine Go.kk 2 rfl ?_;refine Go.drawnQ rfl (by kernel_rfl) rfl ?_)|(refine Go.kk 3 rfl ?_;first|refine Go.cond_t' rfl (g:=?_)|refine Go.cond_f' rfl (g:=?_))|(refine Go.kk 4 rfl ?_;refine Go.block ?_)|(refine Go.kk 5 rfl ?_;first|refine Go.skip ?_|refine Go.ret ?_|refine Go.exit ?_|refine Go.scope ?_)|refine Go.leave_normal ?_|refine Go.leave_same ?_|refine Go.leave_ret ?_|refine Go.ret_code ?_|refine Go.exit_code ?_|refine Go.leave_other rfl ?_|refine Go.sc_normal ?_|refine Go.sc_ret ?_|refine Go.sc_exit ?_|refine Go.exit_back ?_|refine Go.ret_back ?_)); exact b_.out)) (g : B) : A := k ⟨g⟩
theorem Go.runL {A B : Prop} (k : Wrap B → A := by (intro b_; (repeat (first|(refine GoL.gd rfl ?_;first|refine GoL.wanted' rfl rfl rfl rfl (g:=?_)|refine GoL.unwanted' rfl rfl rfl rfl (hd:=rfl) (hN:=rfl) (g:=?_)|refine GoL.unwantedU rfl rfl rfl rfl rfl rfl ?_)|(refine GoL.kk 0 rfl ?_;first|refine GoL.move rfl rfl rfl rfl rfl ?_|refine GoL.assign rfl rfl rfl rfl rfl ?_)|(refine GoL.kk 1 rfl ?_;first|refine GoL.load' rfl rfl rfl rfl rfl (g:=?_)|refine GoL.loadA' rfl rfl rfl rfl rfl (hv:=rfl) (g:=?_)|refine GoL.loadV' rfl rfl rfl rfl rfl (g:=?_))|(refine GoL.kk 3 rfl ?_;first|refine GoL.fieldAddr rfl rfl rfl rfl rfl ?_|refine GoL.indexN' rfl rfl rfl rfl rfl rfl (g:=?_)|refine GoL.indexNs' rfl rfl rfl rfl rfl rfl (g:=?_)|refine GoL.indexV' rfl rfl rfl rfl rfl rfl (g:=?_)|refine GoL.indexA' rfl rfl rfl rfl rfl rfl (g:=?_))|(refine GoL.kk 4 rfl ?_;first|refine GoL.eq rfl rfl rfl rfl rfl rfl ?_|refine GoL.ne rfl rfl rfl rfl rfl rfl ?_|refine GoL.lt rfl rfl rfl rfl rfl rfl ?_|refine GoL.le rfl rfl rfl rfl rfl rfl ?_|refine GoL.gt rfl rfl rfl rfl rfl rfl ?_|refine GoL.ge rfl rfl rfl rfl rfl rfl ?_|refine GoL.addN' rfl rfl rfl rfl rfl rfl (g:=?_)|refine GoL.subN' rfl rfl rfl rfl rfl rfl (g:=?_)|refine GoL.add' rfl rfl rfl rfl rfl rfl (g:=?_)|refine GoL.sub' rfl rfl rfl rfl rfl rfl (g:=?_)|refine GoL.addM' rfl rfl rfl rfl rfl rfl (g:=?_)|refine GoL.subM' rfl rfl rfl rfl rfl rfl (g:=?_)|refine GoL.mulM' rfl rfl rfl rfl rfl rfl (g:=?_)|refine GoL.shrN rfl rfl rfl rfl rfl rfl rfl ?_|refine GoL.strEq rfl rfl rfl rfl rfl rfl ?_|refine GoL.strNe rfl rfl rfl rfl rfl rfl ?_|refine GoL.remN' rfl rfl rfl rfl rfl rfl (g:=?_)|refine GoL.quoN' rfl rfl rfl rfl rfl rfl (g:=?_)|refine GoL.shlN' rfl rfl rfl rfl rfl rfl rfl (g:=?_)|refine GoL.orN' rfl rfl rfl rfl rfl rfl (g:=?_))|(refine GoL.kk 5 rfl ?_;first|refine GoL.len rfl rfl rfl rfl rfl ?_|refine GoL.lenStr rfl rfl rfl rfl rfl ?_|refine GoL.capB rfl rfl rfl rfl rfl ?_)|(refine GoL.kk 7 rfl ?_;first|refine GoL.pickE' rfl rfl rfl rfl rfl (hx:=rfl) (hy:=rfl) (g:=?_)|refine GoL.pickN' rfl rfl rfl rfl rfl (hx:=rfl) (hy:=rfl) (g:=?_))|(refine GoL.kk 8 rfl ?_;first|refine GoL.boxA rfl rfl rfl rfl rfl ?_|refine GoL.boxS rfl rfl rfl rfl rfl rfl ?_|refine GoL.alloc rfl rfl rfl rfl ?_)|(refine GoL.kk 9 rfl ?_;first|refine GoL.conv_u8 rfl rfl rfl rfl rfl ?_|refine GoL.convW' rfl rfl rfl rfl rfl (g:=?_)|refine GoL.conv_u16 rfl rfl rfl rfl rfl ?_|refine GoL.conv_u32 rfl rfl rfl rfl rfl ?_)|(refine GoL.kk 10 rfl ?_;first|refine GoL.build rfl rfl rfl rfl rfl rfl ?_)|(refine GoL.kk 11 rfl ?_;first|refine GoL.extract rfl rfl rfl rfl rfl rfl ?_|refine GoL.not rfl rfl rfl rfl rfl ?_|refine GoL.nilCheck rfl rfl rfl rfl rfl ?_|refine GoL.nilCheckF rfl rfl rfl rfl rfl ?_|refine GoL.makeFunc rfl rfl rfl rfl rfl rfl ?_))); exact b_.out)) (g : B) : A := k ⟨g⟩
theorem GoL.end_ {P : Program} {W : Nat → Prop} {q : Bool} {N : Nat} {k : List It} {ov : Ov} {df : List Nat} {h : AHeap} {Q : PQ} {ops : Array Oper} {tr : List (Option LE)} (hl : loudP ops tr tr 0 := by (simp only [List.nil_append, List.cons_append]); repeat (first | exact loudP.nil | refine loudP.none ?_ | refine loudP.new (fun _ hb => absurd hb List.not_mem_nil) ?_ | refine loudP.row (by repeat (first | exact loudRowP.nil | refine loudRowP.none ?_ | refine loudRowP.bef (by decide +kernel) ?_ | refine loudRowP.apart (by first | exact .inl rfl | exact .inr (by simp)) rfl (by first | (intro i hi; have hx := Own.out (by assumption) hi; have hy := Sv.lt (by assumption) i hi; refine ⟨?_, ?_, ?_⟩ <;> first | (simp only [List.mem_cons, List.not_mem_nil, or_false, not_false_eq_true]; omega) | (simp; omega) | trivial | simp | omega) | fail) ?_)) ?_)) (g : Go P W q N k .normal ov df h Q) : GoL P W q N ops tr [] k ov df h Q := GoL.end hl g
end Go.Proofs.Ytmelgnpogdilgaa

/- tlv: what its bytes are, in plain Lean. No conditions. -/
namespace Go.Proofs.Ytmelgnpogdilgaa
set_option linter.unusedVariables false
theorem Same.ownO {n : Nat} {a : Option Addr} {h₀ h h' : AHeap} (s : Same h₀ h) (k : Keeps (blk a) h h') (o : Own n a) (hn : h₀.n ≤ n) : Same h₀ h' := s.own k fun i hi => Nat.le_trans hn (o i hi)
theorem Own.app {n : Nat} {a a₂ : Option Addr} {h : AHeap} (o : Own n a) (hn : n ≤ h.n) (k : ∀ i ∈ blk a₂, i ∈ blk a ∨ h.n ≤ i) : Own n a₂ := fun i hi => (k i hi).elim (o i) fun h' => Nat.le_trans hn h'
/-- The bytes of a thing. -/
def tlvB (chunk : Bool) (kind flags : Nat) (zs : List UInt8) : List UInt8 :=
  (if chunk then [UInt8.ofNat kind, UInt8.ofNat flags] else [UInt8.ofNat (kind / 256), UInt8.ofNat kind]) ++ [UInt8.ofNat ((4 + zs.length) / 256), UInt8.ofNat (4 + zs.length)] ++ zs ++ List.replicate ((zs.length + 4 + 3) / 4 * 4 - 4 - zs.length) 0
theorem tlvB_length (chunk : Bool) (kind flags : Nat) (zs : List UInt8) : (tlvB chunk kind flags zs).length = (zs.length + 4 + 3) / 4 * 4 := by
  unfold tlvB
  cases chunk <;> simp <;> omega
theorem bv_ofNat (x : Nat) : bv (UInt8.ofNat x) = .int .u8 ((x % 256 : Nat) : Int) := by simp [bv, UInt8.toNat_ofNat']
theorem set4 {L : Nat} (hL : 4 ≤ L) (a b c d z : Value) : ((((List.replicate L z).set 0 a).set 1 b).set 2 c).set 3 d = [a, b, c, d] ++ List.replicate (L - 4) z := by
  obtain ⟨m, rfl⟩ : ∃ m, L = m + 4 := ⟨L - 4, by omega⟩
  simp [List.replicate_succ]
theorem setL_tail (l r new : List Value) {k : Nat} (hl : l.length = k) : setL (l ++ r) k new = l ++ new ++ r.drop new.length := by
  subst hl
  simp [setL, List.drop_append]
theorem put_bytes (a b c d : UInt8) (zs : List UInt8) {L : Nat} (hL : zs.length + 4 ≤ L) : setL ([bv a, bv b, bv c, bv d] ++ List.replicate (L - 4) (Value.int .u8 0)) 4 (zs.map bv) = ([a, b, c, d] ++ zs ++ List.replicate (L - 4 - zs.length) 0).map bv := by
  rw [setL_tail (k := 4) [bv a, bv b, bv c, bv d] _ _ rfl]
  simp [bv]
end Go.Proofs.Ytmelgnpogdilgaa

/- The document's sum of bytes in plain Lean: its remainder is linear, parts join, and a burst of at most 32 bits changes it. -/
namespace Go.Proofs.Ytmelgnpogdilgaa.Crc

def P : Nat := 2197175160
def bit (r : Nat) : Nat := if r % 2 = 1 then (r / 2) ^^^ P else r / 2
def it : Nat → Nat → Nat
  | 0, r => r
  | n + 1, r => it n (bit r)
def beh (r c : Nat) : Nat := it 8 (r ^^^ c)
def fold (r : Nat) (l : List UInt8) : Nat := l.foldl (fun r c => beh r c.toNat) r
def more (s : Nat) (l : List UInt8) : Nat := 4294967295 - fold (4294967295 - s) l
def sum (l : List UInt8) : Nat := more 0 l

theorem xor_mod_two (a b : Nat) : (a ^^^ b) % 2 = (a % 2 + b % 2) % 2 := by
  have h := @Nat.xor_mod_two_pow a b 1
  simp only [Nat.pow_one] at h
  rw [h]
  rcases Nat.mod_two_eq_zero_or_one a with ha | ha <;> rcases Nat.mod_two_eq_zero_or_one b with hb | hb <;> simp [ha, hb]

theorem xor_cancel (a b : Nat) : a ^^^ (a ^^^ b) = b := by rw [← Nat.xor_assoc, Nat.xor_self, Nat.zero_xor]
theorem xor_swap (a b c d : Nat) : (a ^^^ b) ^^^ (c ^^^ d) = (a ^^^ c) ^^^ (b ^^^ d) := by
  rw [Nat.xor_assoc, Nat.xor_assoc, ← Nat.xor_assoc b c d, Nat.xor_comm b c, Nat.xor_assoc c b d]

theorem bit_xor (a b : Nat) : bit (a ^^^ b) = bit a ^^^ bit b := by
  unfold bit
  rw [xor_mod_two, Nat.xor_div_two]
  rcases Nat.mod_two_eq_zero_or_one a with ha | ha <;> rcases Nat.mod_two_eq_zero_or_one b with hb | hb <;> simp [ha, hb]
  · rw [Nat.xor_assoc]
  · rw [Nat.xor_assoc, Nat.xor_comm (b / 2) P, ← Nat.xor_assoc]
  · rw [xor_swap, Nat.xor_self, Nat.xor_zero]

theorem it_xor (n a b : Nat) : it n (a ^^^ b) = it n a ^^^ it n b := by
  induction n generalizing a b with
  | zero => rfl
  | succ n ih => simp only [it]; rw [bit_xor, ih]

theorem it_add (m n r : Nat) : it (m + n) r = it n (it m r) := by
  induction m generalizing r with
  | zero => simp [it]
  | succ m ih => rw [Nat.succ_add]; simp only [it]; exact ih _

theorem bit_two (x : Nat) : bit (2 * x) = x := by unfold bit; rw [if_neg (by omega)]; omega
theorem it_pow (n x : Nat) : it n (x * 2 ^ n) = x := by
  induction n generalizing x with
  | zero => simp [it]
  | succ n ih =>
    simp only [it]
    rw [Nat.pow_succ, ← Nat.mul_assoc, Nat.mul_comm _ 2, bit_two, ih]

theorem bit_lt (r : Nat) (h : r < 2 ^ 32) : bit r < 2 ^ 32 := by
  unfold bit
  split
  · exact Nat.xor_lt_two_pow (by omega) (by decide)
  · omega
theorem it_lt (n r : Nat) (h : r < 2 ^ 32) : it n r < 2 ^ 32 := by
  induction n generalizing r with
  | zero => exact h
  | succ n ih => exact ih _ (bit_lt r h)
theorem byte_lt (c : UInt8) : c.toNat < 2 ^ 8 := c.toNat_lt
theorem beh_lt (r c : Nat) (h : r < 2 ^ 32) (hc : c < 2 ^ 8) : beh r c < 2 ^ 32 := it_lt _ _ (Nat.xor_lt_two_pow h (Nat.lt_of_lt_of_le hc (by decide)))
theorem fold_lt (r : Nat) (l : List UInt8) (h : r < 2 ^ 32) : fold r l < 2 ^ 32 := by
  induction l generalizing r with
  | nil => exact h
  | cons c l ih => exact ih _ (beh_lt r _ h (byte_lt c))
theorem more_lt (s : Nat) (l : List UInt8) : more s l < 2 ^ 32 := by unfold more; omega
theorem fold_snoc (r : Nat) (l : List UInt8) (c : UInt8) : fold r (l ++ [c]) = beh (fold r l) c.toNat := by simp [fold]
theorem fold_append (r : Nat) (a b : List UInt8) : fold r (a ++ b) = fold (fold r a) b := by simp [fold]

theorem split8 (r : Nat) : r = (r % 2 ^ 8) ^^^ (r / 2 ^ 8 * 2 ^ 8) := by
  apply Nat.eq_of_testBit_eq
  intro i
  rw [Nat.testBit_xor, Nat.testBit_mod_two_pow, Nat.testBit_mul_two_pow, Nat.testBit_div_two_pow]
  by_cases h : i < 8
  · have h' : ¬ 8 ≤ i := by omega
    simp [h, h']
  · have h' : 8 ≤ i := by omega
    simp [h, h']

/-- What the table does with a byte is what the document does. -/
theorem beh_row (r c : Nat) : it 8 ((r % 2 ^ 8) ^^^ c) ^^^ (r / 2 ^ 8) = beh r c := by
  unfold beh
  have h : r ^^^ c = ((r % 2 ^ 8) ^^^ c) ^^^ (r / 2 ^ 8 * 2 ^ 8) := by
    have h0 := split8 r
    rw [Nat.xor_assoc, Nat.xor_comm c, ← Nat.xor_assoc, ← h0]
  rw [h, it_xor 8 ((r % 2 ^ 8) ^^^ c) (r / 2 ^ 8 * 2 ^ 8), it_pow]

theorem not_eq (x : Nat) (h : x < 2 ^ 32) : 4294967295 ^^^ x = 4294967295 - x := by
  have h1 : 4294967295 = (4294967295 - x) ^^^ x := by
    apply Nat.eq_of_testBit_eq
    intro i
    have hs : 4294967295 - x = 2 ^ 32 - (x + 1) := by omega
    have hm : (4294967295 : Nat) = 2 ^ 32 - (0 + 1) := by decide
    rw [Nat.testBit_xor, hs, Nat.testBit_two_pow_sub_succ h, hm, Nat.testBit_two_pow_sub_succ (by decide)]
    by_cases hi : i < 32
    · simp [hi]
    · have : x.testBit i = false := Nat.testBit_lt_two_pow (Nat.lt_of_lt_of_le h (Nat.pow_le_pow_right (by decide) (by omega)))
      simp [hi, this]
  have h2 : 4294967295 ^^^ x = ((4294967295 - x) ^^^ x) ^^^ x := by rw [← h1]
  rw [h2, Nat.xor_assoc, Nat.xor_self, Nat.xor_zero]

theorem more_append (s : Nat) (a b : List UInt8) (hs : s < 2 ^ 32) : more (more s a) b = more s (a ++ b) := by
  unfold more
  have h := fold_lt (4294967295 - s) a (by omega)
  rw [fold_append]
  have e : 4294967295 - (4294967295 - fold (4294967295 - s) a) = fold (4294967295 - s) a := by omega
  rw [e]
theorem more_nil (s : Nat) (hs : s < 2 ^ 32) : more s [] = s := by unfold more fold; simp; omega

/-- The bytes as one number, the first lowest. -/
def num : List UInt8 → Nat
  | [] => 0
  | c :: l => c.toNat + 256 * num l

theorem num_cons_xor (c : UInt8) (l : List UInt8) : num (c :: l) = c.toNat ^^^ (num l * 2 ^ 8) := by
  have h := split8 (num (c :: l))
  have hc := byte_lt c
  have e1 : num (c :: l) % 2 ^ 8 = c.toNat := by simp only [num]; omega
  have e2 : num (c :: l) / 2 ^ 8 = num l := by simp only [num]; omega
  rw [e1, e2] at h
  exact h

theorem fold_num (r : Nat) (l : List UInt8) : fold r l = it (8 * l.length) (r ^^^ num l) := by
  induction l generalizing r with
  | nil => simp [fold, num, it]
  | cons c l ih =>
    have h : fold r (c :: l) = fold (beh r c.toNat) l := rfl
    rw [h, ih, num_cons_xor, List.length_cons, Nat.mul_add, Nat.mul_one, Nat.add_comm, it_add, ← Nat.xor_assoc, it_xor 8 _ (num l * 2 ^ 8), it_pow]
    rfl

theorem bit_ne (r : Nat) (h : r < 2 ^ 32) (h0 : r ≠ 0) : bit r ≠ 0 := by
  unfold bit
  split
  · intro he
    have : r / 2 = P := by
      have h1 := congrArg (· ^^^ P) he
      simp only [Nat.xor_assoc, Nat.xor_self, Nat.xor_zero, Nat.zero_xor] at h1
      exact h1
    unfold P at this
    omega
  · omega
theorem it_ne (n r : Nat) (h : r < 2 ^ 32) (h0 : r ≠ 0) : it n r ≠ 0 := by
  induction n generalizing r with
  | zero => exact h0
  | succ n ih => exact ih _ (bit_lt r h) (bit_ne r h h0)

theorem fold_burst (r : Nat) (a b : List UInt8) (at_ t : Nat) (hl : a.length = b.length) (ht : t < 2 ^ 32) (h0 : t ≠ 0) (hat : at_ ≤ 8 * b.length)
    (hn : num a = num b ^^^ (t * 2 ^ at_)) : fold r a ≠ fold r b := by
  rw [fold_num, fold_num, hn, hl, ← Nat.xor_assoc, it_xor]
  have h1 : it (8 * b.length) (t * 2 ^ at_) ≠ 0 := by
    have e : 8 * b.length = at_ + (8 * b.length - at_) := by omega
    rw [e, it_add, it_pow]
    exact it_ne _ _ ht h0
  intro he
  apply h1
  have := congrArg (it (8 * b.length) (r ^^^ num b) ^^^ ·) he
  simp only [xor_cancel, Nat.xor_self] at this
  exact this

theorem more_burst (s : Nat) (a b : List UInt8) (at_ t : Nat) (hs : s < 2 ^ 32) (hl : a.length = b.length) (ht : t < 2 ^ 32) (h0 : t ≠ 0) (hat : at_ ≤ 8 * b.length)
    (hn : num a = num b ^^^ (t * 2 ^ at_)) : more s a ≠ more s b := by
  have h := fold_burst (4294967295 - s) a b at_ t hl ht h0 hat hn
  have h1 := fold_lt (4294967295 - s) a (by omega)
  have h2 := fold_lt (4294967295 - s) b (by omega)
  unfold more
  omega

/-- Three rows of as many bytes, turned by one another. -/
def turn3 : List UInt8 → List UInt8 → List UInt8 → List UInt8
  | a :: as, b :: bs, c :: cs => (a ^^^ b ^^^ c) :: turn3 as bs cs
  | _, _, _ => []

theorem fold_turn3 (r s t : Nat) (a b c : List UInt8) (h1 : a.length = b.length) (h2 : b.length = c.length) :
    fold (r ^^^ s ^^^ t) (turn3 a b c) = fold r a ^^^ fold s b ^^^ fold t c := by
  induction a generalizing b c r s t with
  | nil =>
    obtain rfl : b = [] := List.eq_nil_of_length_eq_zero (by simpa using h1.symm)
    obtain rfl : c = [] := List.eq_nil_of_length_eq_zero (by simpa using h2.symm)
    simp [turn3, fold]
  | cons x a ih =>
    match b, c, h1, h2 with
    | y :: b, z :: c, h1, h2 =>
      have e : beh (r ^^^ s ^^^ t) (x ^^^ y ^^^ z).toNat = beh r x.toNat ^^^ beh s y.toNat ^^^ beh t z.toNat := by
        unfold beh
        rw [UInt8.toNat_xor, UInt8.toNat_xor, xor_swap (r ^^^ s) t, xor_swap r s, it_xor, it_xor 8 (r ^^^ x.toNat)]
      have h3 := ih (beh r x.toNat) (beh s y.toNat) (beh t z.toNat) b c (by simpa using h1) (by simpa using h2)
      rw [← e] at h3
      exact h3

theorem sum_turn3 (a b c : List UInt8) (h1 : a.length = b.length) (h2 : b.length = c.length) : sum (turn3 a b c) = sum a ^^^ sum b ^^^ sum c := by
  have h := fold_turn3 4294967295 4294967295 4294967295 a b c h1 h2
  rw [Nat.xor_self, Nat.zero_xor] at h
  have l1 := fold_lt 4294967295 a (by decide)
  have l2 := fold_lt 4294967295 b (by decide)
  have l3 := fold_lt 4294967295 c (by decide)
  have l4 := fold_lt 4294967295 (turn3 a b c) (by decide)
  unfold sum more
  rw [Nat.sub_zero, ← not_eq _ l1, ← not_eq _ l2, ← not_eq _ l3, ← not_eq _ l4, h]
  rw [xor_swap 4294967295, Nat.xor_self, Nat.zero_xor]
  ac_rfl

theorem xor_mul_pow (a b n : Nat) : (a ^^^ b) * 2 ^ n = (a * 2 ^ n) ^^^ (b * 2 ^ n) := by
  have h := @Nat.shiftLeft_xor_distrib n a b
  simpa only [Nat.shiftLeft_eq] using h
theorem num_set (d : UInt8) (l : List UInt8) (q : Nat) (hq : q < l.length) : num (l.set q (l[q] ^^^ d)) = num l ^^^ (d.toNat * 2 ^ (8 * q)) := by
  induction l generalizing q with
  | nil => simp at hq
  | cons c l ih =>
    cases q with
    | zero =>
      simp only [List.set_cons_zero, List.getElem_cons_zero, Nat.mul_zero, Nat.pow_zero, Nat.mul_one]
      rw [num_cons_xor, num_cons_xor, UInt8.toNat_xor]
      ac_rfl
    | succ q =>
      have h := ih q (by simpa using hq)
      simp only [List.set_cons_succ, List.getElem_cons_succ]
      rw [num_cons_xor, num_cons_xor, h, xor_mul_pow, Nat.mul_assoc, ← Nat.pow_add, Nat.mul_add, Nat.mul_one, Nat.xor_assoc]
theorem mod_succ_bit (t k : Nat) : t % 2 ^ (k + 1) = (t % 2 ^ k) ^^^ ((t / 2 ^ k % 2) * 2 ^ k) := by
  apply Nat.eq_of_testBit_eq
  intro i
  have h2 : t / 2 ^ k % 2 = t / 2 ^ k % 2 ^ 1 := by rw [Nat.pow_one]
  rw [Nat.testBit_xor, Nat.testBit_mod_two_pow, Nat.testBit_mod_two_pow, Nat.testBit_mul_two_pow, h2, Nat.testBit_mod_two_pow, Nat.testBit_div_two_pow]
  rcases Nat.lt_trichotomy i k with h | h | h
  · have h1 : i < k + 1 := by omega
    have h3 : ¬ k ≤ i := by omega
    simp [h, h1, h3]
  · subst h
    simp
  · have h1 : ¬ i < k + 1 := by omega
    have h3 : ¬ i < k := by omega
    have h4 : ¬ i - k < 1 := by omega
    simp [h1, h3, h4]
theorem burst_step (z l : List UInt8) (at_ t k q r : Nat) (hq : q = (at_ + k) / 8) (hr : r = (at_ + k) % 8) (hl : q < l.length) (hn : num l = num z ^^^ ((t % 2 ^ k) * 2 ^ at_)) :
    num (l.set q (l[q] ^^^ UInt8.ofNat ((t / 2 ^ k % 2) * 2 ^ r))) = num z ^^^ ((t % 2 ^ (k + 1)) * 2 ^ at_) := by
  have hb : (t / 2 ^ k % 2) * 2 ^ r < 2 ^ 8 := by
    have h1 : t / 2 ^ k % 2 < 2 := Nat.mod_lt _ (by decide)
    have h2 : 2 ^ r ≤ 2 ^ 7 := Nat.pow_le_pow_right (by decide) (by omega)
    have h3 : (t / 2 ^ k % 2) * 2 ^ r ≤ 1 * 2 ^ 7 := Nat.mul_le_mul (by omega) h2
    omega
  rw [num_set, hn, mod_succ_bit t k, xor_mul_pow, Nat.xor_assoc]
  congr 2
  rw [UInt8.toNat_ofNat', Nat.mod_eq_of_lt hb, Nat.mul_assoc, ← Nat.pow_add, Nat.mul_assoc, ← Nat.pow_add]
  congr 2
  omega
theorem turn3_snoc (x y z : UInt8) (a b c : List UInt8) (h1 : a.length = b.length) (h2 : b.length = c.length) : turn3 (a ++ [x]) (b ++ [y]) (c ++ [z]) = turn3 a b c ++ [x ^^^ y ^^^ z] := by
  induction a generalizing b c with
  | nil =>
    obtain rfl : b = [] := List.eq_nil_of_length_eq_zero (by simpa using h1.symm)
    obtain rfl : c = [] := List.eq_nil_of_length_eq_zero (by simpa using h2.symm)
    rfl
  | cons u a ih =>
    match b, c, h1, h2 with
    | v :: b, t :: c, h1, h2 => simp only [List.cons_append, turn3]; rw [ih b c (by simpa using h1) (by simpa using h2)]
end Go.Proofs.Ytmelgnpogdilgaa.Crc

/- crc.row is a constant: its run by the kernel, and the summary by which longer runs go on. No conditions. -/
namespace Go.Proofs.Ytmelgnpogdilgaa
open Go.RowKit
def rowNats : List Nat := [
  0, 4067132163, 3778769143, 324072436, 3348797215, 904991772, 648144872, 3570033899,
  2329499855, 2024987596, 1809983544, 2575936315, 1296289744, 3207089363, 2893594407, 1578318884,
  274646895, 3795141740, 4049975192, 51262619, 3619967088, 632279923, 922689671, 3298075524,
  2592579488, 1760304291, 2075979607, 2312596564, 1562183871, 2943781820, 3156637768, 1313733451,
  549293790, 3537243613, 3246849577, 871202090, 3878099393, 357341890, 102525238, 4101499445,
  2858735121, 1477399826, 1264559846, 3107202533, 1845379342, 2677391885, 2361733625, 2125378298,
  820201905, 3263744690, 3520608582, 598981189, 4151959214, 85089709, 373468761, 3827903834,
  3124367742, 1213305469, 1526817161, 2842354314, 2107672161, 2412447074, 2627466902, 1861252501,
  1098587580, 3004210879, 2688576843, 1378610760, 2262928035, 1955203488, 1742404180, 2511436119,
  3416409459, 969524848, 714683780, 3639785095, 205050476, 4266873199, 3976438427, 526918040,
  1361435347, 2739821008, 2954799652, 1114974503, 2529119692, 1691668175, 2005155131, 2247081528,
  3690758684, 697762079, 986182379, 3366744552, 476452099, 3993867776, 4250756596, 255256311,
  1640403810, 2477592673, 2164122517, 1922457750, 2791048317, 1412925310, 1197962378, 3037525897,
  3944729517, 427051182, 170179418, 4165941337, 746937522, 3740196785, 3451792453, 1070968646,
  1905808397, 2213795598, 2426610938, 1657317369, 3053634322, 1147748369, 1463399397, 2773627110,
  4215344322, 153784257, 444234805, 3893493558, 1021025245, 3467647198, 3722505002, 797665321,
  2197175160, 1889384571, 1674398607, 2443626636, 1164749927, 3070701412, 2757221520, 1446797203,
  137323447, 4198817972, 3910406976, 461344835, 3484808360, 1037989803, 781091935, 3705997148,
  2460548119, 1623424788, 1939049696, 2180517859, 1429367560, 2807687179, 3020495871, 1180866812,
  410100952, 3927582683, 4182430767, 186734380, 3756733383, 763408580, 1053836080, 3434856499,
  2722870694, 1344288421, 1131464017, 2971354706, 1708204729, 2545590714, 2229949006, 1988219213,
  680717673, 3673779818, 3383336350, 1002577565, 4010310262, 493091189, 238226049, 4233660802,
  2987750089, 1082061258, 1395524158, 2705686845, 1972364758, 2279892693, 2494862625, 1725896226,
  952904198, 3399985413, 3656866545, 731699698, 4283874585, 222117402, 510512622, 3959836397,
  3280807620, 837199303, 582374963, 3504198960, 68661723, 4135334616, 3844915500, 390545967,
  1230274059, 3141532936, 2825850620, 1510247935, 2395924756, 2091215383, 1878366691, 2644384480,
  3553878443, 565732008, 854102364, 3229815391, 340358836, 3861050807, 4117890627, 119113024,
  1493875044, 2875275879, 3090270611, 1247431312, 2660249211, 1828433272, 2141937292, 2378227087,
  3811616794, 291187481, 34330861, 4032846830, 615137029, 3603020806, 3314634738, 939183345,
  1776939221, 2609017814, 2295496738, 2058945313, 2926798794, 1545135305, 1330124605, 3173225534,
  4084100981, 17165430, 307568514, 3762199681, 888469610, 3332340585, 3587147933, 665062302,
  2042050490, 2346497209, 2559330125, 1793573966, 3190661285, 1279665062, 1595330642, 2910671697]
def u32s (ns : List Nat) : List Value := ns.map fun n => .int .u32 (.ofNat n)
def rowVal : Value := .agg (u32s rowNats).toArray
def eqU32 : List Value → List Nat → Bool
  | [], [] => true
  | .int .u32 (.ofNat a) :: l, n :: ns => Nat.beq a n && eqU32 l ns
  | _, _ => false
theorem eqU32_eq : ∀ {l : List Value} {ns : List Nat}, eqU32 l ns = true → l = u32s ns
  | [], [], _ => rfl
  | [], n :: ns, h => by cases h
  | v :: l, [], h => by unfold eqU32 at h; split at h <;> simp_all
  | v :: l, n :: ns, h => by
    unfold eqU32 at h
    split at h
    · simp_all
    · rename_i a l' n' ns' e1 e2
      cases e1; cases e2
      rw [Bool.and_eq_true] at h
      rw [Nat.eq_of_beq_eq_true h.1, eqU32_eq h.2]
      rfl
    · cases h
def isRow : Value → AHeap → List Nat → Option Bool
  | .agg a, _, _ => some (eqU32 a.toList rowNats)
  | _, _, _ => none
theorem isRow_eq {v : Value} {h : AHeap} {wr : List Nat} (e : isRow v h wr = some true) : v = rowVal := by
  unfold isRow at e
  split at e
  · rename_i a
    simp only [Option.some.injEq] at e
    show Value.agg a = .agg (u32s rowNats).toArray
    rw [← eqU32_eq e]
  · cases e
/-- A call that needs no memory and yields a value without addresses is a constant. -/
theorem CallRun.const {P : Program} {W : Nat → Prop} {f : FuncId} {v : Value} {h' : AHeap} (hg : P.globals.size = 0) (hc : CallRun P W f #[] emptyH v h') (hv : flatB v = true) (h : AHeap) : CallRun P (fun _ => False) f #[] h v h := by
  refine ⟨.refl _ _, fun m w args' hm hf ha hh => ?_⟩
  obtain rfl : args' = #[] := Array.eq_empty_of_size_eq_zero ha.1.symm
  refine (hc.run (fun _ => none) w #[] (fun g hlt => by omega) (fun i _ _ => rfl) (ARel.empty _) (hrel_empty P Ev w)).mono ?_
  rintro e w' ⟨v', m', rfl, hF, hV, _⟩
  have keep : ∀ b, b < w.heap.size → w'.heap[b]? = w.heap[b]? := fun b hb => hF.keep b hb fun j k hj => absurd hj (Nat.not_lt_zero j)
  refine ⟨v', m, rfl, ⟨fun _ _ => rfl, fun i l a b _ => by omega, fun b hb _ => keep b hb, hF.size, hF.os, hF.tape, hF.output⟩, ?_, ?_⟩
  · rw [VRel.eq_of_flat hV hv]; exact VRel.flat m hv
  · exact { lt := fun i l e => Nat.lt_of_lt_of_le (hh.lt i l e) hF.size
            typ := hh.typ
            inj := hh.inj
            roS := hh.roS
            obj := fun i l o hd e g => by
              obtain ⟨o', a, b⟩ := hh.obj i l o hd e g
              exact ⟨o', by rw [keep l.b (hh.lt i l e)]; exact a, b⟩ }
theorem rowRun : callK (A := Bool) Try.prog noS (fev Try.prog noS 5000) 76 [] emptyH isRow = some true := by kernel_rfl
theorem rowFlat : flatB rowVal = true := by kernel_rfl
theorem row_const (h : AHeap) : CallRun Try.prog (fun _ => False) 76 #[] h rowVal h := by
  obtain ⟨v, h', wr, hc, he⟩ := callRun_of (noS_ok _) rowRun
  obtain rfl := isRow_eq he
  exact CallRun.const (by kernel_rfl) hc rowFlat h
noncomputable def rowS : Summ := fun f args h => Bool.rec none (List.rec (some (rowVal, h, [])) (fun _ _ _ => none) args) (Nat.beq f 76)
theorem rowS_ok : SOk Try.prog rowS := fun f args h v h' wr e => by
  unfold rowS at e
  cases hb : Nat.beq f 76 with
  | false => rw [hb] at e; cases e
  | true =>
    rw [hb] at e
    cases args with
    | cons a l => cases e
    | nil =>
      cases e
      obtain rfl := Nat.eq_of_beq_eq_true hb
      exact (row_const h).weak fun i hi => hi.elim
def asB : Value → AHeap → List Nat → Option Bool
  | .bool b, _, _ => some b
  | _, _, _ => none
theorem asB_true {v : Value} {h : AHeap} {wr : List Nat} (e : asB v h wr = some true) : v = .bool true := by
  unfold asB at e
  split at e
  · cases e; rfl
  · cases e
end Go.Proofs.Ytmelgnpogdilgaa

/- crc and its definition: contracts on the abstract heap. No conditions. -/
namespace Go.Proofs.Ytmelgnpogdilgaa
set_option linter.unusedVariables false
set_option maxRecDepth 100000
attribute [local irreducible] Go GoR GoL
theorem rowNats_eq : rowNats = (List.range 256).map (Crc.it 8) := by decide +kernel
/-- A row of numbers, one for each byte. -/
def IsRow (l : List Value) : Prop := l.length = 256 ∧ l.all Value.oneCell' = true ∧ ∀ j, j < 256 → l[j]? = some (.int .u32 (Crc.it 8 j : Nat))
theorem row_spec (h : AHeap) : CallS Try.prog [] 76 [] h fun v h' => (∃ l, v = .agg l.toArray ∧ IsRow l) ∧ h' = h := by
  obtain ⟨v, h', wr, hc, he⟩ := callRun_of (noS_ok _) rowRun
  obtain rfl := isRow_eq he
  refine (CallS.known noGlobals hc rowFlat h).mono ?_
  rintro _ h' ⟨rfl, rfl⟩
  refine ⟨⟨u32s rowNats, rfl, by decide +kernel, by decide +kernel, fun j hj => ?_⟩, rfl⟩
  rw [rowNats_eq]
  simp [u32s, hj]
theorem com_u32 {x : Nat} (hx : x < 4294967296) : iBin .xor .u32 (if IntKind.u32.signed then -1 else IntKind.u32.max) (x : Int) = some (.int .u32 ((4294967295 - x : Nat) : Int)) := by
  have e := iXor_nat (k := .u32) (x := 4294967295) (y := x) (show 4294967295 < 4294967296 by decide) hx
  rw [Crc.not_eq x hx] at e
  exact e
def zrow : List Value := List.replicate 256 (.int .u32 0)
theorem al_row : AL Try.prog 111 zrow := ⟨by kernel_rfl⟩
theorem setL_all {c l : List Value} (e : l.length = c.length) : setL c 0 l = l := by
  simp [setL, e]
theorem zrow_len : zrow.length = 256 := by simp [zrow]
theorem byte_at {zs : List UInt8} {k : Nat} (hk : k < zs.length) : (zs.map bv)[k]? = some (.int .u8 (zs[k].toNat : Int)) := by simp [hk, bv]
set_option maxHeartbeats 4000000 in
theorem crcMore_spec (s : Nat) (hs : s < 4294967296) (a : Option Addr) (cap : Nat) (zs : List UInt8) (hl : zs.length ≤ 1000000000) (h : AHeap) (hz : Rv Try.prog h 1 a zs.length cap (zs.map bv)) : CallS Try.prog [] 69 [.int .u32 s, .slice a zs.length cap] h fun v h' => v = .int .u32 (Crc.more s zs : Nat) := by
  generalize hlen : zs.length = len at *
  rcases Nat.eq_zero_or_pos len with h0 | h0
  · subst h0
    obtain rfl : zs = [] := List.eq_nil_of_length_eq_zero hlen
    (refine CallS.of2 Try.func69 rfl Try.ntmps69 Try.results69 rfl ?_)
    (refine Go.run (g:=?_))
    (first|refine Go.finT (by first|exact .inr rfl|exact .inl rfl) rfl ?_|refine Go.fin1 (by first|exact .inr rfl|exact .inl rfl) rfl (hq:=?_))
    show Value.int .u32 _ = _
    rw [Crc.more_nil s hs]
  · (refine CallS.of2 Try.func69 rfl Try.ntmps69 Try.results69 rfl ?_)
    (refine Go.run (g:=?_))
    refine GoR.call rfl rfl rfl rfl rfl rfl rfl (((row_spec _).args (by first | rfl | (simp; fail_if_success focus skip) | (simp; omega) | (congr 2; omega))).mono ?_)
    rintro _ h1 ⟨⟨l, rfl, hl1, hl2, hl3⟩, rfl⟩ s1
    refine GoR.alloc (ha := al_row) rfl rfl rfl rfl ?_
    refine GoR.store (c' := l) rfl rfl rfl rfl rfl (AHeap.get_push_same _ _) rfl hl1 (by rw [zrow_len]; decide) hl2 (setL_all (hl1.trans zrow_len.symm)) (.inr (Nat.le_refl _)) ?_
    (refine Go.run (g:=?_))
    refine GoR.com rfl rfl rfl rfl rfl (com_u32 hs) ?_
    (refine Go.run (g:=?_))
    have hg : ((h1.push (.cells zrow 111)).put h1.n (some (.cells l 111))).get h1.n = some (.cells l 111) := get_put_self (AHeap.get_push_same _ _)
    have S1 : Same h1 ((h1.push (.cells zrow 111)).put h1.n (some (.cells l 111))) := ((Same.refl h1).push _).put (Nat.le_refl _) _
    generalize ((h1.push (.cells zrow 111)).put h1.n (some (.cells l 111))) = H at *
    have hz2 := hz.same S1
    refine Go.loop (α := Nat) (fun k => [(18, .int .i64 k), (6, .int .u32 (Crc.fold (4294967295 - s) (zs.take k) : Nat)), (17, .int .i64 len), (16, .slice a len cap), (5, .pointer (some ⟨h1.n, 0, none⟩))]) (fun _ => []) (fun _ => H) (fun k => k ≤ len) (fun k => len - k) 0 (Nat.zero_le _) ⟨rfl, rfl, rfl, rfl, rfl, trivial⟩ rfl rfl ?_
    rintro k hk
    rcases Nat.lt_or_ge k len with hlt | hge
    · have hcell := byte_at (zs := zs) (k := k) (by omega)
      have hst := Crc.fold_snoc (4294967295 - s) (zs.take k) (zs[k]'(by omega))
      rw [← List.take_succ_eq_append_getElem (by omega)] at hst
      have hr := Crc.fold_lt (4294967295 - s) (zs.take k) (by omega)
      have hcb := (zs[k]'(by omega)).toNat_lt
      generalize Crc.fold (4294967295 - s) (zs.take k) = r at *
      generalize (zs[k]'(by omega)).toNat = c at *
      have hj : (r % 256) ^^^ c < 2 ^ 8 := Nat.xor_lt_two_pow (by omega) hcb
      have hlj := hl3 _ hj
      have hv := Crc.it_lt 8 ((r % 256) ^^^ c) (Nat.lt_trans hj (by decide))
      rw [← Crc.beh_row] at hst
      have hrow : (r % 2 ^ 8) ^^^ c = (r % 256) ^^^ c := rfl
      rw [hrow] at hst
      (refine Go.run (g:=?_))
      refine GoR.xorN rfl rfl rfl rfl rfl rfl (show r % 256 < 2 ^ 8 by omega) hcb ?_
      generalize (r % 256) ^^^ c = j at *
      generalize Crc.it 8 j = v at *
      (refine Go.run (g:=?_))
      refine GoR.xorN rfl rfl rfl rfl rfl rfl hv (show r / 2 ^ 8 < 2 ^ 32 by omega) ?_
      (refine Go.run (g:=?_))
      refine Go.again (k + 1) hlt (by omega) ⟨rfl, ?_, rfl, rfl, rfl, trivial⟩ rfl rfl
      rw [hst]
      rfl
    · obtain rfl : k = len := by omega
      have hr := Crc.fold_lt (4294967295 - s) (zs.take k) (by omega)
      have ht : zs.take k = zs := List.take_of_length_le (by omega)
      rw [ht] at hr ⊢
      have hm : Crc.more s zs = 4294967295 - Crc.fold (4294967295 - s) zs := rfl
      rw [hm]
      generalize Crc.fold (4294967295 - s) zs = r at *
      (refine Go.run (g:=?_))
      refine GoR.com rfl rfl rfl rfl rfl (com_u32 hr) ?_
      (refine Go.run (g:=?_))
      (first|refine Go.finT (by first|exact .inr rfl|exact .inl rfl) rfl ?_|refine Go.fin1 (by first|exact .inr rfl|exact .inl rfl) rfl (hq:=?_))
      rfl
theorem crcSum_spec (a : Option Addr) (cap : Nat) (zs : List UInt8) (hl : zs.length ≤ 1000000000) (h : AHeap) (hz : Rv Try.prog h 1 a zs.length cap (zs.map bv)) : CallS Try.prog [] 70 [.slice a zs.length cap] h fun v h' => v = .int .u32 (Crc.sum zs : Nat) := by
  (refine CallS.of1 Try.func70 rfl Try.ntmps70 Try.results70 rfl ?_)
  (refine Go.run (g:=?_))
  refine GoR.call rfl rfl rfl rfl rfl rfl rfl (((crcMore_spec 0 (by decide) a cap zs hl _ hz).args (by first | rfl | (simp; fail_if_success focus skip) | (simp; omega) | (congr 2; omega))).mono ?_)
  rintro _ h1 rfl s1
  (refine Go.run (g:=?_))
  (first|refine Go.finT (by first|exact .inr rfl|exact .inl rfl) rfl ?_|refine Go.fin1 (by first|exact .inr rfl|exact .inl rfl) rfl (hq:=?_))
  rfl
theorem it_succ (k x : Nat) : Crc.it (k + 1) x = Crc.bit (Crc.it k x) := by rw [Crc.it_add]; rfl
theorem behind_spec (r c : Nat) (hr : r < 4294967296) (hc : c < 256) (h : AHeap) : CallS Try.prog [] 77 [.int .u32 r, .int .u8 c] h fun v h' => v = .int .u32 (Crc.beh r c : Nat) := by
  have hx : r ^^^ c < 2 ^ 32 := Nat.xor_lt_two_pow hr (by omega)
  have hb : Crc.beh r c = Crc.it 8 (r ^^^ c) := rfl
  rw [hb]
  (refine CallS.of2 Try.func77 rfl Try.ntmps77 Try.results77 rfl ?_)
  (refine Go.run (g:=?_))
  refine GoR.xorN rfl rfl rfl rfl rfl rfl hr (show c < 2 ^ 32 by omega) ?_
  generalize r ^^^ c = x at *
  (refine Go.run (g:=?_))
  refine Go.loop (α := Nat) (fun k => [(5, .int .i64 k), (0, .int .u32 (Crc.it k x : Nat))]) (fun _ => []) (fun _ => h) (fun k => k ≤ 8) (fun k => 8 - k) 0 (Nat.zero_le _) ⟨rfl, rfl, trivial⟩ rfl rfl ?_
  rintro k hk
  have hv := Crc.it_lt k x hx
  rcases Nat.lt_or_ge k 8 with hlt | hge
  · have hs := it_succ k x
    generalize Crc.it k x = y at *
    rcases Nat.mod_two_eq_zero_or_one y with h2 | h2
    · have hb : Crc.bit y = y / 2 := by unfold Crc.bit; rw [if_neg (by omega)]
      (refine Go.run (g:=?_))
      refine Go.again (k + 1) hlt (by omega) ⟨rfl, by rw [hs, hb]; rfl, trivial⟩ rfl rfl
    · have hb : Crc.bit y = (y / 2) ^^^ Crc.P := by unfold Crc.bit; rw [if_pos h2]
      (refine Go.run (g:=?_))
      refine GoR.xorN rfl rfl rfl rfl rfl rfl (show y / 2 < 2 ^ 32 by omega) (show 2197175160 < 2 ^ 32 by decide) ?_
      (refine Go.run (g:=?_))
      refine Go.again (k + 1) hlt (by omega) ⟨rfl, by rw [hs, hb]; rfl, trivial⟩ rfl rfl
  · obtain rfl : k = 8 := by omega
    (refine Go.run (g:=?_))
    (first|refine Go.finT (by first|exact .inr rfl|exact .inl rfl) rfl ?_|refine Go.fin1 (by first|exact .inr rfl|exact .inl rfl) rfl (hq:=?_))
    rfl
theorem refMore_spec (s : Nat) (hs : s < 4294967296) (a : Option Addr) (cap : Nat) (zs : List UInt8) (hl : zs.length ≤ 1000000000) (h : AHeap) (hz : Rv Try.prog h 1 a zs.length cap (zs.map bv)) : CallS Try.prog [] 71 [.int .u32 s, .slice a zs.length cap] h fun v h' => v = .int .u32 (Crc.more s zs : Nat) := by
  generalize hlen : zs.length = len at *
  (refine CallS.of2 Try.func71 rfl Try.ntmps71 Try.results71 rfl ?_)
  (refine Go.run (g:=?_))
  refine Go.loop (α := Nat × AHeap) (fun k => [(6, .int .i64 k.1), (5, .int .u32 (Crc.fold (4294967295 - s) (zs.take k.1) : Nat)), (1, .slice a len cap)]) (fun _ => []) (fun k => k.2) (fun k => k.1 ≤ len ∧ Same h k.2) (fun k => len - k.1) (0, h) ?_ ?_ rfl rfl ?_
  · exact ⟨Nat.zero_le _, Same.refl h⟩
  · exact ⟨rfl, rfl, rfl, trivial⟩
  rintro ⟨k, h1⟩ ⟨hk, s1⟩
  simp only at hk s1 ⊢
  have hr := Crc.fold_lt (4294967295 - s) (zs.take k) (by omega)
  rcases Nat.lt_or_ge k len with hlt | hge
  · have hcell := byte_at (zs := zs) (k := k) (by omega)
    have hst := Crc.fold_snoc (4294967295 - s) (zs.take k) (zs[k]'(by omega))
    rw [← List.take_succ_eq_append_getElem (by omega)] at hst
    have hcb := (zs[k]'(by omega)).toNat_lt
    generalize Crc.fold (4294967295 - s) (zs.take k) = r at *
    generalize (zs[k]'(by omega)).toNat = c at *
    have hz1 := hz.same s1
    (refine Go.run (g:=?_))
    refine GoR.call rfl rfl rfl rfl rfl rfl rfl (((behind_spec r c hr hcb _).args (by first | rfl | (simp; fail_if_success focus skip) | (simp; omega) | (congr 2; omega))).mono ?_)
    rintro _ h2 rfl s2
    (refine Go.run (g:=?_))
    refine Go.again (k + 1, h2) ⟨hlt, s1.trans s2⟩ (by simp only; omega) ⟨rfl, ?_, rfl, trivial⟩ rfl rfl
    rw [hst]
    rfl
  · obtain rfl : k = len := by omega
    have ht : zs.take k = zs := List.take_of_length_le (by omega)
    rw [ht] at hr ⊢
    have hm : Crc.more s zs = 4294967295 - Crc.fold (4294967295 - s) zs := rfl
    rw [hm]
    generalize Crc.fold (4294967295 - s) zs = r at *
    (refine Go.run (g:=?_))
    (first|refine Go.finT (by first|exact .inr rfl|exact .inl rfl) rfl ?_|refine Go.fin1 (by first|exact .inr rfl|exact .inl rfl) rfl (hq:=?_))
    rfl
theorem refSum_spec (a : Option Addr) (cap : Nat) (zs : List UInt8) (hl : zs.length ≤ 1000000000) (h : AHeap) (hz : Rv Try.prog h 1 a zs.length cap (zs.map bv)) : CallS Try.prog [] 50 [.slice a zs.length cap] h fun v h' => v = .int .u32 (Crc.sum zs : Nat) := by
  (refine CallS.of1 Try.func50 rfl Try.ntmps50 Try.results50 rfl ?_)
  (refine Go.run (g:=?_))
  refine GoR.call rfl rfl rfl rfl rfl rfl rfl (((refMore_spec 0 (by decide) a cap zs hl _ hz).args (by first | rfl | (simp; fail_if_success focus skip) | (simp; omega) | (congr 2; omega))).mono ?_)
  rintro _ h1 rfl s1
  (refine Go.run (g:=?_))
  (first|refine Go.finT (by first|exact .inr rfl|exact .inl rfl) rfl ?_|refine Go.fin1 (by first|exact .inr rfl|exact .inl rfl) rfl (hq:=?_))
  rfl
end Go.Proofs.Ytmelgnpogdilgaa

/- lanyardref03.Bytes: its contract on the abstract heap. No conditions. -/
namespace Go.Proofs.Ytmelgnpogdilgaa
set_option linter.unusedVariables false
set_option maxRecDepth 100000
attribute [local irreducible] Go GoR GoL
/-- The bytes of a number, the highest first. -/
def beB (n x : Nat) : List UInt8 := (List.range n).map fun j => UInt8.ofNat (x / 256 ^ (n - 1 - j))
theorem beB_length (n x : Nat) : (beB n x).length = n := by simp [beB]
/-- A slice of bytes of the call's own, alone. -/
def OwnS (h h' : AHeap) (v : Value) (l : List UInt8) : Prop := ∃ b cap, v = .slice b l.length cap ∧ Sv h' 5 1 b l.length cap (l.map bv) ∧ Own h.n b
set_option maxHeartbeats 4000000 in
theorem bytes_spec (x n : Nat) (hx : x < 2 ^ 64) (hn : n ≤ 8) (h : AHeap) : CallS Try.prog [] 41 [.int .u64 x, .int .i64 n] h fun v h' => OwnS h h' v (beB n x) := by
  have hx' : x < 18446744073709551616 := hx
  (refine CallS.of2 Try.func41 rfl Try.ntmps41 Try.results41 rfl ?_)
  (refine Go.run (g:=?_))
  refine GoR.makeO rfl rfl rfl rfl rfl rfl rfl (by omega) (by omega) ?_
  intro b h1 hb ob s1 n1
  (refine Go.run (g:=?_))
  refine Go.loop (α := Nat × List Value × AHeap) (fun a => [(6, .int .i64 ((a.1 : Int) - 1)), (5, .slice b n n), (0, .int .u64 ((x / 256 ^ (n - a.1) : Nat) : Int))]) (fun _ => []) (fun a => a.2.2)
    (fun a => a.1 ≤ n ∧ Same h a.2.2 ∧ Sv a.2.2 5 1 b n n a.2.1 ∧ ∀ j, a.1 ≤ j → j < n → a.2.1[j]? = some (bv (UInt8.ofNat (x / 256 ^ (n - 1 - j))))) (fun a => a.1) (n, List.replicate n (.int .u8 0), h1) ?_ ?_ rfl rfl ?_
  · exact ⟨Nat.le_refl _, s1, hb, fun j h1 h2 => by omega⟩
  · exact ⟨rfl, rfl, by rw [Nat.sub_self, Nat.pow_zero, Nat.div_one]; rfl, trivial⟩
  · rintro ⟨k, c, h2⟩ ⟨hk, s2, hc, hd⟩
    simp only at hk s2 hc hd ⊢
    have hcl : c.length = n := by have := hc.length; omega
    rcases Nat.eq_zero_or_pos k with h0 | h0
    · subst h0
      (refine Go.run (g:=?_))
      (first|refine Go.finT (by first|exact .inr rfl|exact .inl rfl) rfl ?_|refine Go.fin1 (by first|exact .inr rfl|exact .inl rfl) rfl (hq:=?_))
      refine ⟨b, n, by rw [beB_length]; rfl, ?_, ob⟩
      rw [beB_length]
      have : c = (beB n x).map bv := by
        apply List.ext_getElem? 
        intro j
        rcases Nat.lt_or_ge j n with hj | hj
        · rw [hd j (Nat.zero_le _) hj]
          simp [beB, hj]
        · rw [List.getElem?_eq_none (by omega), List.getElem?_eq_none (by simp [beB_length]; omega)]
      rw [← this]
      exact hc
    · obtain ⟨k, rfl⟩ : ∃ j, k = j + 1 := ⟨k - 1, by omega⟩
      have ek : ((k + 1 : Nat) : Int) - 1 = (k : Int) := by omega
      rw [ek]
      have hq : x / 256 ^ (n - (k + 1)) < 18446744073709551616 := Nat.lt_of_le_of_lt (Nat.div_le_self _ _) hx'
      (refine Go.run (g:=?_))
      refine GoR.store1' rfl rfl rfl rfl rfl rfl (g:=?_)
      intro h3 hc3 k3 n3
      (refine Go.run (g:=?_))
      refine Go.again (k, c.set k (.int .u8 (((x / 256 ^ (n - (k + 1))) % 256 % 256 : Nat) : Int)), h3) ⟨by omega, s2.ownO k3 ob (Nat.le_refl _), hc3, fun j h1 h2 => ?_⟩ (by simp) ?_ rfl rfl
      · rw [List.getElem?_set]
        by_cases hj : k = j
        · subst hj
          rw [if_pos rfl, if_pos (by omega), bv_ofNat]
          have : n - (k + 1) = n - 1 - k := by omega
          rw [this]
          simp
        · rw [if_neg hj]
          exact hd j (by omega) h2
      · refine ⟨rfl, rfl, ?_, trivial⟩
        have e : x / 256 ^ (n - k) = x / 256 ^ (n - (k + 1)) / 256 := by
          rw [Nat.div_div_eq_div_mul, ← Nat.pow_succ]
          congr 2
          omega
        rw [e]
        rfl
theorem beB2 (x : Nat) : beB 2 x = [UInt8.ofNat (x / 256), UInt8.ofNat x] := by simp [beB, List.range_succ]
/-- A slice of bytes of the call's own, and no error. -/
def OwnE (h h' : AHeap) (v : Value) (l : List UInt8) : Prop := ∃ b cap, v = .tuple #[.slice b l.length cap, .int .i64 0] ∧ Sv h' 5 1 b l.length cap (l.map bv) ∧ Own h.n b
end Go.Proofs.Ytmelgnpogdilgaa

/- Calls that are known to look at some blocks alone: what they do is shown on a heap that has no others. No conditions. -/
namespace Go.Proofs.Ytmelgnpogdilgaa
set_option linter.unusedVariables false
/-- The heap with some blocks alone. -/
def restr (h : AHeap) : List Nat → AHeap
  | [] => ⟨h.n, .nil⟩
  | i :: l => (restr h l).put i (h.get i)
theorem restr_n (h : AHeap) (l : List Nat) : (restr h l).n = h.n := by
  induction l with
  | nil => rfl
  | cons i l ih => simpa [restr] using ih
theorem restr_get (h : AHeap) (l : List Nat) (i : Nat) : (restr h l).get i = if i ∈ l then h.get i else none := by
  induction l with
  | nil =>
    simp only [restr, AHeap.get, List.not_mem_nil, if_false]
    have e : Tr.nil.get i = none := rfl
    rw [e]
    exact ite_self _
  | cons j l ih =>
    simp only [restr]
    rw [AHeap.get_put, restr_n]
    by_cases e : j = i
    · subst e
      simp only [if_true, List.mem_cons, true_or]
      split
      · rfl
      · rw [AHeap.get_out (by omega)]
    · rw [if_neg e, ih]
      have : (i ∈ j :: l) ↔ i ∈ l := by simp [Ne.symm e]
      simp only [this]
theorem restr_some {h : AHeap} {l : List Nat} {i : Nat} {o : AObj} (e : (restr h l).get i = some o) : h.get i = some o ∧ i ∈ l := by
  rw [restr_get] at e
  split at e
  · exact ⟨e, by assumption⟩
  · cases e
/-- What was there, and what is new in another heap. -/
theorem merge (h h₂ : AHeap) (hn : h.n ≤ h₂.n) : ∃ h' : AHeap, h'.n = h₂.n ∧ (∀ i, i < h.n → h'.get i = h.get i) ∧ ∀ i, h.n ≤ i → h'.get i = h₂.get i := by
  have key : ∀ k, ∃ g : AHeap, g.n = h.n + k ∧ (∀ i, i < h.n → g.get i = h.get i) ∧ ∀ i, h.n ≤ i → i < h.n + k → g.get i = h₂.get i := by
    intro k
    induction k with
    | zero => exact ⟨h, rfl, fun _ _ => rfl, fun i a b => by omega⟩
    | succ k ih =>
      obtain ⟨g, e1, e2, e3⟩ := ih
      refine ⟨(g.push (.cells [] 0)).put (h.n + k) (h₂.get (h.n + k)), by simp [e1]; omega, fun i hi => ?_, fun i h1 h2 => ?_⟩
      · rw [AHeap.get_put_ne _ _ (by omega), AHeap.get_push_ne _ _ (by omega), e2 i hi]
      · by_cases e : i = h.n + k
        · subst e
          rw [AHeap.get_put_same _ (by simp [e1])]
        · rw [AHeap.get_put_ne _ _ (by omega), AHeap.get_push_ne _ _ (by omega), e3 i h1 (by omega)]
  obtain ⟨g, e1, e2, e3⟩ := key (h₂.n - h.n)
  refine ⟨g, by omega, e2, fun i hi => ?_⟩
  by_cases hl : i < h₂.n
  · exact e3 i hi (by omega)
  · rw [AHeap.get_out (by omega), AHeap.get_out (by omega)]
theorem OpRun.lift {P : Program} {D W W₁ : Nat → Prop} {o : Oper} {tm : List Value} {h h' h₂ : AHeap} {v : Value} {rd : List Nat} (hw : ∀ i, ¬ W₁ i) (k : OpRun P Ev W₁ o tm (restr h rd) v h₂) (hd : ∀ i ∈ rd, D i) (e1 : h'.n = h₂.n) (e2 : ∀ i, i < h.n → h'.get i = h.get i) (e3 : ∀ i, h.n ≤ i → h'.get i = h₂.get i) : OpRun P D W o tm h v h' := by
  have hn : h.n ≤ h₂.n := by have := k.fr.n; rwa [restr_n] at this
  refine ⟨⟨by omega, fun i hi _ => e2 i hi, fun i c t hi e => ⟨c, by rw [← e2 i hi]; exact e, rfl⟩, fun i hi e => by rw [← e2 i hi]; exact e, fun i hi e => AHeap.live_eq (e2 i hi) e, fun i c hi e => by rw [← e2 i hi]; exact e⟩, fun m w A r hm hfr hx H K Q hK => ?_⟩
  refine k.run m w A r hm (fun i a b => hfr i (by rwa [restr_n] at a) (by omega)) hx ?_ K Q fun v' w' m' f hv H' => ?_
  · exact { lt := H.lt
            typ := fun i l c t a b => H.typ i l c t a (restr_some b).1
            inj := fun i j l k a b c d => H.inj i j l k a b (by
              rw [restr_get] at c
              split at c
              · exact c
              · exact absurd rfl c) (by
              obtain ⟨o, x, y⟩ := d
              exact ⟨o, (restr_some x).1, y⟩)
            roS := fun i l c a b => H.roS i l c a (restr_some b).1
            obj := fun i l o _ a b => H.obj i l o (hd i (restr_some b).2) a (restr_some b).1 }
  · have fo : ∀ i, (i < h.n ∨ h₂.n ≤ i) → m' i = m i := fun i hi => f.old i (by rwa [restr_n])
    have fn : ∀ i l, h.n ≤ i → i < h₂.n → m' i = some l → w.heap.size ≤ l.b := fun i l a b c => (f.new i l (by rwa [restr_n]) b c).elim id fun ⟨j, _, _, x, _⟩ => absurd x (hw j)
    have fk : ∀ b, b < w.heap.size → w'.heap[b]? = w.heap[b]? := fun b hb => f.keep b hb fun j _ _ x => absurd x (hw j)
    have hle : m.le m' := f.le fun i a b => hfr i (by rwa [restr_n] at a) (by omega)
    have nw : ∀ i, ¬ i < h.n → ∀ {o : AObj}, h'.get i = some o → i < h₂.n := fun i hi o e => by have := AHeap.lt e; omega
    refine hK v' w' m' ⟨fun i hi => fo i (by omega), fun i l a b c => .inl (fn i l a (by omega) c), fun b hb _ => fk b hb, f.size, f.os, f.tape, f.output⟩ hv ?_
    exact { lt := H'.lt
            typ := fun i l c t a b => by
              by_cases hi : i < h.n
              · rw [e2 i hi] at b; rw [fo i (.inl hi)] at a; exact H.typ i l c t a b
              · rw [e3 i (by omega)] at b; exact H'.typ i l c t a b
            inj := fun i j l k a b c d e => by
              by_cases hi : i < h.n
              · rw [fo i (.inl hi)] at a
                by_cases hj : j < h.n
                · rw [fo j (.inl hj)] at b
                  exact H.inj i j l k a b (by rw [← e2 i hi]; exact c) (AHeap.live_eq (e2 j hj).symm.symm d) e
                · obtain ⟨o, x, _⟩ := d
                  have h1 := fn j k (by omega) (nw j hj x) b
                  have h2 := H.lt i l a
                  omega
              · have hi' : i < h₂.n := by
                  cases g : h'.get i with
                  | none => exact absurd g c
                  | some o => exact nw i hi g
                by_cases hj : j < h.n
                · rw [fo j (.inl hj)] at b
                  have h1 := fn i l (by omega) hi' a
                  have h2 := H.lt j k b
                  omega
                · exact H'.inj i j l k a b (by rw [← e3 i (by omega)]; exact c) (AHeap.live_eq (e3 j (by omega)) d) e
            roS := fun i l c a b => by
              by_cases hi : i < h.n
              · rw [e2 i hi] at b; rw [fo i (.inl hi)] at a; exact H.roS i l c a b
              · rw [e3 i (by omega)] at b; exact H'.roS i l c a b
            obj := fun i l o hD a b => by
              by_cases hi : i < h.n
              · rw [e2 i hi] at b; rw [fo i (.inl hi)] at a
                obtain ⟨o', x, y⟩ := H.obj i l o hD a b
                exact ⟨o', by rw [fk _ (H.lt i l a)]; exact x, y.mono hle⟩
              · rw [e3 i (by omega)] at b
                exact H'.obj i l o trivial a b }
/-- New blocks alone. -/
structure News (h h' h₂ : AHeap) : Prop where
  same : Same h h'
  n : h'.n = h₂.n
  get : ∀ i, h.n ≤ i → h'.get i = h₂.get i
theorem News.sv {h h' h₂ : AHeap} {t : TypeId} {sz len cap : Nat} {a : Option Addr} {cs : List Value} (k : News h h' h₂) (s : Sv h₂ t sz a len cap cs) (o : Own h.n a) : Sv h' t sz a len cap cs := by
  cases s with
  | nil => exact .nil
  | mk hg ho hl hc => exact .mk (by rw [k.get _ (o _ (by simp [blk]))]; exact hg) ho hl hc
theorem Rv.restr {P : Program} {h : AHeap} {sz len cap : Nat} {a : Option Addr} {cs : List Value} (k : Rv P h sz a len cap cs) (rd : List Nat) (hr : ∀ i ∈ blk a, i ∈ rd) : Rv P (restr h rd) sz a len cap cs := by
  cases k with
  | nil => exact .nil
  | @mk b o _ _ c _ hg ho hl hc =>
    have e : (Go.Proofs.Ytmelgnpogdilgaa.restr h rd).get b = h.get b := by rw [restr_get, if_pos (hr b (by simp [blk]))]
    exact .mk (by rw [e]; exact hg) ho hl hc
theorem GoL.callR {P : Program} {W : Nat → Prop} {q : Bool} {N : Nat} {k : List It} {ov : Ov} {df : List Nat} {h : AHeap} {Q : PQ} {ops : Array Oper} {os : List Oper} {o : Oper} {d : Nat} {tr : List (Option LE)} {f : Operand} {xs : Array Operand} {ts : Array TypeId} {g : FuncId} {first cap : Array Value} {us : List Value} (rd : List Nat) (ho : o.op = .call ⟨.value f, xs, ts⟩) (hd : o.dst = some d) (hN : dOk d N = true) (hgd : o.guard = none) (hf : evO ov f = some (.func (.func g) first cap)) (hx : evOs ov xs.toList = some us) (hc : calls P g = true)
    (hk : CallS P [] g (first.toList ++ us ++ cap.toList) (restr h rd) fun v h₂ => ∀ h', News h h' h₂ → GoL P W q N ops (tr ++ [some ⟨h.n, h'.n, rd, [], false, false⟩]) os k ((d, v) :: ov) df h' Q) : GoL P W q N ops tr (o :: os) k ov df h Q := by
  obtain ⟨v, h₂, hr, hg⟩ := hk
  have hn : h.n ≤ h₂.n := by have := hr.fr.n; rwa [restr_n] at this
  obtain ⟨h', e1, e2, e3⟩ := merge h h₂ hn
  refine GoL.step (r := ⟨v, h', rd, [], false, false⟩) (some ⟨h.n, h'.n, rd, [], false, false⟩) ⟨rfl, rfl, rfl, rfl, rfl, rfl⟩ hgd hd hN (fun tm hrp => ⟨(fun e => by cases e), fun D W' _ hrd _ => ?_⟩) (fun i hi => absurd hi List.not_mem_nil) (hg h' ⟨⟨by omega, e2⟩, e1, e3⟩)
  obtain ⟨fn, h1, h2, h3⟩ := calls_spec hc
  have e : (first.toList ++ us ++ cap.toList).toArray = first ++ xs.map (evalT tm) ++ cap := by
    apply Array.toList_inj.1
    simp [← evOs_eq hrp hx]
  rw [e] at hr
  exact OpRun.lift (fun i => List.not_mem_nil) (OpRun.call ho (evO_eq hrp hf) h1 h2 h3 hr) hrd e1 e2 e3
section
variable {P : Program} {W : Nat → Prop} {q : Bool} {N : Nat} {k : List It} {ov : Ov} {df : List Nat} {h : AHeap} {Q : PQ} {ops : Array Oper} {os : List Oper} {tr : List (Option LE)} {b₀ : Bool} {x : Exit}
theorem GoL.name (g : ∀ h', h' = h → GoL P W q N ops tr os k ov df h' Q) : GoL P W q N ops tr os k ov df h Q := g h rfl
theorem GoR.name (g : ∀ h', h' = h → GoR P W q N ops b₀ os k ov df h' Q) : GoR P W q N ops b₀ os k ov df h Q := g h rfl
theorem Go.name (g : ∀ h', h' = h → Go P W q N k x ov df h' Q) : Go P W q N k x ov df h Q := g h rfl
end
end Go.Proofs.Ytmelgnpogdilgaa

/- head: plain. No conditions. -/
namespace Go.Proofs.Ytmelgnpogdilgaa
set_option linter.unusedVariables false
/-- Bytes as a number, the highest first. -/
def beNum (l : List UInt8) : Nat := l.foldl (fun n c => n * 256 + c.toNat) 0
theorem beNum_snoc (l : List UInt8) (c : UInt8) : beNum (l ++ [c]) = beNum l * 256 + c.toNat := by simp [beNum]
theorem beNum_lt (l : List UInt8) : beNum l < 256 ^ l.length := by
  have h : ∀ (r : List UInt8), beNum r.reverse < 256 ^ r.length := by
    intro r
    induction r with
    | nil => decide
    | cons c r ih =>
      rw [List.reverse_cons, beNum_snoc, List.length_cons, Nat.pow_succ]
      have := c.toNat_lt
      omega
  have := h l.reverse
  simpa using this
theorem or_byte (n c : Nat) (hc : c < 256) : n * 2 ^ 8 ||| c = n * 256 + c := or_of_lt (n := 8) hc
theorem beNum_lt_of {l : List UInt8} {k n : Nat} (h : l.length ≤ k) (hn : 256 ^ k = n) : beNum l < n := by
  subst hn
  exact Nat.lt_of_lt_of_le (beNum_lt l) (Nat.pow_le_pow_right (by decide) h)
theorem beB4 (x : Nat) : beB 4 x = [UInt8.ofNat (x / 16777216), UInt8.ofNat (x / 65536), UInt8.ofNat (x / 256), UInt8.ofNat x] := by simp [beB, List.range_succ]
theorem beB4_split (f t : Nat) (ht : t < 65536) : beB 4 (f * 65536 + t) = beB 2 f ++ beB 2 t := by
  rw [beB4, beB2, beB2]
  have e : ∀ a b : Nat, a % 256 = b % 256 → UInt8.ofNat a = UInt8.ofNat b := fun a b h => by
    apply UInt8.toNat_inj.1
    simp only [UInt8.toNat_ofNat']
    exact h
  simp only [List.cons_append, List.nil_append]
  rw [e ((f * 65536 + t) / 16777216) (f / 256) (by omega), e ((f * 65536 + t) / 65536) f (by omega), e ((f * 65536 + t) / 256) (t / 256) (by omega), e (f * 65536 + t) t (by omega)]
/-- The sum that a packet is to have. -/
def headSum (l : List UInt8) : Nat := Crc.sum (l.take 8 ++ [0, 0, 0, 0] ++ l.drop 12)
theorem headSum_eq (l : List UInt8) : Crc.more (Crc.more (Crc.sum (l.take 8)) [0, 0, 0, 0]) (l.drop 12) = headSum l := by
  unfold headSum Crc.sum
  rw [Crc.more_append 0 _ _ (by decide), Crc.more_append 0 _ _ (by decide)]
/-- A packet's bytes with a sum. -/
def hbytes (f t g s : Nat) (v : List UInt8) : List UInt8 := beB 2 f ++ beB 2 t ++ beB 4 g ++ beB 4 s ++ v
theorem hbytes_length (f t g s : Nat) (v : List UInt8) : (hbytes f t g s v).length = 12 + v.length := by simp [hbytes, beB_length]; omega
def hput (f t g : Nat) (v : List UInt8) : List UInt8 := hbytes f t g (Crc.sum (hbytes f t g 0 v)) v
end Go.Proofs.Ytmelgnpogdilgaa

/- head and its definition: contracts on the abstract heap (1). No conditions. -/
namespace Go.Proofs.Ytmelgnpogdilgaa
set_option linter.unusedVariables false
set_option maxRecDepth 100000
attribute [local irreducible] Go GoR GoL
set_option maxHeartbeats 4000000 in
theorem number_spec (a : Option Addr) (cap : Nat) (zs : List UInt8) (hl : zs.length ≤ 4) (h : AHeap) (hz : Rv Try.prog h 1 a zs.length cap (zs.map bv)) : CallS Try.prog [] 51 [.slice a zs.length cap] h fun v h' => v = .int .u32 (beNum zs : Nat) := by
  generalize hlen : zs.length = len at *
  (refine CallS.of1 Try.func51 rfl Try.ntmps51 Try.results51 rfl ?_)
  (refine Go.run (g:=?_))
  refine Go.loop (α := Nat) (fun k => [(8, .int .i64 k), (3, .int .u32 (beNum (zs.take k) : Nat)), (7, .int .i64 len), (6, .slice a len cap)]) (fun _ => []) (fun _ => h) (fun k => k ≤ len) (fun k => len - k) 0 (Nat.zero_le _) ⟨rfl, rfl, rfl, rfl, trivial⟩ rfl rfl ?_
  rintro k hk
  rcases Nat.lt_or_ge k len with hlt | hge
  · have hcell := byte_at (zs := zs) (k := k) (by omega)
    have hst := beNum_snoc (zs.take k) (zs[k]'(by omega))
    rw [← List.take_succ_eq_append_getElem (by omega)] at hst
    have hr : beNum (zs.take k) < 16777216 := beNum_lt_of (k := 3) (by simp; omega) rfl
    have hcb := (zs[k]'(by omega)).toNat_lt
    generalize beNum (zs.take k) = r at *
    generalize (zs[k]'(by omega)).toNat = c at *
    (refine Go.run (g:=?_))
    refine Go.again (k + 1) hlt (by omega) ⟨rfl, ?_, rfl, rfl, trivial⟩ rfl rfl
    rw [hst, ← or_byte r c hcb]
    rfl
  · obtain rfl : k = len := by omega
    have ht : zs.take k = zs := List.take_of_length_le (by omega)
    rw [ht]
    (refine Go.run (g:=?_))
    (first|refine Go.finT (by first|exact .inr rfl|exact .inl rfl) rfl ?_|refine Go.fin1 (by first|exact .inr rfl|exact .inl rfl) rfl (hq:=?_))
    rfl
theorem refNumber_spec (a : Option Addr) (cap : Nat) (zs : List UInt8) (hl : zs.length ≤ 4) (h : AHeap) (hz : Rv Try.prog h 1 a zs.length cap (zs.map bv)) : CallS Try.prog [] 52 [.slice a zs.length cap] h fun v h' => v = .int .u64 (beNum zs : Nat) := by
  generalize hlen : zs.length = len at *
  (refine CallS.of1 Try.func52 rfl Try.ntmps52 Try.results52 rfl ?_)
  (refine Go.run (g:=?_))
  refine Go.loop (α := Nat) (fun k => [(4, .int .i64 k), (3, .int .u64 (beNum (zs.take k) : Nat)), (0, .slice a len cap)]) (fun _ => []) (fun _ => h) (fun k => k ≤ len) (fun k => len - k) 0 (Nat.zero_le _) ⟨rfl, rfl, rfl, trivial⟩ rfl rfl ?_
  rintro k hk
  rcases Nat.lt_or_ge k len with hlt | hge
  · have hcell := byte_at (zs := zs) (k := k) (by omega)
    have hst := beNum_snoc (zs.take k) (zs[k]'(by omega))
    rw [← List.take_succ_eq_append_getElem (by omega)] at hst
    have hr : beNum (zs.take k) < 16777216 := beNum_lt_of (k := 3) (by simp; omega) rfl
    have hcb := (zs[k]'(by omega)).toNat_lt
    generalize beNum (zs.take k) = r at *
    generalize (zs[k]'(by omega)).toNat = c at *
    (refine Go.run (g:=?_))
    refine Go.again (k + 1) hlt (by omega) ⟨rfl, ?_, rfl, trivial⟩ rfl rfl
    rw [hst, Nat.mul_comm r 256]
    rfl
  · obtain rfl : k = len := by omega
    have ht : zs.take k = zs := List.take_of_length_le (by omega)
    rw [ht]
    (refine Go.run (g:=?_))
    (first|refine Go.finT (by first|exact .inr rfl|exact .inl rfl) rfl ?_|refine Go.fin1 (by first|exact .inr rfl|exact .inl rfl) rfl (hq:=?_))
    rfl
theorem four_spec (x : Nat) (hx : x < 4294967296) (h : AHeap) : CallS Try.prog [] 47 [.int .u32 x] h fun v h' => OwnS h h' v (beB 4 x) := by
  (refine CallS.of1 Try.func47 rfl Try.ntmps47 Try.results47 rfl ?_)
  (refine Go.run (g:=?_))
  refine GoR.buildO (c := (beB 4 x).map bv) rfl rfl rfl rfl rfl (by decide) ?_ (by rfl) ?_
  · rw [beB4]
    simp only [List.map_cons, List.map_nil, bv_ofNat]
    rfl
  intro b h1 hb ob s1 n1
  (refine Go.run (g:=?_))
  (first|refine Go.finT (by first|exact .inr rfl|exact .inl rfl) rfl ?_|refine Go.fin1 (by first|exact .inr rfl|exact .inl rfl) rfl (hq:=?_))
  exact ⟨b, 4, rfl, hb, ob⟩
theorem aEq_nil {P : Program} {h : AHeap} {t e : TypeId} (hu : P.underlying t = some (.slice e)) (a : Option Addr) (len cap : Nat) : aEq P h t (.slice a len cap) (.slice none 0 0) = some (a.isNone, []) := by
  unfold aEq
  rw [hu]
  cases a <;> rfl
theorem bytesU : Try.prog.underlying 23 = some (.slice 5) := by kernel_rfl
theorem Own.app1 {h : AHeap} {a₂ : Option Addr} {b n : Nat} (hb : n ≤ b) {h₁ : AHeap} (hn : n ≤ h₁.n) (k : ∀ i ∈ blk a₂, i ∈ blk (some ⟨b, 0, none⟩) ∨ h₁.n ≤ i) : Own n a₂ := (Own.mk hb).app hn k
theorem clone_spec (a : Option Addr) (cap : Nat) (zs : List UInt8) (hl : zs.length ≤ 1000000000) (h : AHeap) (hz : Rv Try.prog h 1 a zs.length cap (zs.map bv)) : CallS Try.prog [] 45 [.slice a zs.length cap] h fun v h' => OwnS h h' v zs := by
  have hone : (zs.map bv).all Value.oneCell' = true := by simp [bv, Value.oneCell']
  generalize hlen : zs.length = len at *
  cases a with
  | none =>
    obtain ⟨rfl, rfl⟩ : len = 0 ∧ cap = 0 := by
      generalize zs.map bv = cs at hz
      cases hz
      exact ⟨rfl, rfl⟩
    obtain rfl : zs = [] := List.eq_nil_of_length_eq_zero hlen
    (refine CallS.of1 Try.func45 rfl Try.ntmps45 Try.results45 rfl ?_)
    (refine Go.run (g:=?_))
    refine GoR.eqRef rfl rfl rfl rfl (.inl rfl) rfl rfl (aEq_nil bytesU _ _ _) ?_
    (refine Go.run (g:=?_))
    (first|refine Go.finT (by first|exact .inr rfl|exact .inl rfl) rfl ?_|refine Go.fin1 (by first|exact .inr rfl|exact .inl rfl) rfl (hq:=?_))
    exact ⟨none, 0, rfl, .nil, Own.nil _⟩
  | some a =>
    (refine CallS.of1 Try.func45 rfl Try.ntmps45 Try.results45 rfl ?_)
    (refine Go.run (g:=?_))
    refine GoR.eqRef rfl rfl rfl rfl (.inl rfl) rfl rfl (aEq_nil bytesU _ _ _) ?_
    (refine Go.run (g:=?_))
    refine GoR.buildO (c := []) rfl rfl rfl rfl rfl (by decide) (by rfl) (by rfl) ?_
    intro b h1 hb ob s1 n1
    (refine Go.run (g:=?_))
    refine GoR.appendV rfl rfl rfl rfl rfl rfl hb (hz.same s1) (Own.ok ob (by omega)) (by omega) (by omega) hone ?_
    intro b2 c2 h2 hb2 k2 o2
    (refine Go.run (g:=?_))
    (first|refine Go.finT (by first|exact .inr rfl|exact .inl rfl) rfl ?_|refine Go.fin1 (by first|exact .inr rfl|exact .inl rfl) rfl (hq:=?_))
    subst hlen
    rw [Nat.zero_add] at hb2 ⊢
    exact ⟨b2, c2, rfl, hb2, ob.app (by omega) o2⟩
/-- A slice of bytes of the call's own, with room. -/
def OwnC (h h' : AHeap) (v : Value) (n : Nat) : Prop := ∃ b cap, v = .slice b 0 cap ∧ Sv h' 5 1 b 0 cap [] ∧ Own h.n b
theorem intU : Try.prog.underlying 3 = some (.int .i64) := by kernel_rfl
theorem aAppend_zeros {P : Program} {h : AHeap} {t t₂ e : TypeId} {bytes sz by2 : Nat} {z : Value} [hM : MK P t e bytes z] [hA : AP P t t e sz by2] {kd : IntKind} (hu2 : P.underlying t₂ = some (.int kd)) {n : Nat} (h0 : 0 < n) (h1 : n ≤ 1000000000) (h2 : n * bytes ≤ 140737488355328) : aAppend P h t t₂ (.slice none 0 0) (.int kd n) = some (.slice (some ⟨h.n, 0, none⟩) n n, h.push (.cells (List.replicate n z) e), [], []) := by
  obtain ⟨inf, hi, hs, rfl⟩ := hM.i
  obtain ⟨inf', z', hi', _, _, hz, hsz, hzf, hzl⟩ := hA.i
  rw [hi] at hi'
  cases hi'
  have hzl' : z.cells.toList = [z] := by rw [cellsL_eq]; exact hM.f.2
  have hzer : aZeros P e inf.size n = some (List.replicate n z) := by
    unfold aZeros
    rw [if_neg (by rw [hs]; omega)]
    simp only [hM.hz]
    rw [if_pos ⟨hM.f.1, by rw [hzl', hs]; rfl⟩, hzl', zeros_one]
  simp only [aAppend, hM.u, hi, hz]
  rw [if_pos ⟨by omega, hzf, by omega⟩]
  have hnew : aNew P h e inf t₂ (.int kd n) = some (n, List.replicate n z, []) := by
    simp only [aNew, hu2]
    rw [if_pos ⟨by omega, by omega, by have : (n : Int) * inf.bytes = ((n * inf.bytes : Nat) : Int) := (by simp); omega⟩, Int.toNat_natCast, hzer]
    rfl
  simp only [hnew, aGrow]
  rw [if_neg (by omega), if_pos ⟨by omega, h2⟩]
theorem grow_spec (n : Nat) (hn : n ≤ 1000000000) (h : AHeap) : CallS Try.prog [] 68 [.slice none 0 0, .int .i64 n] h fun v h' => OwnC h h' v n := by
  rcases Nat.eq_zero_or_pos n with h0 | h0
  · subst h0
    (refine CallS.of2 Try.func68 rfl Try.ntmps68 Try.results68 rfl ?_)
    (refine Go.run (g:=?_))
    (first|refine Go.finT (by first|exact .inr rfl|exact .inl rfl) rfl ?_|refine Go.fin1 (by first|exact .inr rfl|exact .inl rfl) rfl (hq:=?_))
    exact ⟨none, 0, rfl, .nil, Own.nil _⟩
  · (refine CallS.of2 Try.func68 rfl Try.ntmps68 Try.results68 rfl ?_)
    (refine Go.run (g:=?_))
    simp only [Nat.sub_zero]
    refine GoR.sliceV (lo' := none) (hi' := some (.int .i64 (0 : Nat))) (l := 0) (r := 0) rfl rfl rfl rfl rfl rfl rfl Rv.nil rfl rfl (by omega) (by omega) ?_
    (refine Go.run (g:=?_))
    refine GoR.append rfl rfl rfl rfl rfl rfl (aAppend_zeros intU (by omega) (by omega) (by omega)) (fun i hi => by cases hi) ?_
    have hb := Sv.new h (List.replicate n (Value.int .u8 0)) 5 (sz := 1) (len := n) (by simp)
    (refine Go.run (g:=?_))
    refine GoR.sliceV (lo' := none) (hi' := some (.int .i64 (0 : Nat))) (l := 0) (r := 0) rfl rfl rfl rfl rfl rfl rfl (Sv.rv hb) rfl rfl (by omega) (by omega) ?_
    (refine Go.run (g:=?_))
    (first|refine Go.finT (by first|exact .inr rfl|exact .inl rfl) rfl ?_|refine Go.fin1 (by first|exact .inr rfl|exact .inl rfl) rfl (hq:=?_))
    exact ⟨some ⟨h.n, 0, none⟩, n, rfl, hb.sub (l := 0) (r := 0) (by omega) (by omega), Own.mk (Nat.le_refl _)⟩
/-- Slices of bytes that read so. -/
def SlAll (P : Program) (h : AHeap) (vs : List Value) (ls : List (List UInt8)) : Prop := vs.length = ls.length ∧ ∀ (i : Nat) (zs : List UInt8), ls[i]? = some zs → ∃ a cap, vs[i]? = some (Value.slice a zs.length cap) ∧ Rv P h 1 a zs.length cap (zs.map bv)
theorem flat_take {ls : List (List UInt8)} {k : Nat} {zs : List UInt8} (e : ls[k]? = some zs) : (ls.take (k + 1)).flatten = (ls.take k).flatten ++ zs := by
  rw [List.take_add_one, e]
  simp
theorem flat_le (ls : List (List UInt8)) (k : Nat) : (ls.take k).flatten.length ≤ ls.flatten.length := by
  have e : ls.flatten = (ls.take k).flatten ++ (ls.drop k).flatten := by rw [← List.flatten_append, List.take_append_drop]
  rw [e, List.length_append]
  omega
set_option maxHeartbeats 4000000 in
theorem concat_spec (a : Option Addr) (cap : Nat) (vs : List Value) (ls : List (List UInt8)) (hsm : vs.length ≤ 1000) (htot : ls.flatten.length ≤ 1000000) (h : AHeap) (hA : SlAll Try.prog h vs ls) (hv : Rv Try.prog h 1 a vs.length cap vs) : CallS Try.prog [] 46 [.slice a vs.length cap] h fun v h' => OwnS h h' v ls.flatten := by
  have hone : ∀ l : List UInt8, (l.map bv).all Value.oneCell' = true := fun l => by simp [bv, Value.oneCell']
  obtain ⟨hll, hA⟩ := hA
  generalize hlen : vs.length = len at *
  (refine CallS.of1 Try.func46 rfl Try.ntmps46 Try.results46 rfl ?_)
  (refine Go.run (g:=?_))
  refine Go.loop (α := Nat) (fun k => [(11, .int .i64 k), (3, .int .i64 ((ls.take k).flatten.length : Nat)), (10, .int .i64 len), (9, .slice a len cap), (0, .slice a len cap)]) (fun _ => []) (fun _ => h) (fun k => k ≤ len) (fun k => len - k) 0 (Nat.zero_le _) ⟨rfl, rfl, rfl, rfl, rfl, trivial⟩ rfl rfl ?_
  rintro k hk
  rcases Nat.lt_or_ge k len with hlt | hge
  · obtain ⟨zs, hzs⟩ : ∃ zs, ls[k]? = some zs := ⟨_, List.getElem?_eq_getElem (by omega)⟩
    obtain ⟨a1, c1, hcell, hz⟩ := hA k zs hzs
    have hst := congrArg List.length (flat_take hzs)
    rw [List.length_append] at hst
    have hle := flat_le ls (k + 1)
    generalize (ls.take k).flatten.length = r at *
    (refine Go.run (g:=?_))
    refine Go.again (k + 1) hlt (by omega) ⟨rfl, ?_, rfl, rfl, rfl, trivial⟩ rfl rfl
    rw [hst]
    rfl
  · obtain rfl : k = len := by omega
    have ht : ls.take k = ls := List.take_of_length_le (by omega)
    rw [ht]
    (refine Go.run (g:=?_))
    refine GoR.call rfl rfl rfl rfl rfl rfl rfl (((grow_spec ls.flatten.length (by omega) _).args (by first | rfl | (simp; fail_if_success focus skip) | (simp; omega) | (congr 2; omega))).mono ?_)
    rintro _ h1 ⟨b, c1, rfl, hb, ob⟩ s1
    (refine Go.run (g:=?_))
    refine Go.loop (α := Nat × Option Addr × Nat × AHeap) (fun x => [(27, .int .i64 x.1), (6, .slice x.2.1 (ls.take x.1).flatten.length x.2.2.1), (26, .int .i64 k), (25, .slice a k cap)]) (fun _ => []) (fun x => x.2.2.2)
      (fun x => x.1 ≤ k ∧ Same h x.2.2.2 ∧ Own h.n x.2.1 ∧ Sv x.2.2.2 5 1 x.2.1 (ls.take x.1).flatten.length x.2.2.1 ((ls.take x.1).flatten.map bv)) (fun x => k - x.1) (0, b, c1, h1) ?_ ?_ rfl rfl ?_
    · exact ⟨Nat.zero_le _, s1, ob, hb⟩
    · exact ⟨rfl, rfl, rfl, rfl, trivial⟩
    · clear hb ob s1
      rintro ⟨j, b, c2, h2⟩ ⟨hj, s2, ob, hb⟩
      simp only at hj s2 ob hb ⊢
      rcases Nat.lt_or_ge j k with hlt | hge2
      · obtain ⟨zs, hzs⟩ : ∃ zs, ls[j]? = some zs := ⟨_, List.getElem?_eq_getElem (by omega)⟩
        obtain ⟨a1, c1, hcell, hz⟩ := hA j zs hzs
        have hst := flat_take hzs
        have hle := flat_le ls (j + 1)
        have hv2 := hv.same s2
        have hz2 := hz.same s2
        rw [hst, List.length_append] at hle
        (refine Go.run (g:=?_))
        refine GoR.appendV rfl rfl rfl rfl rfl rfl hb hz2 (Own.ok ob (by omega)) (by omega) (by omega) (hone _) ?_
        intro b3 c3 h3 hb3 k3 o3
        (refine Go.run (g:=?_))
        refine Go.again (j + 1, b3, c3, h3) ⟨hlt, s2.ownO k3 ob (by omega), ob.app s2.1 o3, ?_⟩ (by simp only; omega) ⟨rfl, ?_, rfl, rfl, trivial⟩ rfl rfl
        · simp only [hst, List.length_append, List.map_append]
          exact hb3
        · simp only [hst, List.length_append]
          rfl
      · obtain rfl : j = k := by omega
        rw [ht] at hb ⊢
        (refine Go.run (g:=?_))
        (first|refine Go.finT (by first|exact .inr rfl|exact .inl rfl) rfl ?_|refine Go.fin1 (by first|exact .inr rfl|exact .inl rfl) rfl (hq:=?_))
        exact ⟨b, c2, rfl, hb, ob⟩
end Go.Proofs.Ytmelgnpogdilgaa

/- head and its definition: contracts on the abstract heap (2). No conditions. -/
namespace Go.Proofs.Ytmelgnpogdilgaa
set_option linter.unusedVariables false
set_option maxRecDepth 100000
attribute [local irreducible] Go GoR GoL
theorem crcSum_n (a : Option Addr) (cap : Nat) (zs : List UInt8) (n : Nat) (hn : zs.length = n) (hl : n ≤ 1000000000) (h : AHeap) (hz : Rv Try.prog h 1 a n cap (zs.map bv)) : CallS Try.prog [] 70 [.slice a n cap] h fun v h' => v = .int .u32 (Crc.sum zs : Nat) := by
  subst hn
  exact crcSum_spec a cap zs hl h hz
theorem refSum_n (a : Option Addr) (cap : Nat) (zs : List UInt8) (n : Nat) (hn : zs.length = n) (hl : n ≤ 1000000000) (h : AHeap) (hz : Rv Try.prog h 1 a n cap (zs.map bv)) : CallS Try.prog [] 50 [.slice a n cap] h fun v h' => v = .int .u32 (Crc.sum zs : Nat) := by
  subst hn
  exact refSum_spec a cap zs hl h hz
theorem crcMore_n (s : Nat) (hs : s < 4294967296) (a : Option Addr) (cap : Nat) (zs : List UInt8) (n : Nat) (hn : zs.length = n) (hl : n ≤ 1000000000) (h : AHeap) (hz : Rv Try.prog h 1 a n cap (zs.map bv)) : CallS Try.prog [] 69 [.int .u32 s, .slice a n cap] h fun v h' => v = .int .u32 (Crc.more s zs : Nat) := by
  subst hn
  exact crcMore_spec s hs a cap zs hl h hz
theorem number_n (a : Option Addr) (cap : Nat) (zs : List UInt8) (n : Nat) (hn : zs.length = n) (hl : n ≤ 4) (h : AHeap) (hz : Rv Try.prog h 1 a n cap (zs.map bv)) : CallS Try.prog [] 51 [.slice a n cap] h fun v h' => v = .int .u32 (beNum zs : Nat) := by
  subst hn
  exact number_spec a cap zs hl h hz
theorem refNumber_n (a : Option Addr) (cap : Nat) (zs : List UInt8) (n : Nat) (hn : zs.length = n) (hl : n ≤ 4) (h : AHeap) (hz : Rv Try.prog h 1 a n cap (zs.map bv)) : CallS Try.prog [] 52 [.slice a n cap] h fun v h' => v = .int .u64 (beNum zs : Nat) := by
  subst hn
  exact refNumber_spec a cap zs hl h hz
theorem clone_n (a : Option Addr) (cap : Nat) (zs : List UInt8) (n : Nat) (hn : zs.length = n) (hl : n ≤ 1000000000) (h : AHeap) (hz : Rv Try.prog h 1 a n cap (zs.map bv)) : CallS Try.prog [] 45 [.slice a n cap] h fun v h' => OwnS h h' v zs := by
  subst hn
  exact clone_spec a cap zs hl h hz
theorem zeros4 : (List.replicate 4 (Value.int .u8 0)) = (([0, 0, 0, 0] : List UInt8).map bv) := rfl
set_option maxHeartbeats 4000000 in
theorem sum_spec (a : Option Addr) (cap : Nat) (zs : List UInt8) (h12 : 12 ≤ zs.length) (hl : zs.length ≤ 1000000) (h : AHeap) (hz : Rv Try.prog h 1 a zs.length cap (zs.map bv)) : CallS Try.prog [] 48 [.slice a zs.length cap] h fun v h' => v = .int .u32 (headSum zs : Nat) := by
  generalize hlen : zs.length = len at *
  (refine CallS.of1 Try.func48 rfl Try.ntmps48 Try.results48 rfl ?_)
  (refine Go.run (g:=?_))
  refine GoR.bHi (r := 8) rfl rfl rfl rfl rfl rfl hz (by omega) ?_
  intro a1 hz1 _
  (refine Go.run (g:=?_))
  refine GoR.call rfl rfl rfl rfl rfl rfl rfl (((crcSum_n a1 cap (zs.take 8) 8 (by simp; omega) (by omega) _ hz1).args (by first | rfl | (simp; fail_if_success focus skip) | (simp; omega) | (congr 2; omega))).mono ?_)
  rintro _ h1 rfl s1
  (refine Go.run (g:=?_))
  refine GoR.makeO (l := 4) (c := 4) rfl rfl rfl rfl rfl rfl rfl (by decide) (by decide) ?_
  intro b h2 hb ob s2 n2
  (refine Go.run (g:=?_))
  refine GoR.call rfl rfl rfl rfl rfl rfl rfl (((crcMore_n (Crc.sum (zs.take 8)) (Crc.more_lt _ _) b 4 [0, 0, 0, 0] 4 rfl (by omega) _ (Sv.rv hb)).args (by first | rfl | (simp; fail_if_success focus skip) | (simp; omega) | (congr 2; omega))).mono ?_)
  rintro _ h3 rfl s3
  (refine Go.run (g:=?_))
  have hz3 := ((hz.same s1).same s2).same s3
  refine GoR.bLo (l := 12) rfl rfl rfl rfl rfl rfl hz3 (by omega) ?_
  intro a4 hz4 _
  (refine Go.run (g:=?_))
  have e4 : ((zs.drop 12).take (len - 12)) = zs.drop 12 := List.take_of_length_le (by simp; omega)
  rw [e4] at hz4
  refine GoR.call rfl rfl rfl rfl rfl rfl rfl (((crcMore_n (Crc.more (Crc.sum (zs.take 8)) [0, 0, 0, 0]) (Crc.more_lt _ _) a4 (cap - 12) (zs.drop 12) (len - 12) (by simp; omega) (by omega) _ hz4).args (by first | rfl | (simp; fail_if_success focus skip) | (simp; omega) | (congr 2; omega))).mono ?_)
  rintro _ h5 rfl s5
  (refine Go.run (g:=?_))
  (first|refine Go.finT (by first|exact .inr rfl|exact .inl rfl) rfl ?_|refine Go.fin1 (by first|exact .inr rfl|exact .inl rfl) rfl (hq:=?_))
  rw [← headSum_eq]
  rfl
theorem GoL.callS {P : Program} {W : Nat → Prop} {q : Bool} {N : Nat} {k : List It} {ov : Ov} {df : List Nat} {h : AHeap} {Q : PQ} {ops : Array Oper} {os : List Oper} {o : Oper} {d : Nat} {tr : List (Option LE)} {f : Operand} {xs : Array Operand} {ts : Array TypeId} {g : FuncId} {first cap : Array Value} {us : List Value} (ho : o.op = .call ⟨.value f, xs, ts⟩) (hd : o.dst = some d) (hN : dOk d N = true) (hgd : o.guard = none) (hf : evO ov f = some (.func (.func g) first cap)) (hx : evOs ov xs.toList = some us) (hc : calls P g = true)
    (hk : CallS P [] g (first.toList ++ us ++ cap.toList) h fun v h' => Same h h' → GoL P W q N ops (tr ++ [some ⟨h.n, h'.n, [], [], true, false⟩]) os k ((d, v) :: ov) df h' Q) : GoL P W q N ops tr (o :: os) k ov df h Q :=
  GoL.call (wr := []) ho hd hN hgd hf hx hc (hk.mono fun v h' g kp => ⟨fun i hi => absurd hi List.not_mem_nil, g ⟨kp.1, fun i hi => kp.2 i hi List.not_mem_nil⟩⟩)
/-- A header, by value. -/
abbrev hdV (f t g : Nat) : Value := .agg #[.int .u16 f, .int .u16 t, .int .u32 g]
theorem headPut_err1 (f t g : Nat) (a : Option Addr) (n cap : Nat) (hb : n % 4 ≠ 0) (h : AHeap) : CallS Try.prog [] 24 [hdV f t g, .slice a n cap] h fun v h' => v = .tuple #[.slice none 0 0, .int .i64 32] := by
  (refine CallS.of2 Try.func24 rfl Try.ntmps24 Try.results24 rfl ?_)
  (refine Go.run (g:=?_))
  (first|refine Go.finT (by first|exact .inr rfl|exact .inl rfl) rfl ?_|refine Go.fin1 (by first|exact .inr rfl|exact .inl rfl) rfl (hq:=?_))
  rfl
theorem headPut_err2 (f t g : Nat) (a : Option Addr) (n cap : Nat) (hb : n % 4 = 0) (hn : 1488 < n) (h : AHeap) : CallS Try.prog [] 24 [hdV f t g, .slice a n cap] h fun v h' => v = .tuple #[.slice none 0 0, .int .i64 3] := by
  (refine CallS.of2 Try.func24 rfl Try.ntmps24 Try.results24 rfl ?_)
  (refine Go.run (g:=?_))
  (first|refine Go.finT (by first|exact .inr rfl|exact .inl rfl) rfl ?_|refine Go.fin1 (by first|exact .inr rfl|exact .inl rfl) rfl (hq:=?_))
  rfl
theorem hbytes_take (f t g s : Nat) (v : List UInt8) : (hbytes f t g s v).take 8 = beB 2 f ++ beB 2 t ++ beB 4 g := by
  unfold hbytes
  rw [List.append_assoc (beB 2 f ++ beB 2 t ++ beB 4 g), List.take_append_of_le_length (by simp [beB_length]), List.take_of_length_le (by simp [beB_length])]
theorem hbytes_drop (f t g s : Nat) (v : List UInt8) : (hbytes f t g s v).drop 12 = v := by
  unfold hbytes
  rw [List.drop_append]
  simp [beB_length]
theorem headSum_hbytes (f t g s : Nat) (v : List UInt8) : headSum (hbytes f t g s v) = Crc.sum (hbytes f t g 0 v) := by
  unfold headSum
  rw [hbytes_take, hbytes_drop]
  rfl
theorem hbytes_set (f t g s : Nat) (v : List UInt8) : setL ((hbytes f t g 0 v).map bv) (8 * 1) (((beB 4 s).map bv).take (min 4 (12 - 8))) = (hbytes f t g s v).map bv := by
  unfold hbytes
  rw [List.append_assoc (beB 2 f ++ beB 2 t ++ beB 4 g), List.map_append, setL_tail _ _ _ (by simp [beB_length]), List.take_of_length_le (by simp [beB_length]), List.map_append (l₁ := beB 4 0), List.drop_append_of_le_length (by simp [beB_length]), List.drop_of_length_le (by simp [beB_length])]
  simp
set_option maxHeartbeats 4000000 in
theorem headPut_ok (f t g : Nat) (hf : f < 65536) (ht : t < 65536) (hg : g < 4294967296) (a : Option Addr) (n cap : Nat) (zs : List UInt8) (hlen : zs.length = n) (hb : n % 4 = 0) (hn : n ≤ 1488) (h : AHeap) (hz : Rv Try.prog h 1 a n cap (zs.map bv)) : CallS Try.prog [] 24 [hdV f t g, .slice a n cap] h fun v h' => OwnE h h' v (hput f t g zs) := by
  have e := or_of_lt (a := f) (n := 16) ht
  (refine CallS.of2 Try.func24 rfl Try.ntmps24 Try.results24 rfl ?_)
  (refine Go.run (g:=?_))
  rw [e]
  refine GoR.call rfl rfl rfl rfl rfl rfl rfl (((four_spec (f * 2 ^ 16 + t) (by omega) _).args (by first | rfl | (simp; fail_if_success focus skip) | (simp; omega) | (congr 2; omega))).mono ?_)
  rintro _ h1 ⟨b1, c1, rfl, hb1, ob1⟩ s1
  simp only [beB_length] at hb1 ⊢
  (refine Go.run (g:=?_))
  refine GoR.call rfl rfl rfl rfl rfl rfl rfl (((four_spec g hg _).args (by first | rfl | (simp; fail_if_success focus skip) | (simp; omega) | (congr 2; omega))).mono ?_)
  rintro _ h2 ⟨b2, c2, rfl, hb2, ob2⟩ s2
  simp only [beB_length] at hb2 ⊢
  (refine Go.run (g:=?_))
  refine GoR.makeO (l := 4) (c := 4) rfl rfl rfl rfl rfl rfl rfl (by decide) (by decide) ?_
  intro b3 h3 hb3 ob3 s3 n3
  (refine Go.run (g:=?_))
  refine GoR.buildO (c := [.slice b1 4 c1, .slice b2 4 c2, .slice b3 4 4, .slice a n cap]) rfl rfl rfl rfl rfl (by decide) (by rfl) (by rfl) ?_
  intro b4 h4 hb4 ob4 s4 n4
  have S4 : True → Same h h4 := fun _ => (((((Same.refl h).push _).trans s1).trans s2).trans s3).trans s4
  have hA : SlAll Try.prog h4 [.slice b1 4 c1, .slice b2 4 c2, .slice b3 4 4, .slice a n cap] [beB 4 (f * 2 ^ 16 + t), beB 4 g, [0, 0, 0, 0], zs] := by
    refine ⟨rfl, fun i l hi => ?_⟩
    match i, hi with
    | 0, hi => cases hi; exact ⟨b1, c1, rfl, (((hb1.same s2).same s3).same s4).rv⟩
    | 1, hi => cases hi; exact ⟨b2, c2, rfl, ((hb2.same s3).same s4).rv⟩
    | 2, hi => cases hi; exact ⟨b3, 4, rfl, (hb3.same s4).rv⟩
    | 3, hi => cases hi; exact ⟨a, cap, by rw [hlen]; rfl, by rw [hlen]; exact hz.same (S4 trivial)⟩
  have hfl : [beB 4 (f * 2 ^ 16 + t), beB 4 g, [0, 0, 0, 0], zs].flatten = hbytes f t g 0 zs := by
    have e0 : beB 4 0 = [0, 0, 0, 0] := rfl
    have e1 := beB4_split f t ht
    rw [show f * 2 ^ 16 = f * 65536 from rfl, e1]
    simp [hbytes, e0]
  refine GoR.call rfl rfl rfl rfl rfl rfl rfl (((concat_spec b4 4 [.slice b1 4 c1, .slice b2 4 c2, .slice b3 4 4, .slice a n cap] _ (show 4 ≤ 1000 by decide) (by rw [hfl, hbytes_length]; omega) _ hA (Sv.rv hb4)).args (by first | rfl | (simp; fail_if_success focus skip) | (simp; omega) | (congr 2; omega))).mono ?_)
  rintro _ h5 ⟨b6, c6, rfl, hb6, ob6⟩ s5
  rw [hfl, hbytes_length, hlen] at hb6 ⊢
  clear hA hb1 hb2 hb3 hb4 ob1 ob2 ob3 ob4
  have S5 : True → Same h h5 := fun _ => (S4 trivial).trans s5
  have hn4 := (S4 trivial).1
  have hn5 := s5.1
  clear s1 s2 s3 s4 s5 S4 n3 n4
  (refine Go.run (g:=?_))
  refine Go.loud (by kernel_rfl) rfl ?_
  (refine Go.runL (g:=?_))
  refine GoL.sliceV (lo' := some (.int .i64 8)) (hi' := some (.int .i64 12)) (l := 8) (r := 12) rfl rfl rfl rfl rfl rfl rfl (Sv.rv hb6) rfl rfl (by omega) (by have := hb6.le; omega) ?_
  (refine Go.runL (g:=?_))
  have hbl := hbytes_length f t g 0 zs
  have hsum := sum_spec b6 c6 (hbytes f t g 0 zs) (by omega) (by omega) h5 (by rw [hbl, hlen]; exact Sv.rv hb6)
  rw [hbl, hlen] at hsum
  refine GoL.callS rfl rfl rfl rfl rfl rfl rfl (((hsum).args (by first | rfl | (simp; fail_if_success focus skip) | (simp; omega) | (congr 2; omega))).mono ?_)
  rintro _ h7 rfl s7
  (refine Go.runL (g:=?_))
  rw [headSum_hbytes]
  have hsl : Crc.sum (hbytes f t g 0 zs) < 4294967296 := Crc.more_lt _ _
  refine GoL.callS rfl rfl rfl rfl rfl rfl rfl (((four_spec (Crc.sum (hbytes f t g 0 zs)) hsl _).args (by first | rfl | (simp; fail_if_success focus skip) | (simp; omega) | (congr 2; omega))).mono ?_)
  rintro _ h8 ⟨b8, c8, rfl, hb8, ob8⟩ s8
  simp only [beB_length] at hb8 ⊢
  (refine Go.runL (g:=?_))
  have hb6' := (hb6.same s7).same s8
  have hn7 := s7.1
  have hn8 := s8.1
  refine GoL.copySub (kk := 8 * 1) (len' := 12 - 8) (cap₂ := c6 - 8) rfl rfl rfl rfl rfl rfl hb6' (by omega) (Sv.rv hb8) (Own.ok ob6 (by omega)) (by simp [bv, Value.oneCell']) ?_
  intro h9 rd wr hwr hrd hb9 k9 n9
  clear hb6 hsum
  (refine GoL.end_ (g:=?_))
  (refine Go.run (g:=?_))
  (first|refine Go.finT (by first|exact .inr rfl|exact .inl rfl) rfl ?_|refine Go.fin1 (by first|exact .inr rfl|exact .inl rfl) rfl (hq:=?_))
  have hL : (hput f t g zs).length = 12 + n := by rw [hput, hbytes_length, hlen]
  refine ⟨b6, c6, by rw [hL]; rfl, ?_, ob6.mono (by omega)⟩
  rw [hL]
  rw [hbytes_set] at hb9
  exact hb9
end Go.Proofs.Ytmelgnpogdilgaa

/- head and its definition: contracts on the abstract heap (3). No conditions. -/
namespace Go.Proofs.Ytmelgnpogdilgaa
set_option linter.unusedVariables false
set_option maxRecDepth 100000
attribute [local irreducible] Go GoR GoL
set_option maxHeartbeats 4000000 in
theorem headTake_err (a : Option Addr) (n cap : Nat) (hn : n ≤ 1000000) (h : AHeap) (x : Nat) (hx : 1500 < n ∧ x = 3 ∨ n < 12 ∧ x = 30 ∨ 12 ≤ n ∧ n ≤ 1500 ∧ n % 4 ≠ 0 ∧ x = 32) : CallS Try.prog [] 26 [.slice a n cap] h fun v h' => v = .tuple #[hdV 0 0 0, .slice none 0 0, .int .i64 x] := by
  rcases hx with ⟨g1, rfl⟩ | ⟨g1, rfl⟩ | ⟨g1, g2, g3, rfl⟩
  all_goals
    (refine CallS.of1 Try.func26 rfl Try.ntmps26 Try.results26 rfl ?_)
    (refine Go.run (g:=?_))
    (refine Go.fin (by first|exact .inr rfl|exact .inl rfl) (.cellN rfl inferInstance (by (first | assumption | exact AHeap.get_push_same _ _ | ((repeat first | exact AHeap.get_push_same _ _ | assumption | refine get_push_lt ?_ | exact AHeap.get_put_same _ (by simp only [AHeap.n_push, AHeap.n_put]; omega) _ | exact get_put_self (by assumption) | apply get_put_self | refine get_put_other (by first | omega | (simp only [AHeap.n_push, AHeap.n_put]; omega)) ?_ | refine Same.get (by assumption) ?_ | refine Keeps.get (by assumption) ?_ (fun hi => by have hx := Own.out (by assumption) hi; omega)) ; fail_if_success focus skip) | fail)) (by first | exact Nat.le_refl _ | (simp [setL, cellsL]; fail_if_success focus skip) | (simp; omega)) rfl (.tmp rfl (.tmp rfl .nil))) ?_)
    rfl
set_option maxHeartbeats 4000000 in
theorem headTake_sum (a : Option Addr) (n cap : Nat) (zs : List UInt8) (hlen : zs.length = n) (h12 : 12 ≤ n) (hn : n ≤ 1500) (h4 : n % 4 = 0) (h : AHeap) (hz : Rv Try.prog h 1 a n cap (zs.map bv)) (hne : beNum ((zs.drop 8).take 4) ≠ headSum zs) : CallS Try.prog [] 26 [.slice a n cap] h fun v h' => v = .tuple #[hdV 0 0 0, .slice none 0 0, .int .i64 (31 : Nat)] := by
  (refine CallS.of1 Try.func26 rfl Try.ntmps26 Try.results26 rfl ?_)
  (refine Go.run (g:=?_))
  have hz1 := hz.push (.cells [.int .u16 (0 : Nat), .int .u16 (0 : Nat), .int .u32 (0 : Nat)] 46)
  refine GoR.bLH (l := 8) (r := 12) rfl rfl rfl rfl rfl rfl rfl hz1 (by omega) (by omega) ?_
  intro a1 hz2 _
  (refine Go.run (g:=?_))
  refine GoR.call rfl rfl rfl rfl rfl rfl rfl (((number_n a1 (cap - 8) ((zs.drop 8).take 4) 4 (by simp; omega) (by omega) _ hz2).args (by first | rfl | (simp; fail_if_success focus skip) | (simp; omega) | (congr 2; omega))).mono ?_)
  rintro _ h1 rfl s1
  (refine Go.run (g:=?_))
  have hz3 := hz1.same s1
  have hsum := sum_spec a cap zs (by omega) (by omega) _ (by rw [hlen]; exact hz3)
  rw [hlen] at hsum
  refine GoR.call rfl rfl rfl rfl rfl rfl rfl (((hsum).args (by first | rfl | (simp; fail_if_success focus skip) | (simp; omega) | (congr 2; omega))).mono ?_)
  rintro _ h2 rfl s2
  have G2 : h2.get h.n = some (.cells [.int .u16 (0 : Nat), .int .u16 (0 : Nat), .int .u32 (0 : Nat)] 46) := Same.get s2 (Same.get s1 (AHeap.get_push_same _ _))
  (refine Go.run (g:=?_))
  (refine Go.fin (by first|exact .inr rfl|exact .inl rfl) (.cellN rfl inferInstance (by (first | assumption | exact AHeap.get_push_same _ _ | ((repeat first | exact AHeap.get_push_same _ _ | assumption | refine get_push_lt ?_ | exact AHeap.get_put_same _ (by simp only [AHeap.n_push, AHeap.n_put]; omega) _ | exact get_put_self (by assumption) | apply get_put_self | refine get_put_other (by first | omega | (simp only [AHeap.n_push, AHeap.n_put]; omega)) ?_ | refine Same.get (by assumption) ?_ | refine Keeps.get (by assumption) ?_ (fun hi => by have hx := Own.out (by assumption) hi; omega)) ; fail_if_success focus skip) | fail)) (by first | exact Nat.le_refl _ | (simp [setL, cellsL]; fail_if_success focus skip) | (simp; omega)) rfl (.tmp rfl (.tmp rfl .nil))) ?_)
  rfl
set_option maxHeartbeats 4000000 in
theorem headTake_ok (a : Option Addr) (n cap : Nat) (zs : List UInt8) (hlen : zs.length = n) (h12 : 12 ≤ n) (hn : n ≤ 1500) (h4 : n % 4 = 0) (h : AHeap) (hz : Rv Try.prog h 1 a n cap (zs.map bv)) (hne : beNum ((zs.drop 8).take 4) = headSum zs) : CallS Try.prog [] 26 [.slice a n cap] h fun v h' => ∃ b c, v = .tuple #[hdV (beNum (zs.take 2)) (beNum ((zs.drop 2).take 2)) (beNum ((zs.drop 4).take 4)), .slice b (n - 12) c, .int .i64 (0 : Nat)] ∧ Sv h' 5 1 b (n - 12) c ((zs.drop 12).map bv) ∧ Own h.n b := by
  (refine CallS.of1 Try.func26 rfl Try.ntmps26 Try.results26 rfl ?_)
  (refine Go.run (g:=?_))
  have hz1 := hz.push (.cells [.int .u16 (0 : Nat), .int .u16 (0 : Nat), .int .u32 (0 : Nat)] 46)
  refine GoR.bLH (l := 8) (r := 12) rfl rfl rfl rfl rfl rfl rfl hz1 (by omega) (by omega) ?_
  intro a1 hz2 _
  (refine Go.run (g:=?_))
  refine GoR.call rfl rfl rfl rfl rfl rfl rfl (((number_n a1 (cap - 8) ((zs.drop 8).take 4) 4 (by simp; omega) (by omega) _ hz2).args (by first | rfl | (simp; fail_if_success focus skip) | (simp; omega) | (congr 2; omega))).mono ?_)
  rintro _ h1 rfl s1
  (refine Go.run (g:=?_))
  have hz3 := hz1.same s1
  have hsum := sum_spec a cap zs (by omega) (by omega) _ (by rw [hlen]; exact hz3)
  rw [hlen] at hsum
  refine GoR.call rfl rfl rfl rfl rfl rfl rfl (((hsum).args (by first | rfl | (simp; fail_if_success focus skip) | (simp; omega) | (congr 2; omega))).mono ?_)
  rintro _ h2 rfl s2
  have hz4 := hz3.same s2
  rw [hne]
  (refine Go.run (g:=?_))
  have hlt : ∀ i ∈ blk a, i < h.n := hz.lt
  have n1 := s1.1
  have n2 := s2.1
  simp only [AHeap.n_push] at n1
  have G2 : h2.get h.n = some (.cells [.int .u16 (0 : Nat), .int .u16 (0 : Nat), .int .u32 (0 : Nat)] 46) := Same.get s2 (Same.get s1 (AHeap.get_push_same _ _))
  clear hz2 hz3 hsum hz1
  refine Go.loud (by kernel_rfl) rfl ?_
  (refine Go.runL (g:=?_))
  refine GoL.bHi (r := 2) rfl rfl rfl rfl rfl rfl hz4 (by omega) ?_
  intro a3 hz5 _
  (refine Go.runL (g:=?_))
  refine GoL.callS rfl rfl rfl rfl rfl rfl rfl (((number_n a3 cap (zs.take 2) 2 (by simp; omega) (by omega) _ hz5).args (by first | rfl | (simp; fail_if_success focus skip) | (simp; omega) | (congr 2; omega))).mono ?_)
  rintro _ h3 rfl s3
  (refine Go.runL (g:=?_))
  have hz6 := hz4.same s3
  refine GoL.bLH (l := 2) (r := 4) rfl rfl rfl rfl rfl rfl rfl hz6 (by omega) (by omega) ?_
  intro a4 hz7 _
  (refine Go.runL (g:=?_))
  refine GoL.callS rfl rfl rfl rfl rfl rfl rfl (((number_n a4 (cap - 2) ((zs.drop 2).take 2) 2 (by simp; omega) (by omega) _ hz7).args (by first | rfl | (simp; fail_if_success focus skip) | (simp; omega) | (congr 2; omega))).mono ?_)
  rintro _ h4 rfl s4
  (refine Go.runL (g:=?_))
  have hz8 := hz6.same s4
  refine GoL.bLH (l := 4) (r := 8) rfl rfl rfl rfl rfl rfl rfl hz8 (by omega) (by omega) ?_
  intro a5 hz9 _
  (refine Go.runL (g:=?_))
  refine GoL.callS rfl rfl rfl rfl rfl rfl rfl (((number_n a5 (cap - 4) ((zs.drop 4).take 4) 4 (by simp; omega) (by omega) _ hz9).args (by first | rfl | (simp; fail_if_success focus skip) | (simp; omega) | (congr 2; omega))).mono ?_)
  rintro _ h5 rfl s5
  (refine Go.runL (g:=?_))
  have hz10 := hz8.same s5
  refine GoL.bLo (l := 12) rfl rfl rfl rfl rfl rfl hz10 (by omega) ?_
  intro a6 hz11 hb6
  (refine Go.runL (g:=?_))
  have e6 : ((zs.drop 12).take (n - 12)) = zs.drop 12 := List.take_of_length_le (by simp; omega)
  rw [e6] at hz11
  refine GoL.callR (blk a) rfl rfl rfl rfl rfl rfl rfl (((clone_n a6 (cap - 12) (zs.drop 12) (n - 12) (by simp; omega) (by omega) _ (hz11.restr (blk a) hb6)).args rfl).mono ?_)
  rintro _ h6 ⟨b6, c6, rfl, hs6, ob6⟩ h7 nw
  rw [restr_n] at ob6
  have m3 := s3.1
  have m4 := s4.1
  have m5 := s5.1
  have m7 := nw.same.1
  have G7 : h7.get h.n = some (.cells [.int .u16 (0 : Nat), .int .u16 (0 : Nat), .int .u32 (0 : Nat)] 46) := Same.get nw.same (Same.get s5 (Same.get s4 (Same.get s3 G2)))
  have hs7 := nw.sv hs6 ob6
  (refine Go.runL (g:=?_))
  refine GoL.store rfl rfl rfl rfl rfl G7 rfl rfl (Nat.le_refl 3) rfl rfl (.inr (Nat.le_refl _)) ?_
  (refine Go.runL (g:=?_))
  refine GoL.end (by
    simp only [List.nil_append, List.cons_append]
    repeat (first | exact loudP.nil | refine loudP.none ?_ | refine loudP.new (fun _ hb => absurd hb List.not_mem_nil) ?_ | refine loudP.row (by repeat (first | exact loudRowP.nil | refine loudRowP.none ?_ | refine loudRowP.bef (by decide +kernel) ?_ | refine loudRowP.apart (.inr (by simp)) rfl (by intro i hi; simp only [List.mem_singleton] at hi; subst hi; exact ⟨fun hm => absurd (hlt _ hm) (Nat.lt_irrefl _), List.not_mem_nil, .inl (by omega)⟩) ?_)) ?_)) ?_
  (refine Go.run (g:=?_))
  refine Go.fin (.inr rfl) (.cellN rfl inferInstance (get_put_self G7) (Nat.le_refl 3) rfl (.tmp rfl (.tmp rfl .nil))) ?_
  have l6 : (zs.drop 12).length = n - 12 := by simp; omega
  have v0 : beNum (zs.take 2) < 65536 := beNum_lt_of (k := 2) (by simp; omega) rfl
  have v1 : beNum ((zs.drop 2).take 2) < 65536 := beNum_lt_of (k := 2) (by simp; omega) rfl
  rw [l6] at hs7 ⊢
  refine ⟨b6, c6, ?_, hs7.put (fun hm => by have := ob6 _ hm; omega) _, ob6.mono (by omega)⟩
  show Value.tuple #[.agg #[.int .u16 ((beNum (zs.take 2) % 65536 : Nat) : Int), .int .u16 ((beNum ((zs.drop 2).take 2) % 65536 : Nat) : Int), .int .u32 ((beNum ((zs.drop 4).take 4) : Nat) : Int)], .slice b6 (n - 12) c6, .int .i64 0] = _
  rw [Nat.mod_eq_of_lt v0, Nat.mod_eq_of_lt v1]
  rfl
end Go.Proofs.Ytmelgnpogdilgaa

/- lanyardref03: contracts on the abstract heap. No conditions. -/
namespace Go.Proofs.Ytmelgnpogdilgaa
set_option linter.unusedVariables false
set_option maxRecDepth 100000
attribute [local irreducible] Go GoR GoL
set_option maxHeartbeats 4000000 in
theorem with_spec (f t g s : Nat) (hf : f < 65536) (ht : t < 65536) (hg : g < 4294967296) (hs : s < 4294967296) (a : Option Addr) (n cap : Nat) (zs : List UInt8) (hlen : zs.length = n) (hn : n ≤ 1000000) (h : AHeap) (hz : Rv Try.prog h 1 a n cap (zs.map bv)) : CallS Try.prog [] 49 [hdV f t g, .int .u32 s, .slice a n cap] h fun v h' => OwnS h h' v (hbytes f t g s zs) := by
  have hone : ∀ l : List UInt8, (l.map bv).all Value.oneCell' = true := fun l => by simp [bv, Value.oneCell']
  (refine CallS.of3 Try.func49 rfl Try.ntmps49 Try.results49 rfl ?_)
  (refine Go.run (g:=?_))
  refine Go.loud (by kernel_rfl) rfl ?_
  (refine Go.runL (g:=?_))
  refine GoL.callS rfl rfl rfl rfl rfl rfl rfl (((bytes_spec f 2 (by omega) (by omega) _).args (by first | rfl | (simp; fail_if_success focus skip) | (simp; omega) | (congr 2; omega))).mono ?_)
  rintro _ h1 ⟨b1, c1, rfl, hb1, ob1⟩ s1
  simp only [beB_length] at hb1 ⊢
  (refine Go.runL (g:=?_))
  refine GoL.callS rfl rfl rfl rfl rfl rfl rfl (((bytes_spec t 2 (by omega) (by omega) _).args (by first | rfl | (simp; fail_if_success focus skip) | (simp; omega) | (congr 2; omega))).mono ?_)
  rintro _ h2 ⟨b2, c2, rfl, hb2, ob2⟩ s2
  simp only [beB_length] at hb2 ⊢
  (refine Go.runL (g:=?_))
  refine GoL.appendV rfl rfl rfl rfl rfl rfl (hb1.same s2) (Sv.rv hb2) (Own.ok ob1 (by simp only [AHeap.n_push]; omega)) (by omega) (by omega) (hone _) ?_
  intro b3 c3 h3 rd wr hwr hrd hb3 k3 o3
  have hn1 := s1.1
  have hn2 := s2.1
  have hn3 := k3.1
  simp only [AHeap.n_push] at hn1 ob1
  have G3 : h3.get h.n = some (.cells [.int .u16 f, .int .u16 t, .int .u32 g] 46) := Keeps.get k3 (Same.get s2 (Same.get s1 (AHeap.get_push_same _ _))) (fun hi => by have := ob1 _ hi; omega)
  have ob3 : Own (h.n + 1) b3 := ob1.app (by omega) o3
  have S3 : True → Same h h3 := fun _ => ((((Same.refl h).push _).trans s1).trans s2).ownO k3 ob1 (by omega)
  (refine Go.runL (g:=?_))
  clear hb1 hb2 s1 s2 hrd o3
  (refine GoL.end_ (g:=?_))
  clear k3 hwr ob1 ob2
  (refine Go.run (g:=?_))
  refine GoR.call rfl rfl rfl rfl rfl rfl rfl (((bytes_spec g 4 (by omega) (by omega) _).args (by first | rfl | (simp; fail_if_success focus skip) | (simp; omega) | (congr 2; omega))).mono ?_)
  rintro _ h4 ⟨b4, c4, rfl, hb4, ob4⟩ s4
  simp only [beB_length] at hb4 ⊢
  have hn4 := s4.1
  refine GoR.appendV rfl rfl rfl rfl rfl rfl (hb3.same s4) (Sv.rv hb4) (Own.ok ob3 (by omega)) (by omega) (by omega) (hone _) ?_
  intro b5 c5 h5 hb5 k5 o5
  have hn5 := k5.1
  have S5 : True → Same h h5 := fun _ => ((S3 trivial).trans s4).ownO k5 ob3 (by omega)
  have ob5 : Own (h.n + 1) b5 := ob3.app (by omega) o5
  clear hb3 s4 S3 k5 o5 G3
  (refine Go.run (g:=?_))
  refine GoR.call rfl rfl rfl rfl rfl rfl rfl (((bytes_spec s 4 (by omega) (by omega) _).args (by first | rfl | (simp; fail_if_success focus skip) | (simp; omega) | (congr 2; omega))).mono ?_)
  rintro _ h6 ⟨b6, c6, rfl, hb6, ob6⟩ s6
  simp only [beB_length] at hb6 ⊢
  have hn6 := s6.1
  refine GoR.appendV rfl rfl rfl rfl rfl rfl (hb5.same s6) (Sv.rv hb6) (Own.ok ob5 (by omega)) (by omega) (by omega) (hone _) ?_
  intro b7 c7 h7 hb7 k7 o7
  have hn7 := k7.1
  have S7 : True → Same h h7 := fun _ => ((S5 trivial).trans s6).ownO k7 ob5 (by omega)
  have ob7 : Own (h.n + 1) b7 := ob5.app (by omega) o7
  clear hb5 s6 S5 k7 o7
  (refine Go.run (g:=?_))
  refine GoR.appendV rfl rfl rfl rfl rfl rfl hb7 (hz.same (S7 trivial)) (Own.ok ob7 (by omega)) (by omega) (by omega) (hone _) ?_
  intro b8 c8 h8 hb8 k8 o8
  (refine Go.run (g:=?_))
  (first|refine Go.finT (by first|exact .inr rfl|exact .inl rfl) rfl ?_|refine Go.fin1 (by first|exact .inr rfl|exact .inl rfl) rfl (hq:=?_))
  have hL := hbytes_length f t g s zs
  rw [hlen] at hL
  refine ⟨b8, c8, by rw [hL]; rfl, ?_, (ob7.app (by omega) o8).mono (by omega)⟩
  rw [hL]
  have e : (hbytes f t g s zs).map bv = List.map bv (beB 2 f) ++ List.map bv (beB 2 t) ++ List.map bv (beB 4 g) ++ List.map bv (beB 4 s) ++ List.map bv zs := by simp [hbytes]
  rw [e]
  exact hb8
theorem refPut_err1 (f t g : Nat) (a : Option Addr) (n cap : Nat) (hb : n % 4 ≠ 0) (h : AHeap) : CallS Try.prog [] 25 [hdV f t g, .slice a n cap] h fun v h' => v = .tuple #[.slice none 0 0, .int .i64 32] := by
  (refine CallS.of2 Try.func25 rfl Try.ntmps25 Try.results25 rfl ?_)
  (refine Go.run (g:=?_))
  (first|refine Go.finT (by first|exact .inr rfl|exact .inl rfl) rfl ?_|refine Go.fin1 (by first|exact .inr rfl|exact .inl rfl) rfl (hq:=?_))
  rfl
theorem refPut_err2 (f t g : Nat) (a : Option Addr) (n cap : Nat) (hb : n % 4 = 0) (hn : 1488 < n) (hn2 : n ≤ 1000000) (h : AHeap) : CallS Try.prog [] 25 [hdV f t g, .slice a n cap] h fun v h' => v = .tuple #[.slice none 0 0, .int .i64 3] := by
  (refine CallS.of2 Try.func25 rfl Try.ntmps25 Try.results25 rfl ?_)
  (refine Go.run (g:=?_))
  (first|refine Go.finT (by first|exact .inr rfl|exact .inl rfl) rfl ?_|refine Go.fin1 (by first|exact .inr rfl|exact .inl rfl) rfl (hq:=?_))
  rfl
set_option maxHeartbeats 4000000 in
theorem refPut_ok (f t g : Nat) (hf : f < 65536) (ht : t < 65536) (hg : g < 4294967296) (a : Option Addr) (n cap : Nat) (zs : List UInt8) (hlen : zs.length = n) (hb : n % 4 = 0) (hn : n ≤ 1488) (h : AHeap) (hz : Rv Try.prog h 1 a n cap (zs.map bv)) : CallS Try.prog [] 25 [hdV f t g, .slice a n cap] h fun v h' => OwnE h h' v (hput f t g zs) := by
  have hL := fun s => hbytes_length f t g s zs
  simp only [hlen] at hL
  have hsl : Crc.sum (hbytes f t g 0 zs) < 4294967296 := Crc.more_lt _ _
  (refine CallS.of2 Try.func25 rfl Try.ntmps25 Try.results25 rfl ?_)
  (refine Go.run (g:=?_))
  refine GoR.call rfl rfl rfl rfl rfl rfl rfl (((with_spec f t g 0 hf ht hg (by omega) a n cap zs hlen (by omega) _ (hz.push _)).args (by first | rfl | (simp; fail_if_success focus skip) | (simp; omega) | (congr 2; omega))).mono ?_)
  rintro _ h1 ⟨b1, c1, rfl, hb1, ob1⟩ s1
  rw [hL] at hb1 ⊢
  (refine Go.run (g:=?_))
  refine GoR.call rfl rfl rfl rfl rfl rfl rfl (((refSum_n b1 c1 (hbytes f t g 0 zs) (12 + n) (hL 0) (by omega) _ (Sv.rv hb1)).args (by first | rfl | (simp; fail_if_success focus skip) | (simp; omega) | (congr 2; omega))).mono ?_)
  rintro _ h2 rfl s2
  have hz2 := ((hz.push (.cells [.int .u16 f, .int .u16 t, .int .u32 g] 46)).same s1).same s2
  (refine Go.run (g:=?_))
  refine GoR.call rfl rfl rfl rfl rfl rfl rfl (((with_spec f t g (Crc.sum (hbytes f t g 0 zs)) hf ht hg hsl a n cap zs hlen (by omega) _ hz2).args (by first | rfl | (simp; fail_if_success focus skip) | (simp; omega) | (congr 2; omega))).mono ?_)
  rintro _ h3 ⟨b3, c3, rfl, hb3, ob3⟩ s3
  have hn1 := s1.1
  have hn2 := s2.1
  simp only [AHeap.n_push] at hn1
  (refine Go.run (g:=?_))
  (first|refine Go.finT (by first|exact .inr rfl|exact .inl rfl) rfl ?_|refine Go.fin1 (by first|exact .inr rfl|exact .inl rfl) rfl (hq:=?_))
  exact ⟨b3, c3, rfl, hb3, ob3.mono (by omega)⟩
end Go.Proofs.Ytmelgnpogdilgaa

/- head: plain: bytes and numbers, there and back. No conditions. -/
namespace Go.Proofs.Ytmelgnpogdilgaa
set_option linter.unusedVariables false
theorem oneBv (l : List UInt8) : (l.map bv).all Value.oneCell' = true := by simp [bv, Value.oneCell']
theorem Rv.put {P : Program} {h : AHeap} {sz len cap b : Nat} {a : Option Addr} {cs : List Value} (k : Rv P h sz a len cap cs) (hb : b ∉ blk a) (o : Option AObj) : Rv P (h.put b o) sz a len cap cs := by
  cases k with
  | nil => exact .nil
  | mk hg ho hl hc => exact .mk (by rw [AHeap.get_put_ne _ _ (fun e => hb (by simp [blk, e]))]; exact hg) ho hl hc
theorem beNum_nil : beNum [] = 0 := rfl
theorem beB_succ (n x : Nat) : beB (n + 1) x = beB n (x / 256) ++ [UInt8.ofNat x] := by
  unfold beB
  rw [List.range_succ, List.map_append]
  congr 1
  · apply List.map_congr_left
    intro j hj
    simp only [List.mem_range] at hj
    congr 1
    rw [Nat.div_div_eq_div_mul]
    congr 1
    rw [Nat.mul_comm, ← Nat.pow_succ]
    congr 1
    omega
  · simp
theorem beB_beNum (l : List UInt8) : beB l.length (beNum l) = l := by
  have h : ∀ r : List UInt8, beB r.reverse.length (beNum r.reverse) = r.reverse := by
    intro r
    induction r with
    | nil => rfl
    | cons c r ih =>
      rw [List.reverse_cons, beNum_snoc, List.length_append]
      have hc := c.toNat_lt
      show beB (r.reverse.length + 1) _ = _
      rw [beB_succ]
      have e1 : (beNum r.reverse * 256 + c.toNat) / 256 = beNum r.reverse := by omega
      have e2 : UInt8.ofNat (beNum r.reverse * 256 + c.toNat) = c := by
        apply UInt8.toNat_inj.1
        simp only [UInt8.toNat_ofNat']
        omega
      rw [e1, e2, ih]
  have := h l.reverse
  simpa using this
theorem beB_beNum_n {n : Nat} {l : List UInt8} (h : l.length = n) : beB n (beNum l) = l := by subst h; exact beB_beNum l
theorem beNum_beB (n x : Nat) (h : x < 256 ^ n) : beNum (beB n x) = x := by
  induction n generalizing x with
  | zero => simp at h; subst h; rfl
  | succ n ih =>
    rw [beB_succ, beNum_snoc, ih (x / 256) (by rw [Nat.pow_succ] at h; omega)]
    simp only [UInt8.toNat_ofNat']
    omega
theorem beNum_inj {a b : List UInt8} (hl : a.length = b.length) (h : beNum a = beNum b) : a = b := by
  have := beB_beNum a
  rw [h, hl, beB_beNum] at this
  exact this.symm
/-- A packet's parts. -/
theorem hbytes_parts (zs : List UInt8) (h : 12 ≤ zs.length) : zs = (zs.take 2) ++ (zs.drop 2).take 2 ++ (zs.drop 4).take 4 ++ (zs.drop 8).take 4 ++ zs.drop 12 := by
  have e : ∀ (k j : Nat), zs.drop k = (zs.drop k).take j ++ zs.drop (k + j) := fun k j => by
    rw [← List.drop_drop]; exact (List.take_append_drop _ _).symm
  conv => lhs; rw [← List.take_append_drop 2 zs, e 2 2, e 4 4, e 8 4]
  simp
theorem hbytes_of (zs : List UInt8) (h : 12 ≤ zs.length) : hbytes (beNum (zs.take 2)) (beNum ((zs.drop 2).take 2)) (beNum ((zs.drop 4).take 4)) (beNum ((zs.drop 8).take 4)) (zs.drop 12) = zs := by
  unfold hbytes
  rw [beB_beNum_n (by simp; omega), beB_beNum_n (by simp; omega), beB_beNum_n (by simp; omega), beB_beNum_n (by simp; omega)]
  exact (hbytes_parts zs h).symm
theorem headSum_of (zs : List UInt8) (h : 12 ≤ zs.length) : headSum zs = Crc.sum (hbytes (beNum (zs.take 2)) (beNum ((zs.drop 2).take 2)) (beNum ((zs.drop 4).take 4)) 0 (zs.drop 12)) := by
  unfold headSum hbytes
  rw [beB_beNum_n (by simp; omega), beB_beNum_n (by simp; omega), beB_beNum_n (by simp; omega)]
  congr 1
  have e : zs.take 8 = zs.take 2 ++ (zs.drop 2).take 2 ++ (zs.drop 4).take 4 := by
    rw [← List.take_add, ← List.take_add]
  rw [e]
  congr 1
theorem hbytes_inj_sum {f t g s s' : Nat} {v : List UInt8} (h1 : s < 4294967296) (h2 : s' < 4294967296) (h : hbytes f t g s v = hbytes f t g s' v) : s = s' := by
  unfold hbytes at h
  have h' := List.append_cancel_right h
  have h'' := List.append_cancel_left h'
  have := congrArg beNum h''
  rwa [beNum_beB 4 s (by simpa using h1), beNum_beB 4 s' (by simpa using h2)] at this
theorem headSum_lt (l : List UInt8) : headSum l < 4294967296 := Crc.more_lt _ _
theorem hput_of (zs : List UInt8) (h : 12 ≤ zs.length) : hput (beNum (zs.take 2)) (beNum ((zs.drop 2).take 2)) (beNum ((zs.drop 4).take 4)) (zs.drop 12) = zs ↔ beNum ((zs.drop 8).take 4) = headSum zs := by
  have hl : beNum ((zs.drop 8).take 4) < 4294967296 := beNum_lt_of (k := 4) (by simp; omega) rfl
  unfold hput
  rw [← headSum_of zs h]
  constructor
  · intro e
    have : hbytes (beNum (zs.take 2)) (beNum ((zs.drop 2).take 2)) (beNum ((zs.drop 4).take 4)) (headSum zs) (zs.drop 12) = hbytes (beNum (zs.take 2)) (beNum ((zs.drop 2).take 2)) (beNum ((zs.drop 4).take 4)) (beNum ((zs.drop 8).take 4)) (zs.drop 12) := by
      rw [e, hbytes_of zs h]
    exact (hbytes_inj_sum (headSum_lt _) hl this).symm
  · intro e
    rw [← e, hbytes_of zs h]
end Go.Proofs.Ytmelgnpogdilgaa

/- lanyardref03.Take: its contract on the abstract heap. No conditions. -/
namespace Go.Proofs.Ytmelgnpogdilgaa
set_option linter.unusedVariables false
set_option maxRecDepth 100000
attribute [local irreducible] Go GoR GoL
set_option maxHeartbeats 4000000 in
theorem refTake_err (a : Option Addr) (n cap : Nat) (hn : n ≤ 1000000) (h : AHeap) (x : Nat) (hx : 1500 < n ∧ x = 3 ∨ n < 12 ∧ x = 30 ∨ 12 ≤ n ∧ n ≤ 1500 ∧ n % 4 ≠ 0 ∧ x = 32) : CallS Try.prog [] 27 [.slice a n cap] h fun v h' => v = .tuple #[hdV 0 0 0, .slice none 0 0, .int .i64 x] := by
  rcases hx with ⟨g1, rfl⟩ | ⟨g1, rfl⟩ | ⟨g1, g2, g3, rfl⟩
  all_goals
    (refine CallS.of1 Try.func27 rfl Try.ntmps27 Try.results27 rfl ?_)
    (refine Go.run (g:=?_))
    (refine Go.fin (by first|exact .inr rfl|exact .inl rfl) (.cellN rfl inferInstance (by (first | assumption | exact AHeap.get_push_same _ _ | ((repeat first | exact AHeap.get_push_same _ _ | assumption | refine get_push_lt ?_ | exact AHeap.get_put_same _ (by simp only [AHeap.n_push, AHeap.n_put]; omega) _ | exact get_put_self (by assumption) | apply get_put_self | refine get_put_other (by first | omega | (simp only [AHeap.n_push, AHeap.n_put]; omega)) ?_ | refine Same.get (by assumption) ?_ | refine Keeps.get (by assumption) ?_ (fun hi => by have hx := Own.out (by assumption) hi; omega)) ; fail_if_success focus skip) | fail)) (by first | exact Nat.le_refl _ | (simp [setL, cellsL]; fail_if_success focus skip) | (simp; omega)) rfl (.tmp rfl (.tmp rfl .nil))) ?_)
    rfl
set_option maxHeartbeats 4000000 in
theorem refTake_spec (a : Option Addr) (n cap : Nat) (zs : List UInt8) (hlen : zs.length = n) (h12 : 12 ≤ n) (hn : n ≤ 1500) (h4 : n % 4 = 0) (h : AHeap) (hz : Rv Try.prog h 1 a n cap (zs.map bv)) : CallS Try.prog [] 27 [.slice a n cap] h fun v h' => if beNum ((zs.drop 8).take 4) = headSum zs then ∃ b c, v = .tuple #[hdV (beNum (zs.take 2)) (beNum ((zs.drop 2).take 2)) (beNum ((zs.drop 4).take 4)), .slice b (n - 12) c, .int .i64 (0 : Nat)] ∧ Rv Try.prog h' 1 b (n - 12) c ((zs.drop 12).map bv) ∧ Own h.n b else v = .tuple #[hdV 0 0 0, .slice none 0 0, .int .i64 (31 : Nat)] := by
  have v0 : beNum (zs.take 2) < 65536 := beNum_lt_of (k := 2) (by simp; omega) rfl
  have v1 : beNum ((zs.drop 2).take 2) < 65536 := beNum_lt_of (k := 2) (by simp; omega) rfl
  have v2 : beNum ((zs.drop 4).take 4) < 4294967296 := beNum_lt_of (k := 4) (by simp; omega) rfl
  have l6 : (zs.drop 12).length = n - 12 := by simp; omega
  have e6 : ((zs.drop 12).take (n - 12)) = zs.drop 12 := List.take_of_length_le (by simp; omega)
  (refine CallS.of1 Try.func27 rfl Try.ntmps27 Try.results27 rfl ?_)
  (refine Go.run (g:=?_))
  refine Go.loud (by kernel_rfl) rfl ?_
  refine GoL.name ?_
  intro h0 e0
  have s0 : Same h h0 := by subst e0; exact (((Same.refl h).push _).push _).put (by simp) _
  have g0 : h0.get h.n = some (.cells [.int .u16 0, .int .u16 0, .int .u32 0] 46) := by subst e0; (first | assumption | exact AHeap.get_push_same _ _ | ((repeat first | exact AHeap.get_push_same _ _ | assumption | refine get_push_lt ?_ | exact AHeap.get_put_same _ (by simp only [AHeap.n_push, AHeap.n_put]; omega) _ | exact get_put_self (by assumption) | apply get_put_self | refine get_put_other (by first | omega | (simp only [AHeap.n_push, AHeap.n_put]; omega)) ?_ | refine Same.get (by assumption) ?_ | refine Keeps.get (by assumption) ?_ (fun hi => by have hx := Own.out (by assumption) hi; omega)) ; fail_if_success focus skip) | fail)
  have g5 : h0.get (h.n + 1) = some (.cells [.int .u16 0, .int .u16 0, .int .u32 0] 46) := by subst e0; exact AHeap.get_put_same _ (by simp) _
  have n0 : h0.n = h.n + 2 := by subst e0; rfl
  clear e0
  have hz4 := hz.same s0
  (refine Go.runL (g:=?_))
  refine GoL.bHi (r := 2) rfl rfl rfl rfl rfl rfl hz4 (by omega) ?_
  intro a3 hz5 _
  (refine Go.runL (g:=?_))
  refine GoL.callS rfl rfl rfl rfl rfl rfl rfl (((refNumber_n a3 cap (zs.take 2) 2 (by simp; omega) (by omega) _ hz5).args (by first | rfl | (simp; fail_if_success focus skip) | (simp; omega) | (congr 2; omega))).mono ?_)
  rintro _ h3 rfl s3
  (refine Go.runL (g:=?_))
  have hz6 := hz4.same s3
  refine GoL.bLH (l := 2) (r := 4) rfl rfl rfl rfl rfl rfl rfl hz6 (by omega) (by omega) ?_
  intro a4 hz7 _
  (refine Go.runL (g:=?_))
  refine GoL.callS rfl rfl rfl rfl rfl rfl rfl (((refNumber_n a4 (cap - 2) ((zs.drop 2).take 2) 2 (by simp; omega) (by omega) _ hz7).args (by first | rfl | (simp; fail_if_success focus skip) | (simp; omega) | (congr 2; omega))).mono ?_)
  rintro _ h4 rfl s4
  (refine Go.runL (g:=?_))
  have hz8 := hz6.same s4
  refine GoL.bLH (l := 4) (r := 8) rfl rfl rfl rfl rfl rfl rfl hz8 (by omega) (by omega) ?_
  intro a5 hz9 _
  (refine Go.runL (g:=?_))
  refine GoL.callS rfl rfl rfl rfl rfl rfl rfl (((refNumber_n a5 (cap - 4) ((zs.drop 4).take 4) 4 (by simp; omega) (by omega) _ hz9).args (by first | rfl | (simp; fail_if_success focus skip) | (simp; omega) | (congr 2; omega))).mono ?_)
  rintro _ h5 rfl s5
  (refine Go.runL (g:=?_))
  refine GoL.store rfl rfl rfl rfl rfl (AHeap.get_push_same _ _) rfl rfl (Nat.le_refl 3) rfl rfl (.inr (by have := s3.1; have := s4.1; have := s5.1; omega)) ?_
  (refine GoL.end_ (g:=?_))
  (refine Go.run (g:=?_))
  refine GoR.name ?_
  intro h6 e6'
  have s6 : Same h5 h6 := by subst e6'; exact ((Same.refl h5).push _).put (Nat.le_refl _) _
  have n6 : h6.n = h5.n + 1 := by subst e6'; rfl
  have g6 : h6.get h5.n = some (.cells [.int .u16 (beNum (zs.take 2)), .int .u16 (beNum ((zs.drop 2).take 2)), .int .u32 (beNum ((zs.drop 4).take 4))] 46) := by subst e6'; exact AHeap.get_put_same _ (by simp) _
  clear e6'
  have hz10 := hz8.same (s5.trans s6)
  refine GoR.bLo (l := 12) rfl rfl rfl rfl rfl rfl hz10 (by omega) ?_
  intro a6 hz11 _
  rw [e6] at hz11
  (refine Go.run (g:=?_))
  have S6 : Same h h6 := s0.trans (s3.trans (s4.trans (s5.trans s6)))
  have g0' := (s3.trans (s4.trans (s5.trans s6))).get g0
  have g5' := (s3.trans (s4.trans (s5.trans s6))).get g5
  have m3 := s3.1
  have m4 := s4.1
  have m5 := s5.1
  clear hz5 hz6 hz7 hz8 hz9 hz4 s3 s4 s5 s6 s0 g0 g5
  have hL : (hput (beNum (zs.take 2)) (beNum ((zs.drop 2).take 2)) (beNum ((zs.drop 4).take 4)) (zs.drop 12)).length = 12 + (n - 12) := by rw [hput, hbytes_length, l6]
  refine GoR.call rfl rfl rfl rfl rfl rfl rfl (((refPut_ok _ _ _ v0 v1 v2 a6 (n - 12) (cap - 12) (zs.drop 12) l6 (by omega) (by omega) _ hz11).args (by first | rfl | (simp; fail_if_success focus skip) | (simp; omega) | (congr 2; omega))).mono ?_)
  rintro _ h7 ⟨b7, c7, rfl, hb7, ob7⟩ s7
  have r7 := hb7.rv (P := Try.prog)
  have z7 := hz10.same s7
  have g6' := s7.get g6
  have g0'' := s7.get g0'
  have g5'' := s7.get g5'
  (refine Go.run (g:=?_))
  have hp := hput_of zs (by omega)
  by_cases hne : beNum ((zs.drop 8).take 4) = headSum zs
  · refine Go.cond_f rfl (by simp [hp.2 hne]) ?_
    (refine Go.run (g:=?_))
    refine Go.loud (by kernel_rfl) rfl ?_
    (refine Go.runL (g:=?_))
    refine GoL.buildRo (c := []) rfl rfl rfl rfl rfl (by decide) (by rfl) (by rfl) ?_
    intro b8 h8 hb8 rb8 ob8 s8 n8
    have z8 := z7.same s8
    have g08 := s8.get g0''
    (refine Go.runL (g:=?_))
    refine GoL.bLo (l := 12) rfl rfl rfl rfl rfl rfl z8 (by omega) ?_
    intro a9 hz9 hb9
    rw [e6] at hz9
    (refine Go.runL (g:=?_))
    have hlt : ∀ i ∈ blk a, i < h.n := hz.lt
    have m7 := s7.1
    refine GoL.appendRo rfl rfl rfl rfl rfl rfl hb8 rb8 hz9 (by omega) (by omega) ?_
    intro b9 h9 rd hrd hs9 s9 o9
    have m9 := s9.1
    have o8 : ∀ i ∈ blk b8, h7.n ≤ i := ob8
    have ob9 : Own (h.n + 1) b9 := fun i hi => (o9 i hi).elim (fun x => by have := o8 i x; omega) (fun x => by omega)
    have g09 := s9.get g08
    (refine Go.runL (g:=?_))
    refine GoL.store rfl rfl rfl rfl rfl g09 rfl rfl (Nat.le_refl 3) rfl rfl (.inr (Nat.le_refl _)) ?_
    (refine Go.runL (g:=?_))
    have hrd2 : h.n ∉ rd := fun hm => (hrd _ hm).elim (fun x => by have := o8 _ x; omega) (fun x => by have := hlt _ (hb9 _ x); omega)
    refine GoL.end (by
      simp only [List.nil_append, List.cons_append]
      repeat (first | exact loudP.nil | refine loudP.none ?_ | refine loudP.new (fun _ hb => absurd hb List.not_mem_nil) ?_ | refine loudP.row (by repeat (first | exact loudRowP.nil | refine loudRowP.none ?_ | refine loudRowP.bef (by decide +kernel) ?_ | refine loudRowP.apart (by first | exact .inl rfl | exact .inr (by simp)) rfl (by intro i hi; simp only [List.mem_singleton] at hi; subst hi; exact ⟨by first | exact hrd2 | exact List.not_mem_nil | (simp; omega), List.not_mem_nil, .inl (by omega)⟩) ?_)) ?_)) ?_
    (refine Go.run (g:=?_))
    refine Go.fin (.inr rfl) (.cellN rfl inferInstance (get_put_self g09) (Nat.le_refl 3) rfl (.tmp rfl (.tmp rfl .nil))) ?_
    rw [if_pos hne]
    refine ⟨b9, n - 12, ?_, ?_, ob9.mono (by omega)⟩
    · show Value.tuple #[.agg #[.int .u16 ((beNum (zs.take 2) : Nat) : Int), .int .u16 ((beNum ((zs.drop 2).take 2) : Nat) : Int), .int .u32 ((beNum ((zs.drop 4).take 4) : Nat) : Int)], .slice b9 (0 + (n - 12)) (0 + (n - 12)), .int .i64 0] = _
      rw [Nat.zero_add]; rfl
    · rw [Nat.zero_add] at hs9
      exact hs9.put (fun hm => by have := ob9 _ hm; omega) _
  · refine Go.cond_t rfl (by simp [mt hp.1 hne]) ?_
    (refine Go.run (g:=?_))
    (refine Go.fin (by first|exact .inr rfl|exact .inl rfl) (.cellN rfl inferInstance (by (first | assumption | exact AHeap.get_push_same _ _ | ((repeat first | exact AHeap.get_push_same _ _ | assumption | refine get_push_lt ?_ | exact AHeap.get_put_same _ (by simp only [AHeap.n_push, AHeap.n_put]; omega) _ | exact get_put_self (by assumption) | apply get_put_self | refine get_put_other (by first | omega | (simp only [AHeap.n_push, AHeap.n_put]; omega)) ?_ | refine Same.get (by assumption) ?_ | refine Keeps.get (by assumption) ?_ (fun hi => by have hx := Own.out (by assumption) hi; omega)) ; fail_if_success focus skip) | fail)) (by first | exact Nat.le_refl _ | (simp [setL, cellsL]; fail_if_success focus skip) | (simp; omega)) rfl (.tmp rfl (.tmp rfl .nil))) ?_)
    rw [if_neg hne]
    rfl
end Go.Proofs.Ytmelgnpogdilgaa

/- lanyardlaw03.known, run by the kernel. Headers compared. No conditions. -/
namespace Go.Proofs.Ytmelgnpogdilgaa
open Go.RowKit
set_option linter.unusedVariables false
set_option maxRecDepth 100000
theorem known03Run : callK (A := Bool) Try.prog rowS (fev Try.prog rowS 5000) 23 [] emptyH asB = some true := by kernel_rfl
theorem noGlobals03 : Try.prog.globals.size = 0 := by kernel_rfl
theorem known03 (h : AHeap) : CallS Try.prog [] 23 [] h fun u h' => u = .bool true ∧ h' = h := by
  obtain ⟨v, h', wr, hc, he⟩ := callRun_of rowS_ok known03Run
  obtain rfl := asB_true he
  exact CallS.known noGlobals03 hc rfl h
instance seqHead (a b c a' b' c' : Int) : SEq Try.prog 46 [.int .u16 a, .int .u16 b, .int .u32 c] [.int .u16 a', .int .u16 b', .int .u32 c'] (a == a' && (b == b' && (c == c' && true))) := ⟨by kernel_rfl⟩
end Go.Proofs.Ytmelgnpogdilgaa

/- HeadTakes on the abstract heap: it answers true. No conditions. -/
namespace Go.Proofs.Ytmelgnpogdilgaa
set_option linter.unusedVariables false
set_option maxRecDepth 100000
attribute [local irreducible] Go GoR GoL
set_option maxHeartbeats 4000000 in
theorem headTakes_spec (a : Option Addr) (cap : Nat) (zs : List UInt8) (hcap : cap ≤ maxLen) (h : AHeap) (hz : Rv Try.prog h 1 a zs.length cap (zs.map bv)) : CallS Try.prog [] 7 [.slice a zs.length cap] h fun v _ => v = .bool true := by
  unfold maxLen at hcap
  have hle := hz.le
  generalize hlen : zs.length = n at *
  rcases Nat.lt_or_ge 5000 n with g1 | g1
  ·
    (refine CallS.of1 Try.func7 rfl Try.ntmps7 Try.results7 rfl ?_)
    (refine Go.run (g:=?_))
    refine GoR.call rfl rfl rfl rfl rfl rfl rfl (((known03 _).args (by first | rfl | (simp; fail_if_success focus skip) | (simp; omega) | (congr 2; omega))).mono ?_)
    rintro _ h1 ⟨rfl, rfl⟩ -
    (refine Go.run (g:=?_))
    (first|refine Go.finT (by first|exact .inr rfl|exact .inl rfl) rfl ?_|refine Go.fin1 (by first|exact .inr rfl|exact .inl rfl) rfl (hq:=?_))
    rfl
  by_cases hx : 12 ≤ n ∧ n ≤ 1500 ∧ n % 4 = 0
  · obtain ⟨x2, x3, x4⟩ := hx
    by_cases hne : beNum ((zs.drop 8).take 4) = headSum zs
    ·
      (refine CallS.of1 Try.func7 rfl Try.ntmps7 Try.results7 rfl ?_)
      (refine Go.run (g:=?_))
      refine GoR.call rfl rfl rfl rfl rfl rfl rfl (((known03 _).args (by first | rfl | (simp; fail_if_success focus skip) | (simp; omega) | (congr 2; omega))).mono ?_)
      rintro _ h1 ⟨rfl, rfl⟩ -
      (refine Go.run (g:=?_))
      refine GoR.call rfl rfl rfl rfl rfl rfl rfl (((headTake_ok a n cap zs hlen x2 x3 x4 _ hz hne).args (by first | rfl | (simp; fail_if_success focus skip) | (simp; omega) | (congr 2; omega))).mono ?_)
      rintro _ h2 ⟨b1, c1, rfl, hb1, ob1⟩ s2
      have l6 : n - 12 = (zs.drop 12).length := by simp; omega
      generalize hys : zs.drop 12 = ys at hb1 l6
      rw [l6] at hb1 ⊢
      have m2 := s2.1
      (refine Go.run (g:=?_))
      have z2 := (hz.same s2)
      refine GoR.name ?_
      intro h3 e3
      have s3 : Same h2 h3 := by subst e3; exact ((Same.refl h2).push _).put (Nat.le_refl _) _
      have g3 : h3.get h2.n = some (.cells [.int .u16 (beNum (zs.take 2)), .int .u16 (beNum ((zs.drop 2).take 2)), .int .u32 (beNum ((zs.drop 4).take 4))] 46) := by subst e3; exact AHeap.get_put_same _ (by simp) _
      have n3 : h3.n = h2.n + 1 := by subst e3; rfl
      clear e3
      have hb2 := (Sv.rv (P := Try.prog) hb1).same s3
      refine GoR.call rfl rfl rfl rfl rfl rfl rfl (((refTake_spec a n cap zs hlen x2 x3 x4 _ (z2.same s3)).args (by first | rfl | (simp; fail_if_success focus skip) | (simp; omega) | (congr 2; omega))).mono ?_)
      intro v4 h4 q4 s4
      rw [if_pos hne] at q4
      obtain ⟨b4, c4, rfl, hb4, ob4⟩ := q4
      rw [hys, l6] at hb4
      rw [l6]
      have m4 := s4.1
      have hb5 := hb2.same s4
      have g4 := s4.get g3
      (refine Go.run (g:=?_))
      (first|refine Go.finT (by first|exact .inr rfl|exact .inl rfl) rfl ?_|refine Go.fin1 (by first|exact .inr rfl|exact .inl rfl) rfl (hq:=?_))
      simp [retV]
    ·
      (refine CallS.of1 Try.func7 rfl Try.ntmps7 Try.results7 rfl ?_)
      (refine Go.run (g:=?_))
      refine GoR.call rfl rfl rfl rfl rfl rfl rfl (((known03 _).args (by first | rfl | (simp; fail_if_success focus skip) | (simp; omega) | (congr 2; omega))).mono ?_)
      rintro _ h1 ⟨rfl, rfl⟩ -
      (refine Go.run (g:=?_))
      refine GoR.call rfl rfl rfl rfl rfl rfl rfl (((headTake_sum a n cap zs hlen x2 x3 x4 _ hz hne).args (by first | rfl | (simp; fail_if_success focus skip) | (simp; omega) | (congr 2; omega))).mono ?_)
      rintro _ h2 rfl s2
      (have nn := (s2).1; try simp only [AHeap.n_push, AHeap.n_put] at nn)
      (refine Go.run (g:=?_))
      have z2 : ∀ A b B, h2.n ≤ b → Rv Try.prog ((h2.push A).put b B) 1 a n cap (zs.map bv) := fun A b B hb => (hz.same s2).same (((Same.refl h2).push A).put hb B)
      refine GoR.call rfl rfl rfl rfl rfl rfl rfl (((refTake_spec a n cap zs hlen x2 x3 x4 _ (z2 _ _ _ (Nat.le_refl _))).args (by first | rfl | (simp; fail_if_success focus skip) | (simp; omega) | (congr 2; omega))).mono ?_)
      intro v4 h4 q4 s4
      rw [if_neg hne] at q4
      subst q4
      (have nn := (s4).1; try simp only [AHeap.n_push, AHeap.n_put] at nn)
      (refine Go.run (g:=?_))
      refine GoR.strV (zs := []) rfl rfl rfl rfl rfl Rv.nil ?_
      (refine Go.run (g:=?_))
      refine GoR.strV (zs := []) rfl rfl rfl rfl rfl Rv.nil ?_
      (refine Go.run (g:=?_))
      (first|refine Go.finT (by first|exact .inr rfl|exact .inl rfl) rfl ?_|refine Go.fin1 (by first|exact .inr rfl|exact .inl rfl) rfl (hq:=?_))
      simp [retV]
  · obtain ⟨x, hx⟩ : ∃ x, 1500 < n ∧ x = 3 ∨ n < 12 ∧ x = 30 ∨ 12 ≤ n ∧ n ≤ 1500 ∧ n % 4 ≠ 0 ∧ x = 32 := by
      rcases Nat.lt_or_ge 1500 n with g | g
      · exact ⟨3, .inl ⟨g, rfl⟩⟩
      · rcases Nat.lt_or_ge n 12 with g' | g'
        · exact ⟨30, .inr (.inl ⟨g', rfl⟩)⟩
        · exact ⟨32, .inr (.inr ⟨g', g, fun e => hx ⟨g', g, e⟩, rfl⟩)⟩
    (refine CallS.of1 Try.func7 rfl Try.ntmps7 Try.results7 rfl ?_)
    (refine Go.run (g:=?_))
    refine GoR.call rfl rfl rfl rfl rfl rfl rfl (((known03 _).args (by first | rfl | (simp; fail_if_success focus skip) | (simp; omega) | (congr 2; omega))).mono ?_)
    rintro _ h1 ⟨rfl, rfl⟩ -
    (refine Go.run (g:=?_))
    refine GoR.call rfl rfl rfl rfl rfl rfl rfl (((headTake_err a n cap (by clear hx; omega) _ x hx).args (by first | rfl | (simp; fail_if_success focus skip) | (simp; omega) | (congr 2; omega))).mono ?_)
    rintro _ h2 rfl s2
    (have nn := (s2).1; try simp only [AHeap.n_push, AHeap.n_put] at nn)
    (refine Go.run (g:=?_))
    refine GoR.call rfl rfl rfl rfl rfl rfl rfl (((refTake_err a n cap (by omega) _ x hx).args (by first | rfl | (simp; fail_if_success focus skip) | (simp; omega) | (congr 2; omega))).mono ?_)
    rintro _ h3 rfl s3
    (have nn := (s3).1; try simp only [AHeap.n_push, AHeap.n_put] at nn)
    (refine Go.run (g:=?_))
    refine GoR.strV (zs := []) rfl rfl rfl rfl rfl Rv.nil ?_
    (refine Go.run (g:=?_))
    refine GoR.strV (zs := []) rfl rfl rfl rfl rfl Rv.nil ?_
    (refine Go.run (g:=?_))
    (first|refine Go.finT (by first|exact .inr rfl|exact .inl rfl) rfl ?_|refine Go.fin1 (by first|exact .inr rfl|exact .inl rfl) rfl (hq:=?_))
    simp [retV]
end Go.Proofs.Ytmelgnpogdilgaa

/- Headers and bytes that come in. No conditions. -/
namespace Go.Proofs.Ytmelgnpogdilgaa
set_option linter.unusedVariables false
set_option maxRecDepth 100000
theorem hu8 : Try.prog.underlying 5 = some (.int .u8) := by kernel_rfl
theorem hu16 : Try.prog.underlying 22 = some (.int .u16) := by kernel_rfl
theorem hu32 : Try.prog.underlying 44 = some (.int .u32) := by kernel_rfl
theorem hbytesU : Try.prog.underlying 23 = some (.slice 5) := by kernel_rfl
theorem head_of {h : AHeap} {H : Type} {cs : List Value} {d : DataW H} (r : ARd Try.prog h 46 cs d) : ∃ f t g : Nat, cs = [.int .u16 f, .int .u16 t, .int .u32 g] ∧ f < 65536 ∧ t < 65536 ∧ g < 4294967296 := by
  obtain ⟨hl, hf⟩ := r.field Try.underlying46
  rw [show Try.prog.cellsOf 46 = 3 from by kernel_rfl] at hl
  match cs, hl with
  | [c0, c1, c2], _ =>
    obtain ⟨d0, r0⟩ := hf 0 22 0 1 rfl (by kernel_rfl)
    obtain ⟨d1, r1⟩ := hf 1 22 1 1 rfl (by kernel_rfl)
    obtain ⟨d2, r2⟩ := hf 2 44 2 1 rfl (by kernel_rfl)
    obtain ⟨f, e0, h0⟩ := r0.u_inv rfl hu16
    obtain ⟨t, e1, h1⟩ := r1.u_inv rfl hu16
    obtain ⟨g, e2, h2⟩ := r2.u_inv rfl hu32
    simp at e0 e1 e2
    subst e0 e1 e2
    exact ⟨f, t, g, rfl, h0, h1, h2⟩
theorem plainHead : plainB Try.prog 3 46 = true := by kernel_rfl
theorem plainBytes : plainB Try.prog 3 23 = true := by kernel_rfl
/-- A header that comes in. -/
theorem imp_head {H : Type} {enc : TypeId × Value → H} {W : World} {m : Mp} {h : AHeap} {base : Nat} {v : Value} {d : DataW H} {ps : List MemPlace} (o : Value.okWide Try.prog W .any base 46 v) (ht : DataW.Trod enc Try.prog W 0 (fun _ => true) true 46 v d ps) (I : Im Try.prog W m h) :
    ∃ m' h', Im Try.prog W m' h' ∧ m.le m' ∧ Same h h' ∧ ∃ f t g : Nat, VRel m' (hdV f t g) v ∧ f < 65536 ∧ t < 65536 ∧ g < 4294967296 := by
  obtain ⟨c, rfl, _⟩ := WideShapes.okWide_struct Try.underlying46 o
  obtain ⟨m', h', cs, I', hm, hs, hA, hR, _⟩ := imp_val plainHead ht I
  have hv := vrel_agg hA
  obtain ⟨f, t, g, rfl, b1, b2, b3⟩ := head_of hR
  exact ⟨m', h', I', hm, hs, f, t, g, hv, b1, b2, b3⟩
/-- Bytes that come in. -/
theorem imp_bytes {H : Type} {enc : TypeId × Value → H} {W : World} {m : Mp} {h : AHeap} {base : Nat} {v : Value} {d : DataW H} {ps : List MemPlace} (o : Value.okWide Try.prog W .any base 23 v) (ht : DataW.Trod enc Try.prog W 0 (fun _ => true) true 23 v d ps) (I : Im Try.prog W m h) :
    ∃ m' h', Im Try.prog W m' h' ∧ m.le m' ∧ Same h h' ∧ ∃ (a : Option Addr) (cap : Nat) (zs : List UInt8), VRel m' (.slice a zs.length cap) v ∧ Rv Try.prog h' 1 a zs.length cap (zs.map bv) ∧ cap ≤ maxLen := by
  obtain ⟨a0, l0, c0, rfl⟩ := WideShapes.okWide_slice hbytesU o
  obtain ⟨m', h', cs, I', hm, hs, hA, hR, hl⟩ := imp_val plainBytes ht I
  obtain ⟨x, rfl, hv⟩ := vrel_one hA (by rw [hl]; kernel_rfl) rfl
  obtain ⟨a, cap, zs, e, hz, hc⟩ := hR.bytes hbytesU hu8 (by kernel_rfl)
  cases e
  exact ⟨m', h', I', hm, hs, a, cap, zs, hv, hz, hc⟩
end Go.Proofs.Ytmelgnpogdilgaa

/- HeadTakes: the walk: the law returns true and turns nothing that was there. -/
namespace Go.Proofs.Ytmelgnpogdilgaa
set_option linter.unusedVariables false
open Go.ChangeShapes Go.WideShapes Go.ChangeAt Go.RowKit
set_option maxRecDepth 100000
theorem headTakesWalk {H : Type} {enc : TypeId × Value → H} {base : Nat} {d0 : DataW H} {p0 : List MemPlace} (v0 : Value) (W : World) (o0 : Value.okWide Try.prog W .any base 23 v0) (h0 : DataW.Trod enc Try.prog W 0 (fun _ => true) true 23 v0 d0 p0) : Calls Try.prog 7 #[v0] W fun e w' => e = .returned (.bool true) ∧ Below W.heap.size W w' := by
  obtain ⟨m, h, I, _, _, a, cap, zs, hv, hz, hc⟩ := imp_bytes o0 h0 (Im.empty Try.prog W)
  refine calls_imp noGlobals I rfl (headTakes_spec a cap zs hc h hz) ?_
  exact ARel.single hv
end Go.Proofs.Ytmelgnpogdilgaa
