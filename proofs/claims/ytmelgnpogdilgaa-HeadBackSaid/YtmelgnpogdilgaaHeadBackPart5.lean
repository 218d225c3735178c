/- What the law leans on, part 5. No conditions. -/
import Derived.Test.YtmelgnpogdilgaaProg
import Derived.KernelRfl
import Derived.Test.YtmelgnpogdilgaaChecked
import Derived.WideShapes
import Derived.ProofKit
import Derived.OpenShut
import Derived.ChangeOld
import Derived.Test.YtmelgnpogdilgaaHeadBackPart4
/- What is known of the program's types. No conditions. -/
namespace Go.Proofs.Ytmelgnpogdilgaa
set_option linter.unusedVariables false
instance : CT Try.prog 0 none := ⟨by kernel_rfl⟩
instance : SZ Try.prog 0 1 := ⟨by kernel_rfl⟩
instance : CT Try.prog 1 none := ⟨by kernel_rfl⟩
instance : SZ Try.prog 1 1 := ⟨by kernel_rfl⟩
instance : AL Try.prog 1 [.nilFunc] := ⟨by kernel_rfl⟩
instance : CT Try.prog 2 none := ⟨by kernel_rfl⟩
instance : SZ Try.prog 2 1 := ⟨by kernel_rfl⟩
theorem un2 : Try.prog.underlying 2 = some (.int .i64) := by kernel_rfl
instance : AL Try.prog 2 [.int .i64 0] := ⟨by kernel_rfl⟩
instance : CT Try.prog 3 none := ⟨by kernel_rfl⟩
instance : SZ Try.prog 3 1 := ⟨by kernel_rfl⟩
theorem un3 : Try.prog.underlying 3 = some (.int .i64) := by kernel_rfl
instance : AL Try.prog 3 [.int .i64 0] := ⟨by kernel_rfl⟩
instance : CT Try.prog 4 none := ⟨by kernel_rfl⟩
instance : SZ Try.prog 4 1 := ⟨by kernel_rfl⟩
instance : AL Try.prog 4 [.bool false] := ⟨by kernel_rfl⟩
instance : CT Try.prog 5 none := ⟨by kernel_rfl⟩
instance : SZ Try.prog 5 1 := ⟨by kernel_rfl⟩
theorem un5 : Try.prog.underlying 5 = some (.int .u8) := by kernel_rfl
instance : AL Try.prog 5 [.int .u8 0] := ⟨by kernel_rfl⟩
instance : CT Try.prog 6 none := ⟨by kernel_rfl⟩
instance : SZ Try.prog 6 1 := ⟨by kernel_rfl⟩
theorem un6 : Try.prog.underlying 6 = some (.int .u8) := by kernel_rfl
instance : AL Try.prog 6 [.int .u8 0] := ⟨by kernel_rfl⟩
instance : CT Try.prog 7 (some 4) := ⟨by kernel_rfl⟩
instance : SZ Try.prog 7 4 := ⟨by kernel_rfl⟩
instance : FO Try.prog 7 0 0 := ⟨by kernel_rfl⟩
instance : FO Try.prog 7 1 1 := ⟨by kernel_rfl⟩
instance : FO Try.prog 7 2 2 := ⟨by kernel_rfl⟩
instance : FO Try.prog 7 3 3 := ⟨by kernel_rfl⟩
instance : ST Try.prog 7 [.int .i64 0, .int .i64 0, .bool false, .int .u8 0] [(0, 1), (1, 1), (2, 1), (3, 1)] := .of (z := .agg #[.int .i64 0, .int .i64 0, .bool false, .int .u8 0]) (fs := (match Try.prog.underlying 7 with | some (.struct fs) => fs | _ => #[])) (by kernel_rfl) (by kernel_rfl) (by kernel_rfl) (by kernel_rfl) (by kernel_rfl)
instance : AL Try.prog 7 [.int .i64 0, .int .i64 0, .bool false, .int .u8 0] := ⟨by kernel_rfl⟩
instance : CT Try.prog 8 (some 4) := ⟨by kernel_rfl⟩
instance : SZ Try.prog 8 4 := ⟨by kernel_rfl⟩
instance : FO Try.prog 8 0 0 := ⟨by kernel_rfl⟩
instance : FO Try.prog 8 1 1 := ⟨by kernel_rfl⟩
instance : FO Try.prog 8 2 2 := ⟨by kernel_rfl⟩
instance : FO Try.prog 8 3 3 := ⟨by kernel_rfl⟩
instance : ST Try.prog 8 [.int .i64 0, .int .i64 0, .bool false, .int .u8 0] [(0, 1), (1, 1), (2, 1), (3, 1)] := .of (z := .agg #[.int .i64 0, .int .i64 0, .bool false, .int .u8 0]) (fs := (match Try.prog.underlying 8 with | some (.struct fs) => fs | _ => #[])) (by kernel_rfl) (by kernel_rfl) (by kernel_rfl) (by kernel_rfl) (by kernel_rfl)
instance : AL Try.prog 8 [.int .i64 0, .int .i64 0, .bool false, .int .u8 0] := ⟨by kernel_rfl⟩
instance : CT Try.prog 9 none := ⟨by kernel_rfl⟩
instance : SZ Try.prog 9 1 := ⟨by kernel_rfl⟩
instance : UN Try.prog 9 .string := ⟨by kernel_rfl⟩
instance : AL Try.prog 9 [.string ⟨#[]⟩] := ⟨by kernel_rfl⟩
instance : CT Try.prog 10 none := ⟨by kernel_rfl⟩
instance : SZ Try.prog 10 1 := ⟨by kernel_rfl⟩
instance : UN Try.prog 10 .string := ⟨by kernel_rfl⟩
instance : AL Try.prog 10 [.string ⟨#[]⟩] := ⟨by kernel_rfl⟩
instance : CT Try.prog 11 none := ⟨by kernel_rfl⟩
instance : SZ Try.prog 11 1 := ⟨by kernel_rfl⟩
instance : UN Try.prog 11 .string := ⟨by kernel_rfl⟩
instance : AL Try.prog 11 [.string ⟨#[]⟩] := ⟨by kernel_rfl⟩
instance : CT Try.prog 12 none := ⟨by kernel_rfl⟩
instance : SZ Try.prog 12 1 := ⟨by kernel_rfl⟩
theorem un12 : Try.prog.underlying 12 = some (.int .u64) := by kernel_rfl
instance : AL Try.prog 12 [.int .u64 0] := ⟨by kernel_rfl⟩
instance : CT Try.prog 13 (some 2) := ⟨by kernel_rfl⟩
instance : SZ Try.prog 13 2 := ⟨by kernel_rfl⟩
instance : FO Try.prog 13 0 0 := ⟨by kernel_rfl⟩
instance : FO Try.prog 13 1 1 := ⟨by kernel_rfl⟩
instance : ST Try.prog 13 [.string ⟨#[]⟩, .int .u64 0] [(0, 1), (1, 1)] := .of (z := .agg #[.string ⟨#[]⟩, .int .u64 0]) (fs := (match Try.prog.underlying 13 with | some (.struct fs) => fs | _ => #[])) (by kernel_rfl) (by kernel_rfl) (by kernel_rfl) (by kernel_rfl) (by kernel_rfl)
instance : AL Try.prog 13 [.string ⟨#[]⟩, .int .u64 0] := ⟨by kernel_rfl⟩
instance : CT Try.prog 14 (some 2) := ⟨by kernel_rfl⟩
instance : SZ Try.prog 14 2 := ⟨by kernel_rfl⟩
instance : FO Try.prog 14 0 0 := ⟨by kernel_rfl⟩
instance : FO Try.prog 14 1 1 := ⟨by kernel_rfl⟩
instance : ST Try.prog 14 [.string ⟨#[]⟩, .int .u64 0] [(0, 1), (1, 1)] := .of (z := .agg #[.string ⟨#[]⟩, .int .u64 0]) (fs := (match Try.prog.underlying 14 with | some (.struct fs) => fs | _ => #[])) (by kernel_rfl) (by kernel_rfl) (by kernel_rfl) (by kernel_rfl) (by kernel_rfl)
instance : AL Try.prog 14 [.string ⟨#[]⟩, .int .u64 0] := ⟨by kernel_rfl⟩
instance : CT Try.prog 15 none := ⟨by kernel_rfl⟩
instance : SZ Try.prog 15 1 := ⟨by kernel_rfl⟩
instance : AL Try.prog 15 [.pointer none] := ⟨by kernel_rfl⟩
instance : CT Try.prog 16 none := ⟨by kernel_rfl⟩
instance : SZ Try.prog 16 1 := ⟨by kernel_rfl⟩
instance : AL Try.prog 16 [.pointer none] := ⟨by kernel_rfl⟩
instance : CT Try.prog 17 none := ⟨by kernel_rfl⟩
instance : SZ Try.prog 17 1 := ⟨by kernel_rfl⟩
instance : AL Try.prog 17 [.pointer none] := ⟨by kernel_rfl⟩
instance : CT Try.prog 18 (some 1) := ⟨by kernel_rfl⟩
instance : SZ Try.prog 18 1 := ⟨by kernel_rfl⟩
instance : FO Try.prog 18 0 0 := ⟨by kernel_rfl⟩
instance : ST Try.prog 18 [.pointer none] [(0, 1)] := .of (z := .agg #[.pointer none]) (fs := (match Try.prog.underlying 18 with | some (.struct fs) => fs | _ => #[])) (by kernel_rfl) (by kernel_rfl) (by kernel_rfl) (by kernel_rfl) (by kernel_rfl)
instance : AL Try.prog 18 [.pointer none] := ⟨by kernel_rfl⟩
instance : CT Try.prog 19 (some 1) := ⟨by kernel_rfl⟩
instance : SZ Try.prog 19 1 := ⟨by kernel_rfl⟩
instance : FO Try.prog 19 0 0 := ⟨by kernel_rfl⟩
instance : ST Try.prog 19 [.pointer none] [(0, 1)] := .of (z := .agg #[.pointer none]) (fs := (match Try.prog.underlying 19 with | some (.struct fs) => fs | _ => #[])) (by kernel_rfl) (by kernel_rfl) (by kernel_rfl) (by kernel_rfl) (by kernel_rfl)
instance : AL Try.prog 19 [.pointer none] := ⟨by kernel_rfl⟩
instance : CT Try.prog 20 none := ⟨by kernel_rfl⟩
instance : SZ Try.prog 20 1 := ⟨by kernel_rfl⟩
instance : AL Try.prog 20 [.nilIface] := ⟨by kernel_rfl⟩
instance : CT Try.prog 21 none := ⟨by kernel_rfl⟩
instance : SZ Try.prog 21 1 := ⟨by kernel_rfl⟩
theorem un21 : Try.prog.underlying 21 = some (.int .i32) := by kernel_rfl
instance : AL Try.prog 21 [.int .i32 0] := ⟨by kernel_rfl⟩
instance : CT Try.prog 22 none := ⟨by kernel_rfl⟩
instance : SZ Try.prog 22 1 := ⟨by kernel_rfl⟩
theorem un22 : Try.prog.underlying 22 = some (.int .u16) := by kernel_rfl
instance : AL Try.prog 22 [.int .u16 0] := ⟨by kernel_rfl⟩
instance : CT Try.prog 23 none := ⟨by kernel_rfl⟩
instance : SZ Try.prog 23 1 := ⟨by kernel_rfl⟩
instance : EL Try.prog 23 (none, 1) := ⟨by kernel_rfl⟩
instance : UN Try.prog 23 (.slice 5) := ⟨by kernel_rfl⟩
instance : BS Try.prog 23 5 1 (.int .u8 0) := .of (by kernel_rfl) (by kernel_rfl) (by kernel_rfl) (by kernel_rfl) (by kernel_rfl)
instance : MK Try.prog 23 5 1 (.int .u8 0) := .of (inf := Try.t5) (by kernel_rfl) (by kernel_rfl) (by kernel_rfl) (by kernel_rfl) (by kernel_rfl) (by kernel_rfl) (by kernel_rfl)
instance : AP Try.prog 23 23 5 1 1 := .of (inf := Try.t5) (z := .int .u8 0) (e₂ := 5) (by kernel_rfl) (by kernel_rfl) (by kernel_rfl) (by kernel_rfl) (by kernel_rfl) (by kernel_rfl) (by decide) (by kernel_rfl) (by kernel_rfl)
instance : AL Try.prog 23 [.slice none 0 0] := ⟨by kernel_rfl⟩
instance : CT Try.prog 24 (some 3) := ⟨by kernel_rfl⟩
instance : SZ Try.prog 24 3 := ⟨by kernel_rfl⟩
instance : FO Try.prog 24 0 0 := ⟨by kernel_rfl⟩
instance : FO Try.prog 24 1 1 := ⟨by kernel_rfl⟩
instance : FO Try.prog 24 2 2 := ⟨by kernel_rfl⟩
instance : ST Try.prog 24 [.int .u16 0, .int .u8 0, .slice none 0 0] [(0, 1), (1, 1), (2, 1)] := .of (z := .agg #[.int .u16 0, .int .u8 0, .slice none 0 0]) (fs := (match Try.prog.underlying 24 with | some (.struct fs) => fs | _ => #[])) (by kernel_rfl) (by kernel_rfl) (by kernel_rfl) (by kernel_rfl) (by kernel_rfl)
instance : AL Try.prog 24 [.int .u16 0, .int .u8 0, .slice none 0 0] := ⟨by kernel_rfl⟩
instance : CT Try.prog 25 (some 3) := ⟨by kernel_rfl⟩
instance : SZ Try.prog 25 3 := ⟨by kernel_rfl⟩
instance : FO Try.prog 25 0 0 := ⟨by kernel_rfl⟩
instance : FO Try.prog 25 1 1 := ⟨by kernel_rfl⟩
instance : FO Try.prog 25 2 2 := ⟨by kernel_rfl⟩
instance : ST Try.prog 25 [.int .u16 0, .int .u8 0, .slice none 0 0] [(0, 1), (1, 1), (2, 1)] := .of (z := .agg #[.int .u16 0, .int .u8 0, .slice none 0 0]) (fs := (match Try.prog.underlying 25 with | some (.struct fs) => fs | _ => #[])) (by kernel_rfl) (by kernel_rfl) (by kernel_rfl) (by kernel_rfl) (by kernel_rfl)
instance : AL Try.prog 25 [.int .u16 0, .int .u8 0, .slice none 0 0] := ⟨by kernel_rfl⟩
instance : CT Try.prog 26 none := ⟨by kernel_rfl⟩
instance : SZ Try.prog 26 1 := ⟨by kernel_rfl⟩
instance : AL Try.prog 26 [.nilFunc] := ⟨by kernel_rfl⟩
instance : CT Try.prog 27 none := ⟨by kernel_rfl⟩
instance : SZ Try.prog 27 1 := ⟨by kernel_rfl⟩
theorem un27 : Try.prog.underlying 27 = some (.int .i64) := by kernel_rfl
instance : AL Try.prog 27 [.int .i64 0] := ⟨by kernel_rfl⟩
instance : CT Try.prog 28 none := ⟨by kernel_rfl⟩
instance : SZ Try.prog 28 1 := ⟨by kernel_rfl⟩
instance : CT Try.prog 29 none := ⟨by kernel_rfl⟩
instance : SZ Try.prog 29 1 := ⟨by kernel_rfl⟩
instance : AL Try.prog 29 [.nilFunc] := ⟨by kernel_rfl⟩
instance : CT Try.prog 30 none := ⟨by kernel_rfl⟩
instance : SZ Try.prog 30 1 := ⟨by kernel_rfl⟩
instance : AL Try.prog 30 [.nilFunc] := ⟨by kernel_rfl⟩
instance : CT Try.prog 31 none := ⟨by kernel_rfl⟩
instance : SZ Try.prog 31 1 := ⟨by kernel_rfl⟩
instance : AL Try.prog 31 [.nilFunc] := ⟨by kernel_rfl⟩
instance : CT Try.prog 32 none := ⟨by kernel_rfl⟩
instance : SZ Try.prog 32 1 := ⟨by kernel_rfl⟩
instance : EL Try.prog 32 (none, 3) := ⟨by kernel_rfl⟩
instance : UN Try.prog 32 (.slice 25) := ⟨by kernel_rfl⟩
instance : BS Try.prog 32 25 3 (.agg #[.int .u16 0, .int .u8 0, .slice none 0 0]) := .of (by kernel_rfl) (by kernel_rfl) (by kernel_rfl) (by kernel_rfl) (by kernel_rfl)
instance : AP Try.prog 32 32 25 3 32 := .of (inf := Try.t25) (z := .agg #[.int .u16 0, .int .u8 0, .slice none 0 0]) (e₂ := 25) (by kernel_rfl) (by kernel_rfl) (by kernel_rfl) (by kernel_rfl) (by kernel_rfl) (by kernel_rfl) (by decide) (by kernel_rfl) (by kernel_rfl)
instance : AL Try.prog 32 [.slice none 0 0] := ⟨by kernel_rfl⟩
instance : CT Try.prog 33 none := ⟨by kernel_rfl⟩
instance : SZ Try.prog 33 1 := ⟨by kernel_rfl⟩
instance : CT Try.prog 34 none := ⟨by kernel_rfl⟩
instance : SZ Try.prog 34 1 := ⟨by kernel_rfl⟩
instance : AL Try.prog 34 [.nilFunc] := ⟨by kernel_rfl⟩
instance : CT Try.prog 35 none := ⟨by kernel_rfl⟩
instance : SZ Try.prog 35 1 := ⟨by kernel_rfl⟩
instance : AL Try.prog 35 [.nilFunc] := ⟨by kernel_rfl⟩
instance : CT Try.prog 36 none := ⟨by kernel_rfl⟩
instance : SZ Try.prog 36 1 := ⟨by kernel_rfl⟩
instance : AL Try.prog 36 [.nilFunc] := ⟨by kernel_rfl⟩
instance : CT Try.prog 37 none := ⟨by kernel_rfl⟩
instance : SZ Try.prog 37 1 := ⟨by kernel_rfl⟩
instance : AL Try.prog 37 [.nilFunc] := ⟨by kernel_rfl⟩
instance : CT Try.prog 38 none := ⟨by kernel_rfl⟩
instance : SZ Try.prog 38 1 := ⟨by kernel_rfl⟩
instance : AL Try.prog 38 [.nilFunc] := ⟨by kernel_rfl⟩
instance : CT Try.prog 39 none := ⟨by kernel_rfl⟩
instance : SZ Try.prog 39 1 := ⟨by kernel_rfl⟩
instance : CT Try.prog 40 none := ⟨by kernel_rfl⟩
instance : SZ Try.prog 40 1 := ⟨by kernel_rfl⟩
instance : AL Try.prog 40 [.nilFunc] := ⟨by kernel_rfl⟩
instance : CT Try.prog 41 none := ⟨by kernel_rfl⟩
instance : SZ Try.prog 41 1 := ⟨by kernel_rfl⟩
instance : AL Try.prog 41 [.nilFunc] := ⟨by kernel_rfl⟩
instance : CT Try.prog 42 none := ⟨by kernel_rfl⟩
instance : SZ Try.prog 42 1 := ⟨by kernel_rfl⟩
instance : AL Try.prog 42 [.nilFunc] := ⟨by kernel_rfl⟩
instance : CT Try.prog 43 none := ⟨by kernel_rfl⟩
instance : SZ Try.prog 43 1 := ⟨by kernel_rfl⟩
instance : AL Try.prog 43 [.nilFunc] := ⟨by kernel_rfl⟩
instance : CT Try.prog 44 none := ⟨by kernel_rfl⟩
instance : SZ Try.prog 44 1 := ⟨by kernel_rfl⟩
theorem un44 : Try.prog.underlying 44 = some (.int .u32) := by kernel_rfl
instance : AL Try.prog 44 [.int .u32 0] := ⟨by kernel_rfl⟩
instance : CT Try.prog 45 (some 3) := ⟨by kernel_rfl⟩
instance : SZ Try.prog 45 3 := ⟨by kernel_rfl⟩
instance : FO Try.prog 45 0 0 := ⟨by kernel_rfl⟩
instance : FO Try.prog 45 1 1 := ⟨by kernel_rfl⟩
instance : FO Try.prog 45 2 2 := ⟨by kernel_rfl⟩
instance : ST Try.prog 45 [.int .u16 0, .int .u16 0, .int .u32 0] [(0, 1), (1, 1), (2, 1)] := .of (z := .agg #[.int .u16 0, .int .u16 0, .int .u32 0]) (fs := (match Try.prog.underlying 45 with | some (.struct fs) => fs | _ => #[])) (by kernel_rfl) (by kernel_rfl) (by kernel_rfl) (by kernel_rfl) (by kernel_rfl)
instance : AL Try.prog 45 [.int .u16 0, .int .u16 0, .int .u32 0] := ⟨by kernel_rfl⟩
instance : CT Try.prog 46 (some 3) := ⟨by kernel_rfl⟩
instance : SZ Try.prog 46 3 := ⟨by kernel_rfl⟩
instance : FO Try.prog 46 0 0 := ⟨by kernel_rfl⟩
instance : FO Try.prog 46 1 1 := ⟨by kernel_rfl⟩
instance : FO Try.prog 46 2 2 := ⟨by kernel_rfl⟩
instance : ST Try.prog 46 [.int .u16 0, .int .u16 0, .int .u32 0] [(0, 1), (1, 1), (2, 1)] := .of (z := .agg #[.int .u16 0, .int .u16 0, .int .u32 0]) (fs := (match Try.prog.underlying 46 with | some (.struct fs) => fs | _ => #[])) (by kernel_rfl) (by kernel_rfl) (by kernel_rfl) (by kernel_rfl) (by kernel_rfl)
instance : AL Try.prog 46 [.int .u16 0, .int .u16 0, .int .u32 0] := ⟨by kernel_rfl⟩
instance : CT Try.prog 47 none := ⟨by kernel_rfl⟩
instance : SZ Try.prog 47 1 := ⟨by kernel_rfl⟩
instance : AL Try.prog 47 [.nilFunc] := ⟨by kernel_rfl⟩
instance : CT Try.prog 48 none := ⟨by kernel_rfl⟩
instance : SZ Try.prog 48 1 := ⟨by kernel_rfl⟩
instance : AL Try.prog 48 [.nilFunc] := ⟨by kernel_rfl⟩
instance : CT Try.prog 49 none := ⟨by kernel_rfl⟩
instance : SZ Try.prog 49 1 := ⟨by kernel_rfl⟩
instance : CT Try.prog 50 none := ⟨by kernel_rfl⟩
instance : SZ Try.prog 50 1 := ⟨by kernel_rfl⟩
instance : AL Try.prog 50 [.nilFunc] := ⟨by kernel_rfl⟩
instance : CT Try.prog 51 none := ⟨by kernel_rfl⟩
instance : SZ Try.prog 51 1 := ⟨by kernel_rfl⟩
instance : AL Try.prog 51 [.nilFunc] := ⟨by kernel_rfl⟩
instance : CT Try.prog 52 none := ⟨by kernel_rfl⟩
instance : SZ Try.prog 52 1 := ⟨by kernel_rfl⟩
instance : AL Try.prog 52 [.nilFunc] := ⟨by kernel_rfl⟩
instance : CT Try.prog 53 none := ⟨by kernel_rfl⟩
instance : SZ Try.prog 53 1 := ⟨by kernel_rfl⟩
instance : EL Try.prog 53 (none, 1) := ⟨by kernel_rfl⟩
instance : UN Try.prog 53 (.slice 44) := ⟨by kernel_rfl⟩
instance : BS Try.prog 53 44 1 (.int .u32 0) := .of (by kernel_rfl) (by kernel_rfl) (by kernel_rfl) (by kernel_rfl) (by kernel_rfl)
instance : MK Try.prog 53 44 4 (.int .u32 0) := .of (inf := Try.t44) (by kernel_rfl) (by kernel_rfl) (by kernel_rfl) (by kernel_rfl) (by kernel_rfl) (by kernel_rfl) (by kernel_rfl)
instance : AP Try.prog 53 53 44 1 4 := .of (inf := Try.t44) (z := .int .u32 0) (e₂ := 44) (by kernel_rfl) (by kernel_rfl) (by kernel_rfl) (by kernel_rfl) (by kernel_rfl) (by kernel_rfl) (by decide) (by kernel_rfl) (by kernel_rfl)
instance : AL Try.prog 53 [.slice none 0 0] := ⟨by kernel_rfl⟩
instance : CT Try.prog 54 none := ⟨by kernel_rfl⟩
instance : SZ Try.prog 54 1 := ⟨by kernel_rfl⟩
instance : EL Try.prog 54 (none, 2) := ⟨by kernel_rfl⟩
instance : UN Try.prog 54 (.slice 82) := ⟨by kernel_rfl⟩
instance : BS Try.prog 54 82 2 (.agg #[.int .u16 0, .int .u16 0]) := .of (by kernel_rfl) (by kernel_rfl) (by kernel_rfl) (by kernel_rfl) (by kernel_rfl)
instance : AP Try.prog 54 54 82 2 4 := .of (inf := Try.t82) (z := .agg #[.int .u16 0, .int .u16 0]) (e₂ := 82) (by kernel_rfl) (by kernel_rfl) (by kernel_rfl) (by kernel_rfl) (by kernel_rfl) (by kernel_rfl) (by decide) (by kernel_rfl) (by kernel_rfl)
instance : AL Try.prog 54 [.slice none 0 0] := ⟨by kernel_rfl⟩
instance : CT Try.prog 55 none := ⟨by kernel_rfl⟩
instance : SZ Try.prog 55 1 := ⟨by kernel_rfl⟩
instance : EL Try.prog 55 (none, 2) := ⟨by kernel_rfl⟩
instance : UN Try.prog 55 (.slice 84) := ⟨by kernel_rfl⟩
instance : BS Try.prog 55 84 2 (.agg #[.int .u16 0, .slice none 0 0]) := .of (by kernel_rfl) (by kernel_rfl) (by kernel_rfl) (by kernel_rfl) (by kernel_rfl)
instance : AP Try.prog 55 55 84 2 32 := .of (inf := Try.t84) (z := .agg #[.int .u16 0, .slice none 0 0]) (e₂ := 84) (by kernel_rfl) (by kernel_rfl) (by kernel_rfl) (by kernel_rfl) (by kernel_rfl) (by kernel_rfl) (by decide) (by kernel_rfl) (by kernel_rfl)
instance : AL Try.prog 55 [.slice none 0 0] := ⟨by kernel_rfl⟩
instance : CT Try.prog 56 (some 15) := ⟨by kernel_rfl⟩
instance : SZ Try.prog 56 15 := ⟨by kernel_rfl⟩
instance : FO Try.prog 56 0 0 := ⟨by kernel_rfl⟩
instance : FO Try.prog 56 1 1 := ⟨by kernel_rfl⟩
instance : FO Try.prog 56 2 2 := ⟨by kernel_rfl⟩
instance : FO Try.prog 56 3 3 := ⟨by kernel_rfl⟩
instance : FO Try.prog 56 4 4 := ⟨by kernel_rfl⟩
instance : FO Try.prog 56 5 5 := ⟨by kernel_rfl⟩
instance : FO Try.prog 56 6 6 := ⟨by kernel_rfl⟩
instance : FO Try.prog 56 7 7 := ⟨by kernel_rfl⟩
instance : FO Try.prog 56 8 8 := ⟨by kernel_rfl⟩
instance : FO Try.prog 56 9 9 := ⟨by kernel_rfl⟩
instance : FO Try.prog 56 10 10 := ⟨by kernel_rfl⟩
instance : FO Try.prog 56 11 11 := ⟨by kernel_rfl⟩
instance : FO Try.prog 56 12 12 := ⟨by kernel_rfl⟩
instance : FO Try.prog 56 13 13 := ⟨by kernel_rfl⟩
instance : FO Try.prog 56 14 14 := ⟨by kernel_rfl⟩
instance : ST Try.prog 56 [.int .u8 0, .int .u8 0, .int .u32 0, .int .u32 0, .int .u32 0, .int .u16 0, .int .u16 0, .int .u16 0, .int .u16 0, .int .u32 0, .slice none 0 0, .slice none 0 0, .slice none 0 0, .slice none 0 0, .slice none 0 0] [(0, 1), (1, 1), (2, 1), (3, 1), (4, 1), (5, 1), (6, 1), (7, 1), (8, 1), (9, 1), (10, 1), (11, 1), (12, 1), (13, 1), (14, 1)] := .of (z := .agg #[.int .u8 0, .int .u8 0, .int .u32 0, .int .u32 0, .int .u32 0, .int .u16 0, .int .u16 0, .int .u16 0, .int .u16 0, .int .u32 0, .slice none 0 0, .slice none 0 0, .slice none 0 0, .slice none 0 0, .slice none 0 0]) (fs := (match Try.prog.underlying 56 with | some (.struct fs) => fs | _ => #[])) (by kernel_rfl) (by kernel_rfl) (by kernel_rfl) (by kernel_rfl) (by kernel_rfl)
instance : AL Try.prog 56 [.int .u8 0, .int .u8 0, .int .u32 0, .int .u32 0, .int .u32 0, .int .u16 0, .int .u16 0, .int .u16 0, .int .u16 0, .int .u32 0, .slice none 0 0, .slice none 0 0, .slice none 0 0, .slice none 0 0, .slice none 0 0] := ⟨by kernel_rfl⟩
instance : CT Try.prog 57 (some 15) := ⟨by kernel_rfl⟩
instance : SZ Try.prog 57 15 := ⟨by kernel_rfl⟩
instance : FO Try.prog 57 0 0 := ⟨by kernel_rfl⟩
instance : FO Try.prog 57 1 1 := ⟨by kernel_rfl⟩
instance : FO Try.prog 57 2 2 := ⟨by kernel_rfl⟩
instance : FO Try.prog 57 3 3 := ⟨by kernel_rfl⟩
instance : FO Try.prog 57 4 4 := ⟨by kernel_rfl⟩
instance : FO Try.prog 57 5 5 := ⟨by kernel_rfl⟩
instance : FO Try.prog 57 6 6 := ⟨by kernel_rfl⟩
instance : FO Try.prog 57 7 7 := ⟨by kernel_rfl⟩
instance : FO Try.prog 57 8 8 := ⟨by kernel_rfl⟩
instance : FO Try.prog 57 9 9 := ⟨by kernel_rfl⟩
instance : FO Try.prog 57 10 10 := ⟨by kernel_rfl⟩
instance : FO Try.prog 57 11 11 := ⟨by kernel_rfl⟩
instance : FO Try.prog 57 12 12 := ⟨by kernel_rfl⟩
instance : FO Try.prog 57 13 13 := ⟨by kernel_rfl⟩
instance : FO Try.prog 57 14 14 := ⟨by kernel_rfl⟩
instance : ST Try.prog 57 [.int .u8 0, .int .u8 0, .int .u32 0, .int .u32 0, .int .u32 0, .int .u16 0, .int .u16 0, .int .u16 0, .int .u16 0, .int .u32 0, .slice none 0 0, .slice none 0 0, .slice none 0 0, .slice none 0 0, .slice none 0 0] [(0, 1), (1, 1), (2, 1), (3, 1), (4, 1), (5, 1), (6, 1), (7, 1), (8, 1), (9, 1), (10, 1), (11, 1), (12, 1), (13, 1), (14, 1)] := .of (z := .agg #[.int .u8 0, .int .u8 0, .int .u32 0, .int .u32 0, .int .u32 0, .int .u16 0, .int .u16 0, .int .u16 0, .int .u16 0, .int .u32 0, .slice none 0 0, .slice none 0 0, .slice none 0 0, .slice none 0 0, .slice none 0 0]) (fs := (match Try.prog.underlying 57 with | some (.struct fs) => fs | _ => #[])) (by kernel_rfl) (by kernel_rfl) (by kernel_rfl) (by kernel_rfl) (by kernel_rfl)
instance : AL Try.prog 57 [.int .u8 0, .int .u8 0, .int .u32 0, .int .u32 0, .int .u32 0, .int .u16 0, .int .u16 0, .int .u16 0, .int .u16 0, .int .u32 0, .slice none 0 0, .slice none 0 0, .slice none 0 0, .slice none 0 0, .slice none 0 0] := ⟨by kernel_rfl⟩
instance : CT Try.prog 58 none := ⟨by kernel_rfl⟩
instance : SZ Try.prog 58 1 := ⟨by kernel_rfl⟩
instance : AL Try.prog 58 [.nilFunc] := ⟨by kernel_rfl⟩
instance : CT Try.prog 59 none := ⟨by kernel_rfl⟩
instance : SZ Try.prog 59 1 := ⟨by kernel_rfl⟩
instance : AL Try.prog 59 [.nilFunc] := ⟨by kernel_rfl⟩
instance : CT Try.prog 60 none := ⟨by kernel_rfl⟩
instance : SZ Try.prog 60 1 := ⟨by kernel_rfl⟩
instance : CT Try.prog 61 none := ⟨by kernel_rfl⟩
instance : SZ Try.prog 61 1 := ⟨by kernel_rfl⟩
instance : AL Try.prog 61 [.nilFunc] := ⟨by kernel_rfl⟩
instance : CT Try.prog 62 none := ⟨by kernel_rfl⟩
instance : SZ Try.prog 62 1 := ⟨by kernel_rfl⟩
instance : AL Try.prog 62 [.nilFunc] := ⟨by kernel_rfl⟩
instance : CT Try.prog 63 none := ⟨by kernel_rfl⟩
instance : SZ Try.prog 63 1 := ⟨by kernel_rfl⟩
instance : AL Try.prog 63 [.nilFunc] := ⟨by kernel_rfl⟩
instance : CT Try.prog 64 none := ⟨by kernel_rfl⟩
instance : SZ Try.prog 64 1 := ⟨by kernel_rfl⟩
instance : AL Try.prog 64 [.nilFunc] := ⟨by kernel_rfl⟩
instance : CT Try.prog 65 none := ⟨by kernel_rfl⟩
instance : SZ Try.prog 65 1 := ⟨by kernel_rfl⟩
instance : AL Try.prog 65 [.nilFunc] := ⟨by kernel_rfl⟩
instance : CT Try.prog 66 none := ⟨by kernel_rfl⟩
instance : SZ Try.prog 66 1 := ⟨by kernel_rfl⟩
theorem un66 : Try.prog.underlying 66 = some (.int .u64) := by kernel_rfl
instance : AL Try.prog 66 [.int .u64 0] := ⟨by kernel_rfl⟩
instance : CT Try.prog 67 none := ⟨by kernel_rfl⟩
instance : SZ Try.prog 67 1 := ⟨by kernel_rfl⟩
instance : AL Try.prog 67 [.nilFunc] := ⟨by kernel_rfl⟩
instance : CT Try.prog 68 none := ⟨by kernel_rfl⟩
instance : SZ Try.prog 68 1 := ⟨by kernel_rfl⟩
instance : EL Try.prog 68 (none, 1) := ⟨by kernel_rfl⟩
instance : UN Try.prog 68 (.slice 23) := ⟨by kernel_rfl⟩
instance : BS Try.prog 68 23 1 (.slice none 0 0) := .of (by kernel_rfl) (by kernel_rfl) (by kernel_rfl) (by kernel_rfl) (by kernel_rfl)
instance : MK Try.prog 68 23 24 (.slice none 0 0) := .of (inf := Try.t23) (by kernel_rfl) (by kernel_rfl) (by kernel_rfl) (by kernel_rfl) (by kernel_rfl) (by kernel_rfl) (by kernel_rfl)
instance : AP Try.prog 68 68 23 1 24 := .of (inf := Try.t23) (z := .slice none 0 0) (e₂ := 23) (by kernel_rfl) (by kernel_rfl) (by kernel_rfl) (by kernel_rfl) (by kernel_rfl) (by kernel_rfl) (by decide) (by kernel_rfl) (by kernel_rfl)
instance : AL Try.prog 68 [.slice none 0 0] := ⟨by kernel_rfl⟩
instance : CT Try.prog 69 none := ⟨by kernel_rfl⟩
instance : SZ Try.prog 69 1 := ⟨by kernel_rfl⟩
instance : AL Try.prog 69 [.nilFunc] := ⟨by kernel_rfl⟩
instance : CT Try.prog 70 none := ⟨by kernel_rfl⟩
instance : SZ Try.prog 70 1 := ⟨by kernel_rfl⟩
theorem un70 : Try.prog.underlying 70 = some (.int .u64) := by kernel_rfl
instance : AL Try.prog 70 [.int .u64 0] := ⟨by kernel_rfl⟩
instance : CT Try.prog 71 none := ⟨by kernel_rfl⟩
instance : SZ Try.prog 71 1 := ⟨by kernel_rfl⟩
instance : AL Try.prog 71 [.nilFunc] := ⟨by kernel_rfl⟩
instance : CT Try.prog 72 none := ⟨by kernel_rfl⟩
instance : SZ Try.prog 72 1 := ⟨by kernel_rfl⟩
instance : CT Try.prog 73 none := ⟨by kernel_rfl⟩
instance : SZ Try.prog 73 1 := ⟨by kernel_rfl⟩
instance : AL Try.prog 73 [.nilFunc] := ⟨by kernel_rfl⟩
instance : CT Try.prog 74 none := ⟨by kernel_rfl⟩
instance : SZ Try.prog 74 1 := ⟨by kernel_rfl⟩
instance : AL Try.prog 74 [.nilFunc] := ⟨by kernel_rfl⟩
instance : CT Try.prog 75 none := ⟨by kernel_rfl⟩
instance : SZ Try.prog 75 1 := ⟨by kernel_rfl⟩
instance : AL Try.prog 75 [.nilFunc] := ⟨by kernel_rfl⟩
instance : CT Try.prog 76 none := ⟨by kernel_rfl⟩
instance : SZ Try.prog 76 1 := ⟨by kernel_rfl⟩
instance : AL Try.prog 76 [.nilFunc] := ⟨by kernel_rfl⟩
instance : CT Try.prog 77 none := ⟨by kernel_rfl⟩
instance : SZ Try.prog 77 1 := ⟨by kernel_rfl⟩
instance : AL Try.prog 77 [.nilFunc] := ⟨by kernel_rfl⟩
instance : CT Try.prog 78 none := ⟨by kernel_rfl⟩
instance : SZ Try.prog 78 1 := ⟨by kernel_rfl⟩
instance : AL Try.prog 78 [.nilFunc] := ⟨by kernel_rfl⟩
instance : CT Try.prog 79 none := ⟨by kernel_rfl⟩
instance : SZ Try.prog 79 1 := ⟨by kernel_rfl⟩
instance : AL Try.prog 79 [.nilFunc] := ⟨by kernel_rfl⟩
instance : CT Try.prog 80 none := ⟨by kernel_rfl⟩
instance : SZ Try.prog 80 1 := ⟨by kernel_rfl⟩
instance : AL Try.prog 80 [.nilFunc] := ⟨by kernel_rfl⟩
instance : CT Try.prog 81 (some 2) := ⟨by kernel_rfl⟩
instance : SZ Try.prog 81 2 := ⟨by kernel_rfl⟩
instance : FO Try.prog 81 0 0 := ⟨by kernel_rfl⟩
instance : FO Try.prog 81 1 1 := ⟨by kernel_rfl⟩
instance : ST Try.prog 81 [.int .u16 0, .int .u16 0] [(0, 1), (1, 1)] := .of (z := .agg #[.int .u16 0, .int .u16 0]) (fs := (match Try.prog.underlying 81 with | some (.struct fs) => fs | _ => #[])) (by kernel_rfl) (by kernel_rfl) (by kernel_rfl) (by kernel_rfl) (by kernel_rfl)
instance : AL Try.prog 81 [.int .u16 0, .int .u16 0] := ⟨by kernel_rfl⟩
instance : CT Try.prog 82 (some 2) := ⟨by kernel_rfl⟩
instance : SZ Try.prog 82 2 := ⟨by kernel_rfl⟩
instance : FO Try.prog 82 0 0 := ⟨by kernel_rfl⟩
instance : FO Try.prog 82 1 1 := ⟨by kernel_rfl⟩
instance : ST Try.prog 82 [.int .u16 0, .int .u16 0] [(0, 1), (1, 1)] := .of (z := .agg #[.int .u16 0, .int .u16 0]) (fs := (match Try.prog.underlying 82 with | some (.struct fs) => fs | _ => #[])) (by kernel_rfl) (by kernel_rfl) (by kernel_rfl) (by kernel_rfl) (by kernel_rfl)
instance : AL Try.prog 82 [.int .u16 0, .int .u16 0] := ⟨by kernel_rfl⟩
instance : CT Try.prog 83 (some 2) := ⟨by kernel_rfl⟩
instance : SZ Try.prog 83 2 := ⟨by kernel_rfl⟩
instance : FO Try.prog 83 0 0 := ⟨by kernel_rfl⟩
instance : FO Try.prog 83 1 1 := ⟨by kernel_rfl⟩
instance : ST Try.prog 83 [.int .u16 0, .slice none 0 0] [(0, 1), (1, 1)] := .of (z := .agg #[.int .u16 0, .slice none 0 0]) (fs := (match Try.prog.underlying 83 with | some (.struct fs) => fs | _ => #[])) (by kernel_rfl) (by kernel_rfl) (by kernel_rfl) (by kernel_rfl) (by kernel_rfl)
instance : AL Try.prog 83 [.int .u16 0, .slice none 0 0] := ⟨by kernel_rfl⟩
instance : CT Try.prog 84 (some 2) := ⟨by kernel_rfl⟩
instance : SZ Try.prog 84 2 := ⟨by kernel_rfl⟩
instance : FO Try.prog 84 0 0 := ⟨by kernel_rfl⟩
instance : FO Try.prog 84 1 1 := ⟨by kernel_rfl⟩
instance : ST Try.prog 84 [.int .u16 0, .slice none 0 0] [(0, 1), (1, 1)] := .of (z := .agg #[.int .u16 0, .slice none 0 0]) (fs := (match Try.prog.underlying 84 with | some (.struct fs) => fs | _ => #[])) (by kernel_rfl) (by kernel_rfl) (by kernel_rfl) (by kernel_rfl) (by kernel_rfl)
instance : AL Try.prog 84 [.int .u16 0, .slice none 0 0] := ⟨by kernel_rfl⟩
instance : CT Try.prog 85 none := ⟨by kernel_rfl⟩
instance : SZ Try.prog 85 1 := ⟨by kernel_rfl⟩
instance : AL Try.prog 85 [.pointer none] := ⟨by kernel_rfl⟩
instance : CT Try.prog 86 (some 2) := ⟨by kernel_rfl⟩
instance : SZ Try.prog 86 2 := ⟨by kernel_rfl⟩
instance : FO Try.prog 86 0 0 := ⟨by kernel_rfl⟩
instance : FO Try.prog 86 1 1 := ⟨by kernel_rfl⟩
instance : ST Try.prog 86 [.slice none 0 0, .int .i64 0] [(0, 1), (1, 1)] := .of (z := .agg #[.slice none 0 0, .int .i64 0]) (fs := (match Try.prog.underlying 86 with | some (.struct fs) => fs | _ => #[])) (by kernel_rfl) (by kernel_rfl) (by kernel_rfl) (by kernel_rfl) (by kernel_rfl)
instance : AL Try.prog 86 [.slice none 0 0, .int .i64 0] := ⟨by kernel_rfl⟩
instance : CT Try.prog 87 (some 2) := ⟨by kernel_rfl⟩
instance : SZ Try.prog 87 2 := ⟨by kernel_rfl⟩
instance : FO Try.prog 87 0 0 := ⟨by kernel_rfl⟩
instance : FO Try.prog 87 1 1 := ⟨by kernel_rfl⟩
instance : ST Try.prog 87 [.slice none 0 0, .int .i64 0] [(0, 1), (1, 1)] := .of (z := .agg #[.slice none 0 0, .int .i64 0]) (fs := (match Try.prog.underlying 87 with | some (.struct fs) => fs | _ => #[])) (by kernel_rfl) (by kernel_rfl) (by kernel_rfl) (by kernel_rfl) (by kernel_rfl)
instance : AL Try.prog 87 [.slice none 0 0, .int .i64 0] := ⟨by kernel_rfl⟩
instance : CT Try.prog 88 none := ⟨by kernel_rfl⟩
instance : SZ Try.prog 88 1 := ⟨by kernel_rfl⟩
instance : AL Try.prog 88 [.nilFunc] := ⟨by kernel_rfl⟩
instance : CT Try.prog 89 none := ⟨by kernel_rfl⟩
instance : SZ Try.prog 89 1 := ⟨by kernel_rfl⟩
instance : AL Try.prog 89 [.nilFunc] := ⟨by kernel_rfl⟩
instance : CT Try.prog 90 none := ⟨by kernel_rfl⟩
instance : SZ Try.prog 90 1 := ⟨by kernel_rfl⟩
instance : AL Try.prog 90 [.nilFunc] := ⟨by kernel_rfl⟩
instance : CT Try.prog 91 none := ⟨by kernel_rfl⟩
instance : SZ Try.prog 91 1 := ⟨by kernel_rfl⟩
instance : AL Try.prog 91 [.nilFunc] := ⟨by kernel_rfl⟩
instance : CT Try.prog 92 none := ⟨by kernel_rfl⟩
instance : SZ Try.prog 92 1 := ⟨by kernel_rfl⟩
instance : AL Try.prog 92 [.nilFunc] := ⟨by kernel_rfl⟩
instance : CT Try.prog 93 none := ⟨by kernel_rfl⟩
instance : SZ Try.prog 93 1 := ⟨by kernel_rfl⟩
instance : AL Try.prog 93 [.nilFunc] := ⟨by kernel_rfl⟩
instance : CT Try.prog 94 none := ⟨by kernel_rfl⟩
instance : SZ Try.prog 94 1 := ⟨by kernel_rfl⟩
instance : AL Try.prog 94 [.pointer none] := ⟨by kernel_rfl⟩
instance : CT Try.prog 95 (some 2) := ⟨by kernel_rfl⟩
instance : SZ Try.prog 95 2 := ⟨by kernel_rfl⟩
instance : FO Try.prog 95 0 0 := ⟨by kernel_rfl⟩
instance : FO Try.prog 95 1 1 := ⟨by kernel_rfl⟩
instance : ST Try.prog 95 [.slice none 0 0, .bool false] [(0, 1), (1, 1)] := .of (z := .agg #[.slice none 0 0, .bool false]) (fs := (match Try.prog.underlying 95 with | some (.struct fs) => fs | _ => #[])) (by kernel_rfl) (by kernel_rfl) (by kernel_rfl) (by kernel_rfl) (by kernel_rfl)
instance : AL Try.prog 95 [.slice none 0 0, .bool false] := ⟨by kernel_rfl⟩
instance : CT Try.prog 96 (some 2) := ⟨by kernel_rfl⟩
instance : SZ Try.prog 96 2 := ⟨by kernel_rfl⟩
instance : FO Try.prog 96 0 0 := ⟨by kernel_rfl⟩
instance : FO Try.prog 96 1 1 := ⟨by kernel_rfl⟩
instance : ST Try.prog 96 [.slice none 0 0, .bool false] [(0, 1), (1, 1)] := .of (z := .agg #[.slice none 0 0, .bool false]) (fs := (match Try.prog.underlying 96 with | some (.struct fs) => fs | _ => #[])) (by kernel_rfl) (by kernel_rfl) (by kernel_rfl) (by kernel_rfl) (by kernel_rfl)
instance : AL Try.prog 96 [.slice none 0 0, .bool false] := ⟨by kernel_rfl⟩
instance : CT Try.prog 97 none := ⟨by kernel_rfl⟩
instance : SZ Try.prog 97 1 := ⟨by kernel_rfl⟩
instance : AL Try.prog 97 [.nilFunc] := ⟨by kernel_rfl⟩
instance : CT Try.prog 98 none := ⟨by kernel_rfl⟩
instance : SZ Try.prog 98 1 := ⟨by kernel_rfl⟩
instance : AL Try.prog 98 [.nilFunc] := ⟨by kernel_rfl⟩
instance : CT Try.prog 99 none := ⟨by kernel_rfl⟩
instance : SZ Try.prog 99 1 := ⟨by kernel_rfl⟩
instance : AL Try.prog 99 [.nilFunc] := ⟨by kernel_rfl⟩
instance : CT Try.prog 100 none := ⟨by kernel_rfl⟩
instance : SZ Try.prog 100 1 := ⟨by kernel_rfl⟩
instance : AL Try.prog 100 [.nilFunc] := ⟨by kernel_rfl⟩
instance : CT Try.prog 101 none := ⟨by kernel_rfl⟩
instance : SZ Try.prog 101 1 := ⟨by kernel_rfl⟩
instance : AL Try.prog 101 [.pointer none] := ⟨by kernel_rfl⟩
instance : CT Try.prog 102 none := ⟨by kernel_rfl⟩
instance : SZ Try.prog 102 1 := ⟨by kernel_rfl⟩
instance : AL Try.prog 102 [.nilFunc] := ⟨by kernel_rfl⟩
instance : CT Try.prog 103 none := ⟨by kernel_rfl⟩
instance : SZ Try.prog 103 1 := ⟨by kernel_rfl⟩
instance : CT Try.prog 104 none := ⟨by kernel_rfl⟩
instance : SZ Try.prog 104 1 := ⟨by kernel_rfl⟩
instance : AL Try.prog 104 [.nilFunc] := ⟨by kernel_rfl⟩
instance : CT Try.prog 105 none := ⟨by kernel_rfl⟩
instance : SZ Try.prog 105 1 := ⟨by kernel_rfl⟩
instance : AL Try.prog 105 [.nilFunc] := ⟨by kernel_rfl⟩
instance : CT Try.prog 106 none := ⟨by kernel_rfl⟩
instance : SZ Try.prog 106 1 := ⟨by kernel_rfl⟩
instance : AL Try.prog 106 [.nilFunc] := ⟨by kernel_rfl⟩
instance : CT Try.prog 107 none := ⟨by kernel_rfl⟩
instance : SZ Try.prog 107 1 := ⟨by kernel_rfl⟩
instance : EL Try.prog 107 (none, 1) := ⟨by kernel_rfl⟩
instance : UN Try.prog 107 (.slice 22) := ⟨by kernel_rfl⟩
instance : BS Try.prog 107 22 1 (.int .u16 0) := .of (by kernel_rfl) (by kernel_rfl) (by kernel_rfl) (by kernel_rfl) (by kernel_rfl)
instance : MK Try.prog 107 22 2 (.int .u16 0) := .of (inf := Try.t22) (by kernel_rfl) (by kernel_rfl) (by kernel_rfl) (by kernel_rfl) (by kernel_rfl) (by kernel_rfl) (by kernel_rfl)
instance : AP Try.prog 107 107 22 1 2 := .of (inf := Try.t22) (z := .int .u16 0) (e₂ := 22) (by kernel_rfl) (by kernel_rfl) (by kernel_rfl) (by kernel_rfl) (by kernel_rfl) (by kernel_rfl) (by decide) (by kernel_rfl) (by kernel_rfl)
instance : AL Try.prog 107 [.slice none 0 0] := ⟨by kernel_rfl⟩
instance : CT Try.prog 108 none := ⟨by kernel_rfl⟩
instance : SZ Try.prog 108 1 := ⟨by kernel_rfl⟩
instance : AL Try.prog 108 [.nilFunc] := ⟨by kernel_rfl⟩
instance : CT Try.prog 109 none := ⟨by kernel_rfl⟩
instance : SZ Try.prog 109 1 := ⟨by kernel_rfl⟩
instance : AL Try.prog 109 [.nilFunc] := ⟨by kernel_rfl⟩
instance : CT Try.prog 110 none := ⟨by kernel_rfl⟩
instance : SZ Try.prog 110 1 := ⟨by kernel_rfl⟩
instance : AL Try.prog 110 [.nilFunc] := ⟨by kernel_rfl⟩
instance : CT Try.prog 111 (some 256) := ⟨by kernel_rfl⟩
instance : SZ Try.prog 111 256 := ⟨by kernel_rfl⟩
instance : EL Try.prog 111 (some 256, 1) := ⟨by kernel_rfl⟩
instance : AL Try.prog 111 [.int .u32 0, .int .u32 0, .int .u32 0, .int .u32 0, .int .u32 0, .int .u32 0, .int .u32 0, .int .u32 0, .int .u32 0, .int .u32 0, .int .u32 0, .int .u32 0, .int .u32 0, .int .u32 0, .int .u32 0, .int .u32 0, .int .u32 0, .int .u32 0, .int .u32 0, .int .u32 0, .int .u32 0, .int .u32 0, .int .u32 0, .int .u32 0, .int .u32 0, .int .u32 0, .int .u32 0, .int .u32 0, .int .u32 0, .int .u32 0, .int .u32 0, .int .u32 0, .int .u32 0, .int .u32 0, .int .u32 0, .int .u32 0, .int .u32 0, .int .u32 0, .int .u32 0, .int .u32 0, .int .u32 0, .int .u32 0, .int .u32 0, .int .u32 0, .int .u32 0, .int .u32 0, .int .u32 0, .int .u32 0, .int .u32 0, .int .u32 0, .int .u32 0, .int .u32 0, .int .u32 0, .int .u32 0, .int .u32 0, .int .u32 0, .int .u32 0, .int .u32 0, .int .u32 0, .int .u32 0, .int .u32 0, .int .u32 0, .int .u32 0, .int .u32 0, .int .u32 0, .int .u32 0, .int .u32 0, .int .u32 0, .int .u32 0, .int .u32 0, .int .u32 0, .int .u32 0, .int .u32 0, .int .u32 0, .int .u32 0, .int .u32 0, .int .u32 0, .int .u32 0, .int .u32 0, .int .u32 0, .int .u32 0, .int .u32 0, .int .u32 0, .int .u32 0, .int .u32 0, .int .u32 0, .int .u32 0, .int .u32 0, .int .u32 0, .int .u32 0, .int .u32 0, .int .u32 0, .int .u32 0, .int .u32 0, .int .u32 0, .int .u32 0, .int .u32 0, .int .u32 0, .int .u32 0, .int .u32 0, .int .u32 0, .int .u32 0, .int .u32 0, .int .u32 0, .int .u32 0, .int .u32 0, .int .u32 0, .int .u32 0, .int .u32 0, .int .u32 0, .int .u32 0, .int .u32 0, .int .u32 0, .int .u32 0, .int .u32 0, .int .u32 0, .int .u32 0, .int .u32 0, .int .u32 0, .int .u32 0, .int .u32 0, .int .u32 0, .int .u32 0, .int .u32 0, .int .u32 0, .int .u32 0, .int .u32 0, .int .u32 0, .int .u32 0, .int .u32 0, .int .u32 0, .int .u32 0, .int .u32 0, .int .u32 0, .int .u32 0, .int .u32 0, .int .u32 0, .int .u32 0, .int .u32 0, .int .u32 0, .int .u32 0, .int .u32 0, .int .u32 0, .int .u32 0, .int .u32 0, .int .u32 0, .int .u32 0, .int .u32 0, .int .u32 0, .int .u32 0, .int .u32 0, .int .u32 0, .int .u32 0, .int .u32 0, .int .u32 0, .int .u32 0, .int .u32 0, .int .u32 0, .int .u32 0, .int .u32 0, .int .u32 0, .int .u32 0, .int .u32 0, .int .u32 0, .int .u32 0, .int .u32 0, .int .u32 0, .int .u32 0, .int .u32 0, .int .u32 0, .int .u32 0, .int .u32 0, .int .u32 0, .int .u32 0, .int .u32 0, .int .u32 0, .int .u32 0, .int .u32 0, .int .u32 0, .int .u32 0, .int .u32 0, .int .u32 0, .int .u32 0, .int .u32 0, .int .u32 0, .int .u32 0, .int .u32 0, .int .u32 0, .int .u32 0, .int .u32 0, .int .u32 0, .int .u32 0, .int .u32 0, .int .u32 0, .int .u32 0, .int .u32 0, .int .u32 0, .int .u32 0, .int .u32 0, .int .u32 0, .int .u32 0, .int .u32 0, .int .u32 0, .int .u32 0, .int .u32 0, .int .u32 0, .int .u32 0, .int .u32 0, .int .u32 0, .int .u32 0, .int .u32 0, .int .u32 0, .int .u32 0, .int .u32 0, .int .u32 0, .int .u32 0, .int .u32 0, .int .u32 0, .int .u32 0, .int .u32 0, .int .u32 0, .int .u32 0, .int .u32 0, .int .u32 0, .int .u32 0, .int .u32 0, .int .u32 0, .int .u32 0, .int .u32 0, .int .u32 0, .int .u32 0, .int .u32 0, .int .u32 0, .int .u32 0, .int .u32 0, .int .u32 0, .int .u32 0, .int .u32 0, .int .u32 0, .int .u32 0, .int .u32 0, .int .u32 0, .int .u32 0, .int .u32 0, .int .u32 0, .int .u32 0, .int .u32 0, .int .u32 0, .int .u32 0, .int .u32 0, .int .u32 0, .int .u32 0, .int .u32 0, .int .u32 0, .int .u32 0, .int .u32 0] := ⟨by kernel_rfl⟩
instance : CT Try.prog 112 none := ⟨by kernel_rfl⟩
instance : SZ Try.prog 112 1 := ⟨by kernel_rfl⟩
instance : AL Try.prog 112 [.nilFunc] := ⟨by kernel_rfl⟩
instance : CT Try.prog 113 none := ⟨by kernel_rfl⟩
instance : SZ Try.prog 113 1 := ⟨by kernel_rfl⟩
instance : AL Try.prog 113 [.nilFunc] := ⟨by kernel_rfl⟩
instance : CT Try.prog 114 none := ⟨by kernel_rfl⟩
instance : SZ Try.prog 114 1 := ⟨by kernel_rfl⟩
instance : AL Try.prog 114 [.nilFunc] := ⟨by kernel_rfl⟩
instance : CT Try.prog 115 (some 4) := ⟨by kernel_rfl⟩
instance : SZ Try.prog 115 4 := ⟨by kernel_rfl⟩
instance : FO Try.prog 115 0 0 := ⟨by kernel_rfl⟩
instance : FO Try.prog 115 1 1 := ⟨by kernel_rfl⟩
instance : FO Try.prog 115 2 2 := ⟨by kernel_rfl⟩
instance : FO Try.prog 115 3 3 := ⟨by kernel_rfl⟩
instance : ST Try.prog 115 [.pointer none, .pointer none, .pointer none, .string ⟨#[]⟩] [(0, 1), (1, 1), (2, 1), (3, 1)] := .of (z := .agg #[.pointer none, .pointer none, .pointer none, .string ⟨#[]⟩]) (fs := (match Try.prog.underlying 115 with | some (.struct fs) => fs | _ => #[])) (by kernel_rfl) (by kernel_rfl) (by kernel_rfl) (by kernel_rfl) (by kernel_rfl)
instance : AL Try.prog 115 [.pointer none, .pointer none, .pointer none, .string ⟨#[]⟩] := ⟨by kernel_rfl⟩
instance : CT Try.prog 116 (some 4) := ⟨by kernel_rfl⟩
instance : SZ Try.prog 116 4 := ⟨by kernel_rfl⟩
instance : FO Try.prog 116 0 0 := ⟨by kernel_rfl⟩
instance : FO Try.prog 116 1 1 := ⟨by kernel_rfl⟩
instance : FO Try.prog 116 2 2 := ⟨by kernel_rfl⟩
instance : FO Try.prog 116 3 3 := ⟨by kernel_rfl⟩
instance : ST Try.prog 116 [.pointer none, .pointer none, .pointer none, .string ⟨#[]⟩] [(0, 1), (1, 1), (2, 1), (3, 1)] := .of (z := .agg #[.pointer none, .pointer none, .pointer none, .string ⟨#[]⟩]) (fs := (match Try.prog.underlying 116 with | some (.struct fs) => fs | _ => #[])) (by kernel_rfl) (by kernel_rfl) (by kernel_rfl) (by kernel_rfl) (by kernel_rfl)
instance : AL Try.prog 116 [.pointer none, .pointer none, .pointer none, .string ⟨#[]⟩] := ⟨by kernel_rfl⟩
instance : CT Try.prog 117 (some 0) := ⟨by kernel_rfl⟩
instance : SZ Try.prog 117 0 := ⟨by kernel_rfl⟩
instance : EL Try.prog 117 (some 0, 1) := ⟨by kernel_rfl⟩
instance : AL Try.prog 117 [] := ⟨by kernel_rfl⟩
instance : CT Try.prog 118 (some 0) := ⟨by kernel_rfl⟩
instance : SZ Try.prog 118 0 := ⟨by kernel_rfl⟩
instance : ST Try.prog 118 [] [(0, 0)] := .of (z := .agg #[]) (fs := (match Try.prog.underlying 118 with | some (.struct fs) => fs | _ => #[])) (by kernel_rfl) (by kernel_rfl) (by kernel_rfl) (by kernel_rfl) (by kernel_rfl)
instance : AL Try.prog 118 [] := ⟨by kernel_rfl⟩
instance : CT Try.prog 119 (some 0) := ⟨by kernel_rfl⟩
instance : SZ Try.prog 119 0 := ⟨by kernel_rfl⟩
instance : ST Try.prog 119 [] [(0, 0)] := .of (z := .agg #[]) (fs := (match Try.prog.underlying 119 with | some (.struct fs) => fs | _ => #[])) (by kernel_rfl) (by kernel_rfl) (by kernel_rfl) (by kernel_rfl) (by kernel_rfl)
instance : AL Try.prog 119 [] := ⟨by kernel_rfl⟩
instance : CT Try.prog 120 none := ⟨by kernel_rfl⟩
instance : SZ Try.prog 120 1 := ⟨by kernel_rfl⟩
instance : AL Try.prog 120 [.nilFunc] := ⟨by kernel_rfl⟩
instance : CT Try.prog 121 none := ⟨by kernel_rfl⟩
instance : SZ Try.prog 121 1 := ⟨by kernel_rfl⟩
theorem un121 : Try.prog.underlying 121 = some (.int .u8) := by kernel_rfl
instance : AL Try.prog 121 [.int .u8 0] := ⟨by kernel_rfl⟩
instance : CT Try.prog 122 none := ⟨by kernel_rfl⟩
instance : SZ Try.prog 122 1 := ⟨by kernel_rfl⟩
theorem un122 : Try.prog.underlying 122 = some (.int .u8) := by kernel_rfl
instance : AL Try.prog 122 [.int .u8 0] := ⟨by kernel_rfl⟩
instance : CT Try.prog 123 none := ⟨by kernel_rfl⟩
instance : SZ Try.prog 123 1 := ⟨by kernel_rfl⟩
instance : AL Try.prog 123 [.nilFunc] := ⟨by kernel_rfl⟩
instance : CT Try.prog 124 none := ⟨by kernel_rfl⟩
instance : SZ Try.prog 124 1 := ⟨by kernel_rfl⟩
instance : AL Try.prog 124 [.pointer none] := ⟨by kernel_rfl⟩
instance : CT Try.prog 125 none := ⟨by kernel_rfl⟩
instance : SZ Try.prog 125 1 := ⟨by kernel_rfl⟩
theorem un125 : Try.prog.underlying 125 = some (.int .i32) := by kernel_rfl
instance : AL Try.prog 125 [.int .i32 0] := ⟨by kernel_rfl⟩
instance : CT Try.prog 126 none := ⟨by kernel_rfl⟩
instance : SZ Try.prog 126 1 := ⟨by kernel_rfl⟩
theorem un126 : Try.prog.underlying 126 = some (.int .i32) := by kernel_rfl
instance : AL Try.prog 126 [.int .i32 0] := ⟨by kernel_rfl⟩
instance : CT Try.prog 127 (some 11) := ⟨by kernel_rfl⟩
instance : SZ Try.prog 127 11 := ⟨by kernel_rfl⟩
instance : FO Try.prog 127 0 0 := ⟨by kernel_rfl⟩
instance : FO Try.prog 127 1 1 := ⟨by kernel_rfl⟩
instance : FO Try.prog 127 2 2 := ⟨by kernel_rfl⟩
instance : FO Try.prog 127 3 3 := ⟨by kernel_rfl⟩
instance : FO Try.prog 127 4 4 := ⟨by kernel_rfl⟩
instance : FO Try.prog 127 5 5 := ⟨by kernel_rfl⟩
instance : FO Try.prog 127 6 6 := ⟨by kernel_rfl⟩
instance : FO Try.prog 127 7 7 := ⟨by kernel_rfl⟩
instance : FO Try.prog 127 8 8 := ⟨by kernel_rfl⟩
instance : FO Try.prog 127 9 9 := ⟨by kernel_rfl⟩
instance : FO Try.prog 127 10 10 := ⟨by kernel_rfl⟩
instance : ST Try.prog 127 [.int .u64 0, .int .u64 0, .int .u32 0, .int .u8 0, .int .u8 0, .int .u8 0, .int .u8 0, .nilFunc, .pointer none, .int .i32 0, .int .i32 0] [(0, 1), (1, 1), (2, 1), (3, 1), (4, 1), (5, 1), (6, 1), (7, 1), (8, 1), (9, 1), (10, 1)] := .of (z := .agg #[.int .u64 0, .int .u64 0, .int .u32 0, .int .u8 0, .int .u8 0, .int .u8 0, .int .u8 0, .nilFunc, .pointer none, .int .i32 0, .int .i32 0]) (fs := (match Try.prog.underlying 127 with | some (.struct fs) => fs | _ => #[])) (by kernel_rfl) (by kernel_rfl) (by kernel_rfl) (by kernel_rfl) (by kernel_rfl)
instance : AL Try.prog 127 [.int .u64 0, .int .u64 0, .int .u32 0, .int .u8 0, .int .u8 0, .int .u8 0, .int .u8 0, .nilFunc, .pointer none, .int .i32 0, .int .i32 0] := ⟨by kernel_rfl⟩
instance : CT Try.prog 128 (some 11) := ⟨by kernel_rfl⟩
instance : SZ Try.prog 128 11 := ⟨by kernel_rfl⟩
instance : FO Try.prog 128 0 0 := ⟨by kernel_rfl⟩
instance : FO Try.prog 128 1 1 := ⟨by kernel_rfl⟩
instance : FO Try.prog 128 2 2 := ⟨by kernel_rfl⟩
instance : FO Try.prog 128 3 3 := ⟨by kernel_rfl⟩
instance : FO Try.prog 128 4 4 := ⟨by kernel_rfl⟩
instance : FO Try.prog 128 5 5 := ⟨by kernel_rfl⟩
instance : FO Try.prog 128 6 6 := ⟨by kernel_rfl⟩
instance : FO Try.prog 128 7 7 := ⟨by kernel_rfl⟩
instance : FO Try.prog 128 8 8 := ⟨by kernel_rfl⟩
instance : FO Try.prog 128 9 9 := ⟨by kernel_rfl⟩
instance : FO Try.prog 128 10 10 := ⟨by kernel_rfl⟩
instance : ST Try.prog 128 [.int .u64 0, .int .u64 0, .int .u32 0, .int .u8 0, .int .u8 0, .int .u8 0, .int .u8 0, .nilFunc, .pointer none, .int .i32 0, .int .i32 0] [(0, 1), (1, 1), (2, 1), (3, 1), (4, 1), (5, 1), (6, 1), (7, 1), (8, 1), (9, 1), (10, 1)] := .of (z := .agg #[.int .u64 0, .int .u64 0, .int .u32 0, .int .u8 0, .int .u8 0, .int .u8 0, .int .u8 0, .nilFunc, .pointer none, .int .i32 0, .int .i32 0]) (fs := (match Try.prog.underlying 128 with | some (.struct fs) => fs | _ => #[])) (by kernel_rfl) (by kernel_rfl) (by kernel_rfl) (by kernel_rfl) (by kernel_rfl)
instance : AL Try.prog 128 [.int .u64 0, .int .u64 0, .int .u32 0, .int .u8 0, .int .u8 0, .int .u8 0, .int .u8 0, .nilFunc, .pointer none, .int .i32 0, .int .i32 0] := ⟨by kernel_rfl⟩
instance : CT Try.prog 129 none := ⟨by kernel_rfl⟩
instance : SZ Try.prog 129 1 := ⟨by kernel_rfl⟩
instance : AL Try.prog 129 [.pointer none] := ⟨by kernel_rfl⟩
instance : IC Try.prog 2 2 .i64 := .of un2 un2
instance : IC Try.prog 2 3 .i64 := .of un2 un3
instance : IC Try.prog 2 5 .u8 := .of un2 un5
instance : IC Try.prog 2 6 .u8 := .of un2 un6
instance : IC Try.prog 2 12 .u64 := .of un2 un12
instance : IC Try.prog 2 21 .i32 := .of un2 un21
instance : IC Try.prog 2 22 .u16 := .of un2 un22
instance : IC Try.prog 2 27 .i64 := .of un2 un27
instance : IC Try.prog 2 44 .u32 := .of un2 un44
instance : IC Try.prog 2 66 .u64 := .of un2 un66
instance : IC Try.prog 2 70 .u64 := .of un2 un70
instance : IC Try.prog 2 121 .u8 := .of un2 un121
instance : IC Try.prog 2 122 .u8 := .of un2 un122
instance : IC Try.prog 2 125 .i32 := .of un2 un125
instance : IC Try.prog 2 126 .i32 := .of un2 un126
instance : IC Try.prog 3 2 .i64 := .of un3 un2
instance : IC Try.prog 3 3 .i64 := .of un3 un3
instance : IC Try.prog 3 5 .u8 := .of un3 un5
instance : IC Try.prog 3 6 .u8 := .of un3 un6
instance : IC Try.prog 3 12 .u64 := .of un3 un12
instance : IC Try.prog 3 21 .i32 := .of un3 un21
instance : IC Try.prog 3 22 .u16 := .of un3 un22
instance : IC Try.prog 3 27 .i64 := .of un3 un27
instance : IC Try.prog 3 44 .u32 := .of un3 un44
instance : IC Try.prog 3 66 .u64 := .of un3 un66
instance : IC Try.prog 3 70 .u64 := .of un3 un70
instance : IC Try.prog 3 121 .u8 := .of un3 un121
instance : IC Try.prog 3 122 .u8 := .of un3 un122
instance : IC Try.prog 3 125 .i32 := .of un3 un125
instance : IC Try.prog 3 126 .i32 := .of un3 un126
instance : IC Try.prog 5 2 .i64 := .of un5 un2
instance : IC Try.prog 5 3 .i64 := .of un5 un3
instance : IC Try.prog 5 5 .u8 := .of un5 un5
instance : IC Try.prog 5 6 .u8 := .of un5 un6
instance : IC Try.prog 5 12 .u64 := .of un5 un12
instance : IC Try.prog 5 21 .i32 := .of un5 un21
instance : IC Try.prog 5 22 .u16 := .of un5 un22
instance : IC Try.prog 5 27 .i64 := .of un5 un27
instance : IC Try.prog 5 44 .u32 := .of un5 un44
instance : IC Try.prog 5 66 .u64 := .of un5 un66
instance : IC Try.prog 5 70 .u64 := .of un5 un70
instance : IC Try.prog 5 121 .u8 := .of un5 un121
instance : IC Try.prog 5 122 .u8 := .of un5 un122
instance : IC Try.prog 5 125 .i32 := .of un5 un125
instance : IC Try.prog 5 126 .i32 := .of un5 un126
instance : IC Try.prog 6 2 .i64 := .of un6 un2
instance : IC Try.prog 6 3 .i64 := .of un6 un3
instance : IC Try.prog 6 5 .u8 := .of un6 un5
instance : IC Try.prog 6 6 .u8 := .of un6 un6
instance : IC Try.prog 6 12 .u64 := .of un6 un12
instance : IC Try.prog 6 21 .i32 := .of un6 un21
instance : IC Try.prog 6 22 .u16 := .of un6 un22
instance : IC Try.prog 6 27 .i64 := .of un6 un27
instance : IC Try.prog 6 44 .u32 := .of un6 un44
instance : IC Try.prog 6 66 .u64 := .of un6 un66
instance : IC Try.prog 6 70 .u64 := .of un6 un70
instance : IC Try.prog 6 121 .u8 := .of un6 un121
instance : IC Try.prog 6 122 .u8 := .of un6 un122
instance : IC Try.prog 6 125 .i32 := .of un6 un125
instance : IC Try.prog 6 126 .i32 := .of un6 un126
instance : IC Try.prog 12 2 .i64 := .of un12 un2
instance : IC Try.prog 12 3 .i64 := .of un12 un3
instance : IC Try.prog 12 5 .u8 := .of un12 un5
instance : IC Try.prog 12 6 .u8 := .of un12 un6
instance : IC Try.prog 12 12 .u64 := .of un12 un12
instance : IC Try.prog 12 21 .i32 := .of un12 un21
instance : IC Try.prog 12 22 .u16 := .of un12 un22
instance : IC Try.prog 12 27 .i64 := .of un12 un27
instance : IC Try.prog 12 44 .u32 := .of un12 un44
instance : IC Try.prog 12 66 .u64 := .of un12 un66
instance : IC Try.prog 12 70 .u64 := .of un12 un70
instance : IC Try.prog 12 121 .u8 := .of un12 un121
instance : IC Try.prog 12 122 .u8 := .of un12 un122
instance : IC Try.prog 12 125 .i32 := .of un12 un125
instance : IC Try.prog 12 126 .i32 := .of un12 un126
instance : IC Try.prog 21 2 .i64 := .of un21 un2
instance : IC Try.prog 21 3 .i64 := .of un21 un3
instance : IC Try.prog 21 5 .u8 := .of un21 un5
instance : IC Try.prog 21 6 .u8 := .of un21 un6
instance : IC Try.prog 21 12 .u64 := .of un21 un12
instance : IC Try.prog 21 21 .i32 := .of un21 un21
instance : IC Try.prog 21 22 .u16 := .of un21 un22
instance : IC Try.prog 21 27 .i64 := .of un21 un27
instance : IC Try.prog 21 44 .u32 := .of un21 un44
instance : IC Try.prog 21 66 .u64 := .of un21 un66
instance : IC Try.prog 21 70 .u64 := .of un21 un70
instance : IC Try.prog 21 121 .u8 := .of un21 un121
instance : IC Try.prog 21 122 .u8 := .of un21 un122
instance : IC Try.prog 21 125 .i32 := .of un21 un125
instance : IC Try.prog 21 126 .i32 := .of un21 un126
instance : IC Try.prog 22 2 .i64 := .of un22 un2
instance : IC Try.prog 22 3 .i64 := .of un22 un3
instance : IC Try.prog 22 5 .u8 := .of un22 un5
instance : IC Try.prog 22 6 .u8 := .of un22 un6
instance : IC Try.prog 22 12 .u64 := .of un22 un12
instance : IC Try.prog 22 21 .i32 := .of un22 un21
instance : IC Try.prog 22 22 .u16 := .of un22 un22
instance : IC Try.prog 22 27 .i64 := .of un22 un27
instance : IC Try.prog 22 44 .u32 := .of un22 un44
instance : IC Try.prog 22 66 .u64 := .of un22 un66
instance : IC Try.prog 22 70 .u64 := .of un22 un70
instance : IC Try.prog 22 121 .u8 := .of un22 un121
instance : IC Try.prog 22 122 .u8 := .of un22 un122
instance : IC Try.prog 22 125 .i32 := .of un22 un125
instance : IC Try.prog 22 126 .i32 := .of un22 un126
instance : IC Try.prog 27 2 .i64 := .of un27 un2
instance : IC Try.prog 27 3 .i64 := .of un27 un3
instance : IC Try.prog 27 5 .u8 := .of un27 un5
instance : IC Try.prog 27 6 .u8 := .of un27 un6
instance : IC Try.prog 27 12 .u64 := .of un27 un12
instance : IC Try.prog 27 21 .i32 := .of un27 un21
instance : IC Try.prog 27 22 .u16 := .of un27 un22
instance : IC Try.prog 27 27 .i64 := .of un27 un27
instance : IC Try.prog 27 44 .u32 := .of un27 un44
instance : IC Try.prog 27 66 .u64 := .of un27 un66
instance : IC Try.prog 27 70 .u64 := .of un27 un70
instance : IC Try.prog 27 121 .u8 := .of un27 un121
instance : IC Try.prog 27 122 .u8 := .of un27 un122
instance : IC Try.prog 27 125 .i32 := .of un27 un125
instance : IC Try.prog 27 126 .i32 := .of un27 un126
instance : IC Try.prog 44 2 .i64 := .of un44 un2
instance : IC Try.prog 44 3 .i64 := .of un44 un3
instance : IC Try.prog 44 5 .u8 := .of un44 un5
instance : IC Try.prog 44 6 .u8 := .of un44 un6
instance : IC Try.prog 44 12 .u64 := .of un44 un12
instance : IC Try.prog 44 21 .i32 := .of un44 un21
instance : IC Try.prog 44 22 .u16 := .of un44 un22
instance : IC Try.prog 44 27 .i64 := .of un44 un27
instance : IC Try.prog 44 44 .u32 := .of un44 un44
instance : IC Try.prog 44 66 .u64 := .of un44 un66
instance : IC Try.prog 44 70 .u64 := .of un44 un70
instance : IC Try.prog 44 121 .u8 := .of un44 un121
instance : IC Try.prog 44 122 .u8 := .of un44 un122
instance : IC Try.prog 44 125 .i32 := .of un44 un125
instance : IC Try.prog 44 126 .i32 := .of un44 un126
instance : IC Try.prog 66 2 .i64 := .of un66 un2
instance : IC Try.prog 66 3 .i64 := .of un66 un3
instance : IC Try.prog 66 5 .u8 := .of un66 un5
instance : IC Try.prog 66 6 .u8 := .of un66 un6
instance : IC Try.prog 66 12 .u64 := .of un66 un12
instance : IC Try.prog 66 21 .i32 := .of un66 un21
instance : IC Try.prog 66 22 .u16 := .of un66 un22
instance : IC Try.prog 66 27 .i64 := .of un66 un27
instance : IC Try.prog 66 44 .u32 := .of un66 un44
instance : IC Try.prog 66 66 .u64 := .of un66 un66
instance : IC Try.prog 66 70 .u64 := .of un66 un70
instance : IC Try.prog 66 121 .u8 := .of un66 un121
instance : IC Try.prog 66 122 .u8 := .of un66 un122
instance : IC Try.prog 66 125 .i32 := .of un66 un125
instance : IC Try.prog 66 126 .i32 := .of un66 un126
instance : IC Try.prog 70 2 .i64 := .of un70 un2
instance : IC Try.prog 70 3 .i64 := .of un70 un3
instance : IC Try.prog 70 5 .u8 := .of un70 un5
instance : IC Try.prog 70 6 .u8 := .of un70 un6
instance : IC Try.prog 70 12 .u64 := .of un70 un12
instance : IC Try.prog 70 21 .i32 := .of un70 un21
instance : IC Try.prog 70 22 .u16 := .of un70 un22
instance : IC Try.prog 70 27 .i64 := .of un70 un27
instance : IC Try.prog 70 44 .u32 := .of un70 un44
instance : IC Try.prog 70 66 .u64 := .of un70 un66
instance : IC Try.prog 70 70 .u64 := .of un70 un70
instance : IC Try.prog 70 121 .u8 := .of un70 un121
instance : IC Try.prog 70 122 .u8 := .of un70 un122
instance : IC Try.prog 70 125 .i32 := .of un70 un125
instance : IC Try.prog 70 126 .i32 := .of un70 un126
instance : IC Try.prog 121 2 .i64 := .of un121 un2
instance : IC Try.prog 121 3 .i64 := .of un121 un3
instance : IC Try.prog 121 5 .u8 := .of un121 un5
instance : IC Try.prog 121 6 .u8 := .of un121 un6
instance : IC Try.prog 121 12 .u64 := .of un121 un12
instance : IC Try.prog 121 21 .i32 := .of un121 un21
instance : IC Try.prog 121 22 .u16 := .of un121 un22
instance : IC Try.prog 121 27 .i64 := .of un121 un27
instance : IC Try.prog 121 44 .u32 := .of un121 un44
instance : IC Try.prog 121 66 .u64 := .of un121 un66
instance : IC Try.prog 121 70 .u64 := .of un121 un70
instance : IC Try.prog 121 121 .u8 := .of un121 un121
instance : IC Try.prog 121 122 .u8 := .of un121 un122
instance : IC Try.prog 121 125 .i32 := .of un121 un125
instance : IC Try.prog 121 126 .i32 := .of un121 un126
instance : IC Try.prog 122 2 .i64 := .of un122 un2
instance : IC Try.prog 122 3 .i64 := .of un122 un3
instance : IC Try.prog 122 5 .u8 := .of un122 un5
instance : IC Try.prog 122 6 .u8 := .of un122 un6
instance : IC Try.prog 122 12 .u64 := .of un122 un12
instance : IC Try.prog 122 21 .i32 := .of un122 un21
instance : IC Try.prog 122 22 .u16 := .of un122 un22
instance : IC Try.prog 122 27 .i64 := .of un122 un27
instance : IC Try.prog 122 44 .u32 := .of un122 un44
instance : IC Try.prog 122 66 .u64 := .of un122 un66
instance : IC Try.prog 122 70 .u64 := .of un122 un70
instance : IC Try.prog 122 121 .u8 := .of un122 un121
instance : IC Try.prog 122 122 .u8 := .of un122 un122
instance : IC Try.prog 122 125 .i32 := .of un122 un125
instance : IC Try.prog 122 126 .i32 := .of un122 un126
instance : IC Try.prog 125 2 .i64 := .of un125 un2
instance : IC Try.prog 125 3 .i64 := .of un125 un3
instance : IC Try.prog 125 5 .u8 := .of un125 un5
instance : IC Try.prog 125 6 .u8 := .of un125 un6
instance : IC Try.prog 125 12 .u64 := .of un125 un12
instance : IC Try.prog 125 21 .i32 := .of un125 un21
instance : IC Try.prog 125 22 .u16 := .of un125 un22
instance : IC Try.prog 125 27 .i64 := .of un125 un27
instance : IC Try.prog 125 44 .u32 := .of un125 un44
instance : IC Try.prog 125 66 .u64 := .of un125 un66
instance : IC Try.prog 125 70 .u64 := .of un125 un70
instance : IC Try.prog 125 121 .u8 := .of un125 un121
instance : IC Try.prog 125 122 .u8 := .of un125 un122
instance : IC Try.prog 125 125 .i32 := .of un125 un125
instance : IC Try.prog 125 126 .i32 := .of un125 un126
instance : IC Try.prog 126 2 .i64 := .of un126 un2
instance : IC Try.prog 126 3 .i64 := .of un126 un3
instance : IC Try.prog 126 5 .u8 := .of un126 un5
instance : IC Try.prog 126 6 .u8 := .of un126 un6
instance : IC Try.prog 126 12 .u64 := .of un126 un12
instance : IC Try.prog 126 21 .i32 := .of un126 un21
instance : IC Try.prog 126 22 .u16 := .of un126 un22
instance : IC Try.prog 126 27 .i64 := .of un126 un27
instance : IC Try.prog 126 44 .u32 := .of un126 un44
instance : IC Try.prog 126 66 .u64 := .of un126 un66
instance : IC Try.prog 126 70 .u64 := .of un126 un70
instance : IC Try.prog 126 121 .u8 := .of un126 un121
instance : IC Try.prog 126 122 .u8 := .of un126 un122
instance : IC Try.prog 126 125 .i32 := .of un126 un125
instance : IC Try.prog 126 126 .i32 := .of un126 un126
instance : BY Try.prog 23 9 := ⟨⟨5, by kernel_rfl, by kernel_rfl⟩, by kernel_rfl⟩
instance : BY Try.prog 23 10 := ⟨⟨5, by kernel_rfl, by kernel_rfl⟩, by kernel_rfl⟩
instance : BY Try.prog 23 11 := ⟨⟨5, by kernel_rfl, by kernel_rfl⟩, by kernel_rfl⟩
theorem noGlobals : Try.prog.globals.size = 0 := by kernel_rfl
end Go.Proofs.Ytmelgnpogdilgaa

/- crc.row is a constant: its run by the kernel, and the summary by which longer runs go on. No conditions. -/
namespace Go.Proofs.Ytmelgnpogdilgaa
open Go.RowKit
def rowNats : List Nat := [
  0, 4067132163, 3778769143, 324072436, 3348797215, 904991772, 648144872, 3570033899,
  2329499855, 2024987596, 1809983544, 2575936315, 1296289744, 3207089363, 2893594407, 1578318884,
  274646895, 3795141740, 4049975192, 51262619, 3619967088, 632279923, 922689671, 3298075524,
  2592579488, 1760304291, 2075979607, 2312596564, 1562183871, 2943781820, 3156637768, 1313733451,
  549293790, 3537243613, 3246849577, 871202090, 3878099393, 357341890, 102525238, 4101499445,
  2858735121, 1477399826, 1264559846, 3107202533, 1845379342, 2677391885, 2361733625, 2125378298,
  820201905, 3263744690, 3520608582, 598981189, 4151959214, 85089709, 373468761, 3827903834,
  3124367742, 1213305469, 1526817161, 2842354314, 2107672161, 2412447074, 2627466902, 1861252501,
  1098587580, 3004210879, 2688576843, 1378610760, 2262928035, 1955203488, 1742404180, 2511436119,
  3416409459, 969524848, 714683780, 3639785095, 205050476, 4266873199, 3976438427, 526918040,
  1361435347, 2739821008, 2954799652, 1114974503, 2529119692, 1691668175, 2005155131, 2247081528,
  3690758684, 697762079, 986182379, 3366744552, 476452099, 3993867776, 4250756596, 255256311,
  1640403810, 2477592673, 2164122517, 1922457750, 2791048317, 1412925310, 1197962378, 3037525897,
  3944729517, 427051182, 170179418, 4165941337, 746937522, 3740196785, 3451792453, 1070968646,
  1905808397, 2213795598, 2426610938, 1657317369, 3053634322, 1147748369, 1463399397, 2773627110,
  4215344322, 153784257, 444234805, 3893493558, 1021025245, 3467647198, 3722505002, 797665321,
  2197175160, 1889384571, 1674398607, 2443626636, 1164749927, 3070701412, 2757221520, 1446797203,
  137323447, 4198817972, 3910406976, 461344835, 3484808360, 1037989803, 781091935, 3705997148,
  2460548119, 1623424788, 1939049696, 2180517859, 1429367560, 2807687179, 3020495871, 1180866812,
  410100952, 3927582683, 4182430767, 186734380, 3756733383, 763408580, 1053836080, 3434856499,
  2722870694, 1344288421, 1131464017, 2971354706, 1708204729, 2545590714, 2229949006, 1988219213,
  680717673, 3673779818, 3383336350, 1002577565, 4010310262, 493091189, 238226049, 4233660802,
  2987750089, 1082061258, 1395524158, 2705686845, 1972364758, 2279892693, 2494862625, 1725896226,
  952904198, 3399985413, 3656866545, 731699698, 4283874585, 222117402, 510512622, 3959836397,
  3280807620, 837199303, 582374963, 3504198960, 68661723, 4135334616, 3844915500, 390545967,
  1230274059, 3141532936, 2825850620, 1510247935, 2395924756, 2091215383, 1878366691, 2644384480,
  3553878443, 565732008, 854102364, 3229815391, 340358836, 3861050807, 4117890627, 119113024,
  1493875044, 2875275879, 3090270611, 1247431312, 2660249211, 1828433272, 2141937292, 2378227087,
  3811616794, 291187481, 34330861, 4032846830, 615137029, 3603020806, 3314634738, 939183345,
  1776939221, 2609017814, 2295496738, 2058945313, 2926798794, 1545135305, 1330124605, 3173225534,
  4084100981, 17165430, 307568514, 3762199681, 888469610, 3332340585, 3587147933, 665062302,
  2042050490, 2346497209, 2559330125, 1793573966, 3190661285, 1279665062, 1595330642, 2910671697]
def u32s (ns : List Nat) : List Value := ns.map fun n => .int .u32 (.ofNat n)
def rowVal : Value := .agg (u32s rowNats).toArray
def eqU32 : List Value → List Nat → Bool
  | [], [] => true
  | .int .u32 (.ofNat a) :: l, n :: ns => Nat.beq a n && eqU32 l ns
  | _, _ => false
theorem eqU32_eq : ∀ {l : List Value} {ns : List Nat}, eqU32 l ns = true → l = u32s ns
  | [], [], _ => rfl
  | [], n :: ns, h => by cases h
  | v :: l, [], h => by unfold eqU32 at h; split at h <;> simp_all
  | v :: l, n :: ns, h => by
    unfold eqU32 at h
    split at h
    · simp_all
    · rename_i a l' n' ns' e1 e2
      cases e1; cases e2
      rw [Bool.and_eq_true] at h
      rw [Nat.eq_of_beq_eq_true h.1, eqU32_eq h.2]
      rfl
    · cases h
def isRow : Value → AHeap → List Nat → Option Bool
  | .agg a, _, _ => some (eqU32 a.toList rowNats)
  | _, _, _ => none
theorem isRow_eq {v : Value} {h : AHeap} {wr : List Nat} (e : isRow v h wr = some true) : v = rowVal := by
  unfold isRow at e
  split at e
  · rename_i a
    simp only [Option.some.injEq] at e
    show Value.agg a = .agg (u32s rowNats).toArray
    rw [← eqU32_eq e]
  · cases e
/-- A call that needs no memory and yields a value without addresses is a constant. -/
theorem CallRun.const {P : Program} {W : Nat → Prop} {f : FuncId} {v : Value} {h' : AHeap} (hg : P.globals.size = 0) (hc : CallRun P W f #[] emptyH v h') (hv : flatB v = true) (h : AHeap) : CallRun P (fun _ => False) f #[] h v h := by
  refine ⟨.refl _ _, fun m w args' hm hf ha hh => ?_⟩
  obtain rfl : args' = #[] := Array.eq_empty_of_size_eq_zero ha.1.symm
  refine (hc.run (fun _ => none) w #[] (fun g hlt => by omega) (fun i _ _ => rfl) (ARel.empty _) (hrel_empty P Ev w)).mono ?_
  rintro e w' ⟨v', m', rfl, hF, hV, _⟩
  have keep : ∀ b, b < w.heap.size → w'.heap[b]? = w.heap[b]? := fun b hb => hF.keep b hb fun j k hj => absurd hj (Nat.not_lt_zero j)
  refine ⟨v', m, rfl, ⟨fun _ _ => rfl, fun i l a b _ => by omega, fun b hb _ => keep b hb, hF.size, hF.os, hF.tape, hF.output⟩, ?_, ?_⟩
  · rw [VRel.eq_of_flat hV hv]; exact VRel.flat m hv
  · exact { lt := fun i l e => Nat.lt_of_lt_of_le (hh.lt i l e) hF.size
            typ := hh.typ
            inj := hh.inj
            roS := hh.roS
            obj := fun i l o hd e g => by
              obtain ⟨o', a, b⟩ := hh.obj i l o hd e g
              exact ⟨o', by rw [keep l.b (hh.lt i l e)]; exact a, b⟩ }
theorem rowRun : callK (A := Bool) Try.prog noS (fev Try.prog noS 5000) 76 [] emptyH isRow = some true := by kernel_rfl
theorem rowFlat : flatB rowVal = true := by kernel_rfl
theorem row_const (h : AHeap) : CallRun Try.prog (fun _ => False) 76 #[] h rowVal h := by
  obtain ⟨v, h', wr, hc, he⟩ := callRun_of (noS_ok _) rowRun
  obtain rfl := isRow_eq he
  exact CallRun.const (by kernel_rfl) hc rowFlat h
noncomputable def rowS : Summ := fun f args h => Bool.rec none (List.rec (some (rowVal, h, [])) (fun _ _ _ => none) args) (Nat.beq f 76)
theorem rowS_ok : SOk Try.prog rowS := fun f args h v h' wr e => by
  unfold rowS at e
  cases hb : Nat.beq f 76 with
  | false => rw [hb] at e; cases e
  | true =>
    rw [hb] at e
    cases args with
    | cons a l => cases e
    | nil =>
      cases e
      obtain rfl := Nat.eq_of_beq_eq_true hb
      exact (row_const h).weak fun i hi => hi.elim
def asB : Value → AHeap → List Nat → Option Bool
  | .bool b, _, _ => some b
  | _, _, _ => none
theorem asB_true {v : Value} {h : AHeap} {wr : List Nat} (e : asB v h wr = some true) : v = .bool true := by
  unfold asB at e
  split at e
  · cases e; rfl
  · cases e
end Go.Proofs.Ytmelgnpogdilgaa

/- crc and its definition: contracts on the abstract heap. No conditions. -/
namespace Go.Proofs.Ytmelgnpogdilgaa
set_option linter.unusedVariables false
set_option maxRecDepth 100000
attribute [local irreducible] Go GoR GoL
theorem rowNats_eq : rowNats = (List.range 256).map (Crc.it 8) := by decide +kernel
/-- A row of numbers, one for each byte. -/
def IsRow (l : List Value) : Prop := l.length = 256 ∧ l.all Value.oneCell' = true ∧ ∀ j, j < 256 → l[j]? = some (.int .u32 (Crc.it 8 j : Nat))
theorem row_spec (h : AHeap) : CallS Try.prog [] 76 [] h fun v h' => (∃ l, v = .agg l.toArray ∧ IsRow l) ∧ h' = h := by
  obtain ⟨v, h', wr, hc, he⟩ := callRun_of (noS_ok _) rowRun
  obtain rfl := isRow_eq he
  refine (CallS.known noGlobals hc rowFlat h).mono ?_
  rintro _ h' ⟨rfl, rfl⟩
  refine ⟨⟨u32s rowNats, rfl, by decide +kernel, by decide +kernel, fun j hj => ?_⟩, rfl⟩
  rw [rowNats_eq]
  simp [u32s, hj]
theorem com_u32 {x : Nat} (hx : x < 4294967296) : iBin .xor .u32 (if IntKind.u32.signed then -1 else IntKind.u32.max) (x : Int) = some (.int .u32 ((4294967295 - x : Nat) : Int)) := by
  have e := iXor_nat (k := .u32) (x := 4294967295) (y := x) (show 4294967295 < 4294967296 by decide) hx
  rw [Crc.not_eq x hx] at e
  exact e
def zrow : List Value := List.replicate 256 (.int .u32 0)
theorem al_row : AL Try.prog 111 zrow := ⟨by kernel_rfl⟩
theorem setL_all {c l : List Value} (e : l.length = c.length) : setL c 0 l = l := by
  simp [setL, e]
theorem zrow_len : zrow.length = 256 := by simp [zrow]
theorem byte_at {zs : List UInt8} {k : Nat} (hk : k < zs.length) : (zs.map bv)[k]? = some (.int .u8 (zs[k].toNat : Int)) := by simp [hk, bv]
set_option maxHeartbeats 4000000 in
theorem crcMore_spec (s : Nat) (hs : s < 4294967296) (a : Option Addr) (cap : Nat) (zs : List UInt8) (hl : zs.length ≤ 1000000000) (h : AHeap) (hz : Rv Try.prog h 1 a zs.length cap (zs.map bv)) : CallS Try.prog [] 69 [.int .u32 s, .slice a zs.length cap] h fun v h' => v = .int .u32 (Crc.more s zs : Nat) := by
  generalize hlen : zs.length = len at *
  rcases Nat.eq_zero_or_pos len with h0 | h0
  · subst h0
    obtain rfl : zs = [] := List.eq_nil_of_length_eq_zero hlen
    (refine CallS.of2 Try.func69 rfl Try.ntmps69 Try.results69 rfl ?_)
    (refine Go.run (g:=?_))
    (first|refine Go.finT (by first|exact .inr rfl|exact .inl rfl) rfl ?_|refine Go.fin1 (by first|exact .inr rfl|exact .inl rfl) rfl (hq:=?_))
    show Value.int .u32 _ = _
    rw [Crc.more_nil s hs]
  · (refine CallS.of2 Try.func69 rfl Try.ntmps69 Try.results69 rfl ?_)
    (refine Go.run (g:=?_))
    refine GoR.call rfl rfl rfl rfl rfl rfl rfl (((row_spec _).args (by first | rfl | (simp; fail_if_success focus skip) | (simp; omega) | (congr 2; omega))).mono ?_)
    rintro _ h1 ⟨⟨l, rfl, hl1, hl2, hl3⟩, rfl⟩ s1
    refine GoR.alloc (ha := al_row) rfl rfl rfl rfl ?_
    refine GoR.store (c' := l) rfl rfl rfl rfl rfl (AHeap.get_push_same _ _) rfl hl1 (by rw [zrow_len]; decide) hl2 (setL_all (hl1.trans zrow_len.symm)) (.inr (Nat.le_refl _)) ?_
    (refine Go.run (g:=?_))
    refine GoR.com rfl rfl rfl rfl rfl (com_u32 hs) ?_
    (refine Go.run (g:=?_))
    have hg : ((h1.push (.cells zrow 111)).put h1.n (some (.cells l 111))).get h1.n = some (.cells l 111) := get_put_self (AHeap.get_push_same _ _)
    have S1 : Same h1 ((h1.push (.cells zrow 111)).put h1.n (some (.cells l 111))) := ((Same.refl h1).push _).put (Nat.le_refl _) _
    generalize ((h1.push (.cells zrow 111)).put h1.n (some (.cells l 111))) = H at *
    have hz2 := hz.same S1
    refine Go.loop (α := Nat) (fun k => [(18, .int .i64 k), (6, .int .u32 (Crc.fold (4294967295 - s) (zs.take k) : Nat)), (17, .int .i64 len), (16, .slice a len cap), (5, .pointer (some ⟨h1.n, 0, none⟩))]) (fun _ => []) (fun _ => H) (fun k => k ≤ len) (fun k => len - k) 0 (Nat.zero_le _) ⟨rfl, rfl, rfl, rfl, rfl, trivial⟩ rfl rfl ?_
    rintro k hk
    rcases Nat.lt_or_ge k len with hlt | hge
    · have hcell := byte_at (zs := zs) (k := k) (by omega)
      have hst := Crc.fold_snoc (4294967295 - s) (zs.take k) (zs[k]'(by omega))
      rw [← List.take_succ_eq_append_getElem (by omega)] at hst
      have hr := Crc.fold_lt (4294967295 - s) (zs.take k) (by omega)
      have hcb := (zs[k]'(by omega)).toNat_lt
      generalize Crc.fold (4294967295 - s) (zs.take k) = r at *
      generalize (zs[k]'(by omega)).toNat = c at *
      have hj : (r % 256) ^^^ c < 2 ^ 8 := Nat.xor_lt_two_pow (by omega) hcb
      have hlj := hl3 _ hj
      have hv := Crc.it_lt 8 ((r % 256) ^^^ c) (Nat.lt_trans hj (by decide))
      rw [← Crc.beh_row] at hst
      have hrow : (r % 2 ^ 8) ^^^ c = (r % 256) ^^^ c := rfl
      rw [hrow] at hst
      (refine Go.run (g:=?_))
      refine GoR.xorN rfl rfl rfl rfl rfl rfl (show r % 256 < 2 ^ 8 by omega) hcb ?_
      generalize (r % 256) ^^^ c = j at *
      generalize Crc.it 8 j = v at *
      (refine Go.run (g:=?_))
      refine GoR.xorN rfl rfl rfl rfl rfl rfl hv (show r / 2 ^ 8 < 2 ^ 32 by omega) ?_
      (refine Go.run (g:=?_))
      refine Go.again (k + 1) hlt (by omega) ⟨rfl, ?_, rfl, rfl, rfl, trivial⟩ rfl rfl
      rw [hst]
      rfl
    · obtain rfl : k = len := by omega
      have hr := Crc.fold_lt (4294967295 - s) (zs.take k) (by omega)
      have ht : zs.take k = zs := List.take_of_length_le (by omega)
      rw [ht] at hr ⊢
      have hm : Crc.more s zs = 4294967295 - Crc.fold (4294967295 - s) zs := rfl
      rw [hm]
      generalize Crc.fold (4294967295 - s) zs = r at *
      (refine Go.run (g:=?_))
      refine GoR.com rfl rfl rfl rfl rfl (com_u32 hr) ?_
      (refine Go.run (g:=?_))
      (first|refine Go.finT (by first|exact .inr rfl|exact .inl rfl) rfl ?_|refine Go.fin1 (by first|exact .inr rfl|exact .inl rfl) rfl (hq:=?_))
      rfl
theorem crcSum_spec (a : Option Addr) (cap : Nat) (zs : List UInt8) (hl : zs.length ≤ 1000000000) (h : AHeap) (hz : Rv Try.prog h 1 a zs.length cap (zs.map bv)) : CallS Try.prog [] 70 [.slice a zs.length cap] h fun v h' => v = .int .u32 (Crc.sum zs : Nat) := by
  (refine CallS.of1 Try.func70 rfl Try.ntmps70 Try.results70 rfl ?_)
  (refine Go.run (g:=?_))
  refine GoR.call rfl rfl rfl rfl rfl rfl rfl (((crcMore_spec 0 (by decide) a cap zs hl _ hz).args (by first | rfl | (simp; fail_if_success focus skip) | (simp; omega) | (congr 2; omega))).mono ?_)
  rintro _ h1 rfl s1
  (refine Go.run (g:=?_))
  (first|refine Go.finT (by first|exact .inr rfl|exact .inl rfl) rfl ?_|refine Go.fin1 (by first|exact .inr rfl|exact .inl rfl) rfl (hq:=?_))
  rfl
theorem it_succ (k x : Nat) : Crc.it (k + 1) x = Crc.bit (Crc.it k x) := by rw [Crc.it_add]; rfl
theorem behind_spec (r c : Nat) (hr : r < 4294967296) (hc : c < 256) (h : AHeap) : CallS Try.prog [] 77 [.int .u32 r, .int .u8 c] h fun v h' => v = .int .u32 (Crc.beh r c : Nat) := by
  have hx : r ^^^ c < 2 ^ 32 := Nat.xor_lt_two_pow hr (by omega)
  have hb : Crc.beh r c = Crc.it 8 (r ^^^ c) := rfl
  rw [hb]
  (refine CallS.of2 Try.func77 rfl Try.ntmps77 Try.results77 rfl ?_)
  (refine Go.run (g:=?_))
  refine GoR.xorN rfl rfl rfl rfl rfl rfl hr (show c < 2 ^ 32 by omega) ?_
  generalize r ^^^ c = x at *
  (refine Go.run (g:=?_))
  refine Go.loop (α := Nat) (fun k => [(5, .int .i64 k), (0, .int .u32 (Crc.it k x : Nat))]) (fun _ => []) (fun _ => h) (fun k => k ≤ 8) (fun k => 8 - k) 0 (Nat.zero_le _) ⟨rfl, rfl, trivial⟩ rfl rfl ?_
  rintro k hk
  have hv := Crc.it_lt k x hx
  rcases Nat.lt_or_ge k 8 with hlt | hge
  · have hs := it_succ k x
    generalize Crc.it k x = y at *
    rcases Nat.mod_two_eq_zero_or_one y with h2 | h2
    · have hb : Crc.bit y = y / 2 := by unfold Crc.bit; rw [if_neg (by omega)]
      (refine Go.run (g:=?_))
      refine Go.again (k + 1) hlt (by omega) ⟨rfl, by rw [hs, hb]; rfl, trivial⟩ rfl rfl
    · have hb : Crc.bit y = (y / 2) ^^^ Crc.P := by unfold Crc.bit; rw [if_pos h2]
      (refine Go.run (g:=?_))
      refine GoR.xorN rfl rfl rfl rfl rfl rfl (show y / 2 < 2 ^ 32 by omega) (show 2197175160 < 2 ^ 32 by decide) ?_
      (refine Go.run (g:=?_))
      refine Go.again (k + 1) hlt (by omega) ⟨rfl, by rw [hs, hb]; rfl, trivial⟩ rfl rfl
  · obtain rfl : k = 8 := by omega
    (refine Go.run (g:=?_))
    (first|refine Go.finT (by first|exact .inr rfl|exact .inl rfl) rfl ?_|refine Go.fin1 (by first|exact .inr rfl|exact .inl rfl) rfl (hq:=?_))
    rfl
theorem refMore_spec (s : Nat) (hs : s < 4294967296) (a : Option Addr) (cap : Nat) (zs : List UInt8) (hl : zs.length ≤ 1000000000) (h : AHeap) (hz : Rv Try.prog h 1 a zs.length cap (zs.map bv)) : CallS Try.prog [] 71 [.int .u32 s, .slice a zs.length cap] h fun v h' => v = .int .u32 (Crc.more s zs : Nat) := by
  generalize hlen : zs.length = len at *
  (refine CallS.of2 Try.func71 rfl Try.ntmps71 Try.results71 rfl ?_)
  (refine Go.run (g:=?_))
  refine Go.loop (α := Nat × AHeap) (fun k => [(6, .int .i64 k.1), (5, .int .u32 (Crc.fold (4294967295 - s) (zs.take k.1) : Nat)), (1, .slice a len cap)]) (fun _ => []) (fun k => k.2) (fun k => k.1 ≤ len ∧ Same h k.2) (fun k => len - k.1) (0, h) ?_ ?_ rfl rfl ?_
  · exact ⟨Nat.zero_le _, Same.refl h⟩
  · exact ⟨rfl, rfl, rfl, trivial⟩
  rintro ⟨k, h1⟩ ⟨hk, s1⟩
  simp only at hk s1 ⊢
  have hr := Crc.fold_lt (4294967295 - s) (zs.take k) (by omega)
  rcases Nat.lt_or_ge k len with hlt | hge
  · have hcell := byte_at (zs := zs) (k := k) (by omega)
    have hst := Crc.fold_snoc (4294967295 - s) (zs.take k) (zs[k]'(by omega))
    rw [← List.take_succ_eq_append_getElem (by omega)] at hst
    have hcb := (zs[k]'(by omega)).toNat_lt
    generalize Crc.fold (4294967295 - s) (zs.take k) = r at *
    generalize (zs[k]'(by omega)).toNat = c at *
    have hz1 := hz.same s1
    (refine Go.run (g:=?_))
    refine GoR.call rfl rfl rfl rfl rfl rfl rfl (((behind_spec r c hr hcb _).args (by first | rfl | (simp; fail_if_success focus skip) | (simp; omega) | (congr 2; omega))).mono ?_)
    rintro _ h2 rfl s2
    (refine Go.run (g:=?_))
    refine Go.again (k + 1, h2) ⟨hlt, s1.trans s2⟩ (by simp only; omega) ⟨rfl, ?_, rfl, trivial⟩ rfl rfl
    rw [hst]
    rfl
  · obtain rfl : k = len := by omega
    have ht : zs.take k = zs := List.take_of_length_le (by omega)
    rw [ht] at hr ⊢
    have hm : Crc.more s zs = 4294967295 - Crc.fold (4294967295 - s) zs := rfl
    rw [hm]
    generalize Crc.fold (4294967295 - s) zs = r at *
    (refine Go.run (g:=?_))
    (first|refine Go.finT (by first|exact .inr rfl|exact .inl rfl) rfl ?_|refine Go.fin1 (by first|exact .inr rfl|exact .inl rfl) rfl (hq:=?_))
    rfl
theorem refSum_spec (a : Option Addr) (cap : Nat) (zs : List UInt8) (hl : zs.length ≤ 1000000000) (h : AHeap) (hz : Rv Try.prog h 1 a zs.length cap (zs.map bv)) : CallS Try.prog [] 50 [.slice a zs.length cap] h fun v h' => v = .int .u32 (Crc.sum zs : Nat) := by
  (refine CallS.of1 Try.func50 rfl Try.ntmps50 Try.results50 rfl ?_)
  (refine Go.run (g:=?_))
  refine GoR.call rfl rfl rfl rfl rfl rfl rfl (((refMore_spec 0 (by decide) a cap zs hl _ hz).args (by first | rfl | (simp; fail_if_success focus skip) | (simp; omega) | (congr 2; omega))).mono ?_)
  rintro _ h1 rfl s1
  (refine Go.run (g:=?_))
  (first|refine Go.finT (by first|exact .inr rfl|exact .inl rfl) rfl ?_|refine Go.fin1 (by first|exact .inr rfl|exact .inl rfl) rfl (hq:=?_))
  rfl
end Go.Proofs.Ytmelgnpogdilgaa

/- lanyardref03.Bytes: its contract on the abstract heap. No conditions. -/
namespace Go.Proofs.Ytmelgnpogdilgaa
set_option linter.unusedVariables false
set_option maxRecDepth 100000
attribute [local irreducible] Go GoR GoL
/-- The bytes of a number, the highest first. -/
def beB (n x : Nat) : List UInt8 := (List.range n).map fun j => UInt8.ofNat (x / 256 ^ (n - 1 - j))
theorem beB_length (n x : Nat) : (beB n x).length = n := by simp [beB]
/-- A slice of bytes of the call's own, alone. -/
def OwnS (h h' : AHeap) (v : Value) (l : List UInt8) : Prop := ∃ b cap, v = .slice b l.length cap ∧ Sv h' 5 1 b l.length cap (l.map bv) ∧ Own h.n b
set_option maxHeartbeats 4000000 in
theorem bytes_spec (x n : Nat) (hx : x < 2 ^ 64) (hn : n ≤ 8) (h : AHeap) : CallS Try.prog [] 41 [.int .u64 x, .int .i64 n] h fun v h' => OwnS h h' v (beB n x) := by
  have hx' : x < 18446744073709551616 := hx
  (refine CallS.of2 Try.func41 rfl Try.ntmps41 Try.results41 rfl ?_)
  (refine Go.run (g:=?_))
  refine GoR.makeO rfl rfl rfl rfl rfl rfl rfl (by omega) (by omega) ?_
  intro b h1 hb ob s1 n1
  (refine Go.run (g:=?_))
  refine Go.loop (α := Nat × List Value × AHeap) (fun a => [(6, .int .i64 ((a.1 : Int) - 1)), (5, .slice b n n), (0, .int .u64 ((x / 256 ^ (n - a.1) : Nat) : Int))]) (fun _ => []) (fun a => a.2.2)
    (fun a => a.1 ≤ n ∧ Same h a.2.2 ∧ Sv a.2.2 5 1 b n n a.2.1 ∧ ∀ j, a.1 ≤ j → j < n → a.2.1[j]? = some (bv (UInt8.ofNat (x / 256 ^ (n - 1 - j))))) (fun a => a.1) (n, List.replicate n (.int .u8 0), h1) ?_ ?_ rfl rfl ?_
  · exact ⟨Nat.le_refl _, s1, hb, fun j h1 h2 => by omega⟩
  · exact ⟨rfl, rfl, by rw [Nat.sub_self, Nat.pow_zero, Nat.div_one]; rfl, trivial⟩
  · rintro ⟨k, c, h2⟩ ⟨hk, s2, hc, hd⟩
    simp only at hk s2 hc hd ⊢
    have hcl : c.length = n := by have := hc.length; omega
    rcases Nat.eq_zero_or_pos k with h0 | h0
    · subst h0
      (refine Go.run (g:=?_))
      (first|refine Go.finT (by first|exact .inr rfl|exact .inl rfl) rfl ?_|refine Go.fin1 (by first|exact .inr rfl|exact .inl rfl) rfl (hq:=?_))
      refine ⟨b, n, by rw [beB_length]; rfl, ?_, ob⟩
      rw [beB_length]
      have : c = (beB n x).map bv := by
        apply List.ext_getElem? 
        intro j
        rcases Nat.lt_or_ge j n with hj | hj
        · rw [hd j (Nat.zero_le _) hj]
          simp [beB, hj]
        · rw [List.getElem?_eq_none (by omega), List.getElem?_eq_none (by simp [beB_length]; omega)]
      rw [← this]
      exact hc
    · obtain ⟨k, rfl⟩ : ∃ j, k = j + 1 := ⟨k - 1, by omega⟩
      have ek : ((k + 1 : Nat) : Int) - 1 = (k : Int) := by omega
      rw [ek]
      have hq : x / 256 ^ (n - (k + 1)) < 18446744073709551616 := Nat.lt_of_le_of_lt (Nat.div_le_self _ _) hx'
      (refine Go.run (g:=?_))
      refine GoR.store1' rfl rfl rfl rfl rfl rfl (g:=?_)
      intro h3 hc3 k3 n3
      (refine Go.run (g:=?_))
      refine Go.again (k, c.set k (.int .u8 (((x / 256 ^ (n - (k + 1))) % 256 % 256 : Nat) : Int)), h3) ⟨by omega, s2.ownO k3 ob (Nat.le_refl _), hc3, fun j h1 h2 => ?_⟩ (by simp) ?_ rfl rfl
      · rw [List.getElem?_set]
        by_cases hj : k = j
        · subst hj
          rw [if_pos rfl, if_pos (by omega), bv_ofNat]
          have : n - (k + 1) = n - 1 - k := by omega
          rw [this]
          simp
        · rw [if_neg hj]
          exact hd j (by omega) h2
      · refine ⟨rfl, rfl, ?_, trivial⟩
        have e : x / 256 ^ (n - k) = x / 256 ^ (n - (k + 1)) / 256 := by
          rw [Nat.div_div_eq_div_mul, ← Nat.pow_succ]
          congr 2
          omega
        rw [e]
        rfl
theorem beB2 (x : Nat) : beB 2 x = [UInt8.ofNat (x / 256), UInt8.ofNat x] := by simp [beB, List.range_succ]
/-- A slice of bytes of the call's own, and no error. -/
def OwnE (h h' : AHeap) (v : Value) (l : List UInt8) : Prop := ∃ b cap, v = .tuple #[.slice b l.length cap, .int .i64 0] ∧ Sv h' 5 1 b l.length cap (l.map bv) ∧ Own h.n b
end Go.Proofs.Ytmelgnpogdilgaa

/- head: plain. No conditions. -/
namespace Go.Proofs.Ytmelgnpogdilgaa
set_option linter.unusedVariables false
/-- Bytes as a number, the highest first. -/
def beNum (l : List UInt8) : Nat := l.foldl (fun n c => n * 256 + c.toNat) 0
theorem beNum_snoc (l : List UInt8) (c : UInt8) : beNum (l ++ [c]) = beNum l * 256 + c.toNat := by simp [beNum]
theorem beNum_lt (l : List UInt8) : beNum l < 256 ^ l.length := by
  have h : ∀ (r : List UInt8), beNum r.reverse < 256 ^ r.length := by
    intro r
    induction r with
    | nil => decide
    | cons c r ih =>
      rw [List.reverse_cons, beNum_snoc, List.length_cons, Nat.pow_succ]
      have := c.toNat_lt
      omega
  have := h l.reverse
  simpa using this
theorem or_byte (n c : Nat) (hc : c < 256) : n * 2 ^ 8 ||| c = n * 256 + c := or_of_lt (n := 8) hc
theorem beNum_lt_of {l : List UInt8} {k n : Nat} (h : l.length ≤ k) (hn : 256 ^ k = n) : beNum l < n := by
  subst hn
  exact Nat.lt_of_lt_of_le (beNum_lt l) (Nat.pow_le_pow_right (by decide) h)
theorem beB4 (x : Nat) : beB 4 x = [UInt8.ofNat (x / 16777216), UInt8.ofNat (x / 65536), UInt8.ofNat (x / 256), UInt8.ofNat x] := by simp [beB, List.range_succ]
theorem beB4_split (f t : Nat) (ht : t < 65536) : beB 4 (f * 65536 + t) = beB 2 f ++ beB 2 t := by
  rw [beB4, beB2, beB2]
  have e : ∀ a b : Nat, a % 256 = b % 256 → UInt8.ofNat a = UInt8.ofNat b := fun a b h => by
    apply UInt8.toNat_inj.1
    simp only [UInt8.toNat_ofNat']
    exact h
  simp only [List.cons_append, List.nil_append]
  rw [e ((f * 65536 + t) / 16777216) (f / 256) (by omega), e ((f * 65536 + t) / 65536) f (by omega), e ((f * 65536 + t) / 256) (t / 256) (by omega), e (f * 65536 + t) t (by omega)]
/-- The sum that a packet is to have. -/
def headSum (l : List UInt8) : Nat := Crc.sum (l.take 8 ++ [0, 0, 0, 0] ++ l.drop 12)
theorem headSum_eq (l : List UInt8) : Crc.more (Crc.more (Crc.sum (l.take 8)) [0, 0, 0, 0]) (l.drop 12) = headSum l := by
  unfold headSum Crc.sum
  rw [Crc.more_append 0 _ _ (by decide), Crc.more_append 0 _ _ (by decide)]
/-- A packet's bytes with a sum. -/
def hbytes (f t g s : Nat) (v : List UInt8) : List UInt8 := beB 2 f ++ beB 2 t ++ beB 4 g ++ beB 4 s ++ v
theorem hbytes_length (f t g s : Nat) (v : List UInt8) : (hbytes f t g s v).length = 12 + v.length := by simp [hbytes, beB_length]; omega
def hput (f t g : Nat) (v : List UInt8) : List UInt8 := hbytes f t g (Crc.sum (hbytes f t g 0 v)) v
end Go.Proofs.Ytmelgnpogdilgaa

/- head and its definition: contracts on the abstract heap (1). No conditions. -/
namespace Go.Proofs.Ytmelgnpogdilgaa
set_option linter.unusedVariables false
set_option maxRecDepth 100000
attribute [local irreducible] Go GoR GoL
set_option maxHeartbeats 4000000 in
theorem number_spec (a : Option Addr) (cap : Nat) (zs : List UInt8) (hl : zs.length ≤ 4) (h : AHeap) (hz : Rv Try.prog h 1 a zs.length cap (zs.map bv)) : CallS Try.prog [] 51 [.slice a zs.length cap] h fun v h' => v = .int .u32 (beNum zs : Nat) := by
  generalize hlen : zs.length = len at *
  (refine CallS.of1 Try.func51 rfl Try.ntmps51 Try.results51 rfl ?_)
  (refine Go.run (g:=?_))
  refine Go.loop (α := Nat) (fun k => [(8, .int .i64 k), (3, .int .u32 (beNum (zs.take k) : Nat)), (7, .int .i64 len), (6, .slice a len cap)]) (fun _ => []) (fun _ => h) (fun k => k ≤ len) (fun k => len - k) 0 (Nat.zero_le _) ⟨rfl, rfl, rfl, rfl, trivial⟩ rfl rfl ?_
  rintro k hk
  rcases Nat.lt_or_ge k len with hlt | hge
  · have hcell := byte_at (zs := zs) (k := k) (by omega)
    have hst := beNum_snoc (zs.take k) (zs[k]'(by omega))
    rw [← List.take_succ_eq_append_getElem (by omega)] at hst
    have hr : beNum (zs.take k) < 16777216 := beNum_lt_of (k := 3) (by simp; omega) rfl
    have hcb := (zs[k]'(by omega)).toNat_lt
    generalize beNum (zs.take k) = r at *
    generalize (zs[k]'(by omega)).toNat = c at *
    (refine Go.run (g:=?_))
    refine Go.again (k + 1) hlt (by omega) ⟨rfl, ?_, rfl, rfl, trivial⟩ rfl rfl
    rw [hst, ← or_byte r c hcb]
    rfl
  · obtain rfl : k = len := by omega
    have ht : zs.take k = zs := List.take_of_length_le (by omega)
    rw [ht]
    (refine Go.run (g:=?_))
    (first|refine Go.finT (by first|exact .inr rfl|exact .inl rfl) rfl ?_|refine Go.fin1 (by first|exact .inr rfl|exact .inl rfl) rfl (hq:=?_))
    rfl
theorem refNumber_spec (a : Option Addr) (cap : Nat) (zs : List UInt8) (hl : zs.length ≤ 4) (h : AHeap) (hz : Rv Try.prog h 1 a zs.length cap (zs.map bv)) : CallS Try.prog [] 52 [.slice a zs.length cap] h fun v h' => v = .int .u64 (beNum zs : Nat) := by
  generalize hlen : zs.length = len at *
  (refine CallS.of1 Try.func52 rfl Try.ntmps52 Try.results52 rfl ?_)
  (refine Go.run (g:=?_))
  refine Go.loop (α := Nat) (fun k => [(4, .int .i64 k), (3, .int .u64 (beNum (zs.take k) : Nat)), (0, .slice a len cap)]) (fun _ => []) (fun _ => h) (fun k => k ≤ len) (fun k => len - k) 0 (Nat.zero_le _) ⟨rfl, rfl, rfl, trivial⟩ rfl rfl ?_
  rintro k hk
  rcases Nat.lt_or_ge k len with hlt | hge
  · have hcell := byte_at (zs := zs) (k := k) (by omega)
    have hst := beNum_snoc (zs.take k) (zs[k]'(by omega))
    rw [← List.take_succ_eq_append_getElem (by omega)] at hst
    have hr : beNum (zs.take k) < 16777216 := beNum_lt_of (k := 3) (by simp; omega) rfl
    have hcb := (zs[k]'(by omega)).toNat_lt
    generalize beNum (zs.take k) = r at *
    generalize (zs[k]'(by omega)).toNat = c at *
    (refine Go.run (g:=?_))
    refine Go.again (k + 1) hlt (by omega) ⟨rfl, ?_, rfl, trivial⟩ rfl rfl
    rw [hst, Nat.mul_comm r 256]
    rfl
  · obtain rfl : k = len := by omega
    have ht : zs.take k = zs := List.take_of_length_le (by omega)
    rw [ht]
    (refine Go.run (g:=?_))
    (first|refine Go.finT (by first|exact .inr rfl|exact .inl rfl) rfl ?_|refine Go.fin1 (by first|exact .inr rfl|exact .inl rfl) rfl (hq:=?_))
    rfl
theorem four_spec (x : Nat) (hx : x < 4294967296) (h : AHeap) : CallS Try.prog [] 47 [.int .u32 x] h fun v h' => OwnS h h' v (beB 4 x) := by
  (refine CallS.of1 Try.func47 rfl Try.ntmps47 Try.results47 rfl ?_)
  (refine Go.run (g:=?_))
  refine GoR.buildO (c := (beB 4 x).map bv) rfl rfl rfl rfl rfl (by decide) ?_ (by rfl) ?_
  · rw [beB4]
    simp only [List.map_cons, List.map_nil, bv_ofNat]
    rfl
  intro b h1 hb ob s1 n1
  (refine Go.run (g:=?_))
  (first|refine Go.finT (by first|exact .inr rfl|exact .inl rfl) rfl ?_|refine Go.fin1 (by first|exact .inr rfl|exact .inl rfl) rfl (hq:=?_))
  exact ⟨b, 4, rfl, hb, ob⟩
theorem aEq_nil {P : Program} {h : AHeap} {t e : TypeId} (hu : P.underlying t = some (.slice e)) (a : Option Addr) (len cap : Nat) : aEq P h t (.slice a len cap) (.slice none 0 0) = some (a.isNone, []) := by
  unfold aEq
  rw [hu]
  cases a <;> rfl
theorem bytesU : Try.prog.underlying 23 = some (.slice 5) := by kernel_rfl
theorem Own.app1 {h : AHeap} {a₂ : Option Addr} {b n : Nat} (hb : n ≤ b) {h₁ : AHeap} (hn : n ≤ h₁.n) (k : ∀ i ∈ blk a₂, i ∈ blk (some ⟨b, 0, none⟩) ∨ h₁.n ≤ i) : Own n a₂ := (Own.mk hb).app hn k
theorem clone_spec (a : Option Addr) (cap : Nat) (zs : List UInt8) (hl : zs.length ≤ 1000000000) (h : AHeap) (hz : Rv Try.prog h 1 a zs.length cap (zs.map bv)) : CallS Try.prog [] 45 [.slice a zs.length cap] h fun v h' => OwnS h h' v zs := by
  have hone : (zs.map bv).all Value.oneCell' = true := by simp [bv, Value.oneCell']
  generalize hlen : zs.length = len at *
  cases a with
  | none =>
    obtain ⟨rfl, rfl⟩ : len = 0 ∧ cap = 0 := by
      generalize zs.map bv = cs at hz
      cases hz
      exact ⟨rfl, rfl⟩
    obtain rfl : zs = [] := List.eq_nil_of_length_eq_zero hlen
    (refine CallS.of1 Try.func45 rfl Try.ntmps45 Try.results45 rfl ?_)
    (refine Go.run (g:=?_))
    refine GoR.eqRef rfl rfl rfl rfl (.inl rfl) rfl rfl (aEq_nil bytesU _ _ _) ?_
    (refine Go.run (g:=?_))
    (first|refine Go.finT (by first|exact .inr rfl|exact .inl rfl) rfl ?_|refine Go.fin1 (by first|exact .inr rfl|exact .inl rfl) rfl (hq:=?_))
    exact ⟨none, 0, rfl, .nil, Own.nil _⟩
  | some a =>
    (refine CallS.of1 Try.func45 rfl Try.ntmps45 Try.results45 rfl ?_)
    (refine Go.run (g:=?_))
    refine GoR.eqRef rfl rfl rfl rfl (.inl rfl) rfl rfl (aEq_nil bytesU _ _ _) ?_
    (refine Go.run (g:=?_))
    refine GoR.buildO (c := []) rfl rfl rfl rfl rfl (by decide) (by rfl) (by rfl) ?_
    intro b h1 hb ob s1 n1
    (refine Go.run (g:=?_))
    refine GoR.appendV rfl rfl rfl rfl rfl rfl hb (hz.same s1) (Own.ok ob (by omega)) (by omega) (by omega) hone ?_
    intro b2 c2 h2 hb2 k2 o2
    (refine Go.run (g:=?_))
    (first|refine Go.finT (by first|exact .inr rfl|exact .inl rfl) rfl ?_|refine Go.fin1 (by first|exact .inr rfl|exact .inl rfl) rfl (hq:=?_))
    subst hlen
    rw [Nat.zero_add] at hb2 ⊢
    exact ⟨b2, c2, rfl, hb2, ob.app (by omega) o2⟩
/-- A slice of bytes of the call's own, with room. -/
def OwnC (h h' : AHeap) (v : Value) (n : Nat) : Prop := ∃ b cap, v = .slice b 0 cap ∧ Sv h' 5 1 b 0 cap [] ∧ Own h.n b
theorem intU : Try.prog.underlying 3 = some (.int .i64) := by kernel_rfl
theorem aAppend_zeros {P : Program} {h : AHeap} {t t₂ e : TypeId} {bytes sz by2 : Nat} {z : Value} [hM : MK P t e bytes z] [hA : AP P t t e sz by2] {kd : IntKind} (hu2 : P.underlying t₂ = some (.int kd)) {n : Nat} (h0 : 0 < n) (h1 : n ≤ 1000000000) (h2 : n * bytes ≤ 140737488355328) : aAppend P h t t₂ (.slice none 0 0) (.int kd n) = some (.slice (some ⟨h.n, 0, none⟩) n n, h.push (.cells (List.replicate n z) e), [], []) := by
  obtain ⟨inf, hi, hs, rfl⟩ := hM.i
  obtain ⟨inf', z', hi', _, _, hz, hsz, hzf, hzl⟩ := hA.i
  rw [hi] at hi'
  cases hi'
  have hzl' : z.cells.toList = [z] := by rw [cellsL_eq]; exact hM.f.2
  have hzer : aZeros P e inf.size n = some (List.replicate n z) := by
    unfold aZeros
    rw [if_neg (by rw [hs]; omega)]
    simp only [hM.hz]
    rw [if_pos ⟨hM.f.1, by rw [hzl', hs]; rfl⟩, hzl', zeros_one]
  simp only [aAppend, hM.u, hi, hz]
  rw [if_pos ⟨by omega, hzf, by omega⟩]
  have hnew : aNew P h e inf t₂ (.int kd n) = some (n, List.replicate n z, []) := by
    simp only [aNew, hu2]
    rw [if_pos ⟨by omega, by omega, by have : (n : Int) * inf.bytes = ((n * inf.bytes : Nat) : Int) := (by simp); omega⟩, Int.toNat_natCast, hzer]
    rfl
  simp only [hnew, aGrow]
  rw [if_neg (by omega), if_pos ⟨by omega, h2⟩]
theorem grow_spec (n : Nat) (hn : n ≤ 1000000000) (h : AHeap) : CallS Try.prog [] 68 [.slice none 0 0, .int .i64 n] h fun v h' => OwnC h h' v n := by
  rcases Nat.eq_zero_or_pos n with h0 | h0
  · subst h0
    (refine CallS.of2 Try.func68 rfl Try.ntmps68 Try.results68 rfl ?_)
    (refine Go.run (g:=?_))
    (first|refine Go.finT (by first|exact .inr rfl|exact .inl rfl) rfl ?_|refine Go.fin1 (by first|exact .inr rfl|exact .inl rfl) rfl (hq:=?_))
    exact ⟨none, 0, rfl, .nil, Own.nil _⟩
  · (refine CallS.of2 Try.func68 rfl Try.ntmps68 Try.results68 rfl ?_)
    (refine Go.run (g:=?_))
    simp only [Nat.sub_zero]
    refine GoR.sliceV (lo' := none) (hi' := some (.int .i64 (0 : Nat))) (l := 0) (r := 0) rfl rfl rfl rfl rfl rfl rfl Rv.nil rfl rfl (by omega) (by omega) ?_
    (refine Go.run (g:=?_))
    refine GoR.append rfl rfl rfl rfl rfl rfl (aAppend_zeros intU (by omega) (by omega) (by omega)) (fun i hi => by cases hi) ?_
    have hb := Sv.new h (List.replicate n (Value.int .u8 0)) 5 (sz := 1) (len := n) (by simp)
    (refine Go.run (g:=?_))
    refine GoR.sliceV (lo' := none) (hi' := some (.int .i64 (0 : Nat))) (l := 0) (r := 0) rfl rfl rfl rfl rfl rfl rfl (Sv.rv hb) rfl rfl (by omega) (by omega) ?_
    (refine Go.run (g:=?_))
    (first|refine Go.finT (by first|exact .inr rfl|exact .inl rfl) rfl ?_|refine Go.fin1 (by first|exact .inr rfl|exact .inl rfl) rfl (hq:=?_))
    exact ⟨some ⟨h.n, 0, none⟩, n, rfl, hb.sub (l := 0) (r := 0) (by omega) (by omega), Own.mk (Nat.le_refl _)⟩
/-- Slices of bytes that read so. -/
def SlAll (P : Program) (h : AHeap) (vs : List Value) (ls : List (List UInt8)) : Prop := vs.length = ls.length ∧ ∀ (i : Nat) (zs : List UInt8), ls[i]? = some zs → ∃ a cap, vs[i]? = some (Value.slice a zs.length cap) ∧ Rv P h 1 a zs.length cap (zs.map bv)
theorem flat_take {ls : List (List UInt8)} {k : Nat} {zs : List UInt8} (e : ls[k]? = some zs) : (ls.take (k + 1)).flatten = (ls.take k).flatten ++ zs := by
  rw [List.take_add_one, e]
  simp
theorem flat_le (ls : List (List UInt8)) (k : Nat) : (ls.take k).flatten.length ≤ ls.flatten.length := by
  have e : ls.flatten = (ls.take k).flatten ++ (ls.drop k).flatten := by rw [← List.flatten_append, List.take_append_drop]
  rw [e, List.length_append]
  omega
set_option maxHeartbeats 4000000 in
theorem concat_spec (a : Option Addr) (cap : Nat) (vs : List Value) (ls : List (List UInt8)) (hsm : vs.length ≤ 1000) (htot : ls.flatten.length ≤ 1000000) (h : AHeap) (hA : SlAll Try.prog h vs ls) (hv : Rv Try.prog h 1 a vs.length cap vs) : CallS Try.prog [] 46 [.slice a vs.length cap] h fun v h' => OwnS h h' v ls.flatten := by
  have hone : ∀ l : List UInt8, (l.map bv).all Value.oneCell' = true := fun l => by simp [bv, Value.oneCell']
  obtain ⟨hll, hA⟩ := hA
  generalize hlen : vs.length = len at *
  (refine CallS.of1 Try.func46 rfl Try.ntmps46 Try.results46 rfl ?_)
  (refine Go.run (g:=?_))
  refine Go.loop (α := Nat) (fun k => [(11, .int .i64 k), (3, .int .i64 ((ls.take k).flatten.length : Nat)), (10, .int .i64 len), (9, .slice a len cap), (0, .slice a len cap)]) (fun _ => []) (fun _ => h) (fun k => k ≤ len) (fun k => len - k) 0 (Nat.zero_le _) ⟨rfl, rfl, rfl, rfl, rfl, trivial⟩ rfl rfl ?_
  rintro k hk
  rcases Nat.lt_or_ge k len with hlt | hge
  · obtain ⟨zs, hzs⟩ : ∃ zs, ls[k]? = some zs := ⟨_, List.getElem?_eq_getElem (by omega)⟩
    obtain ⟨a1, c1, hcell, hz⟩ := hA k zs hzs
    have hst := congrArg List.length (flat_take hzs)
    rw [List.length_append] at hst
    have hle := flat_le ls (k + 1)
    generalize (ls.take k).flatten.length = r at *
    (refine Go.run (g:=?_))
    refine Go.again (k + 1) hlt (by omega) ⟨rfl, ?_, rfl, rfl, rfl, trivial⟩ rfl rfl
    rw [hst]
    rfl
  · obtain rfl : k = len := by omega
    have ht : ls.take k = ls := List.take_of_length_le (by omega)
    rw [ht]
    (refine Go.run (g:=?_))
    refine GoR.call rfl rfl rfl rfl rfl rfl rfl (((grow_spec ls.flatten.length (by omega) _).args (by first | rfl | (simp; fail_if_success focus skip) | (simp; omega) | (congr 2; omega))).mono ?_)
    rintro _ h1 ⟨b, c1, rfl, hb, ob⟩ s1
    (refine Go.run (g:=?_))
    refine Go.loop (α := Nat × Option Addr × Nat × AHeap) (fun x => [(27, .int .i64 x.1), (6, .slice x.2.1 (ls.take x.1).flatten.length x.2.2.1), (26, .int .i64 k), (25, .slice a k cap)]) (fun _ => []) (fun x => x.2.2.2)
      (fun x => x.1 ≤ k ∧ Same h x.2.2.2 ∧ Own h.n x.2.1 ∧ Sv x.2.2.2 5 1 x.2.1 (ls.take x.1).flatten.length x.2.2.1 ((ls.take x.1).flatten.map bv)) (fun x => k - x.1) (0, b, c1, h1) ?_ ?_ rfl rfl ?_
    · exact ⟨Nat.zero_le _, s1, ob, hb⟩
    · exact ⟨rfl, rfl, rfl, rfl, trivial⟩
    · clear hb ob s1
      rintro ⟨j, b, c2, h2⟩ ⟨hj, s2, ob, hb⟩
      simp only at hj s2 ob hb ⊢
      rcases Nat.lt_or_ge j k with hlt | hge2
      · obtain ⟨zs, hzs⟩ : ∃ zs, ls[j]? = some zs := ⟨_, List.getElem?_eq_getElem (by omega)⟩
        obtain ⟨a1, c1, hcell, hz⟩ := hA j zs hzs
        have hst := flat_take hzs
        have hle := flat_le ls (j + 1)
        have hv2 := hv.same s2
        have hz2 := hz.same s2
        rw [hst, List.length_append] at hle
        (refine Go.run (g:=?_))
        refine GoR.appendV rfl rfl rfl rfl rfl rfl hb hz2 (Own.ok ob (by omega)) (by omega) (by omega) (hone _) ?_
        intro b3 c3 h3 hb3 k3 o3
        (refine Go.run (g:=?_))
        refine Go.again (j + 1, b3, c3, h3) ⟨hlt, s2.ownO k3 ob (by omega), ob.app s2.1 o3, ?_⟩ (by simp only; omega) ⟨rfl, ?_, rfl, rfl, trivial⟩ rfl rfl
        · simp only [hst, List.length_append, List.map_append]
          exact hb3
        · simp only [hst, List.length_append]
          rfl
      · obtain rfl : j = k := by omega
        rw [ht] at hb ⊢
        (refine Go.run (g:=?_))
        (first|refine Go.finT (by first|exact .inr rfl|exact .inl rfl) rfl ?_|refine Go.fin1 (by first|exact .inr rfl|exact .inl rfl) rfl (hq:=?_))
        exact ⟨b, c2, rfl, hb, ob⟩
end Go.Proofs.Ytmelgnpogdilgaa

/- head and its definition: contracts on the abstract heap (2). No conditions. -/
namespace Go.Proofs.Ytmelgnpogdilgaa
set_option linter.unusedVariables false
set_option maxRecDepth 100000
attribute [local irreducible] Go GoR GoL
theorem crcSum_n (a : Option Addr) (cap : Nat) (zs : List UInt8) (n : Nat) (hn : zs.length = n) (hl : n ≤ 1000000000) (h : AHeap) (hz : Rv Try.prog h 1 a n cap (zs.map bv)) : CallS Try.prog [] 70 [.slice a n cap] h fun v h' => v = .int .u32 (Crc.sum zs : Nat) := by
  subst hn
  exact crcSum_spec a cap zs hl h hz
theorem refSum_n (a : Option Addr) (cap : Nat) (zs : List UInt8) (n : Nat) (hn : zs.length = n) (hl : n ≤ 1000000000) (h : AHeap) (hz : Rv Try.prog h 1 a n cap (zs.map bv)) : CallS Try.prog [] 50 [.slice a n cap] h fun v h' => v = .int .u32 (Crc.sum zs : Nat) := by
  subst hn
  exact refSum_spec a cap zs hl h hz
theorem crcMore_n (s : Nat) (hs : s < 4294967296) (a : Option Addr) (cap : Nat) (zs : List UInt8) (n : Nat) (hn : zs.length = n) (hl : n ≤ 1000000000) (h : AHeap) (hz : Rv Try.prog h 1 a n cap (zs.map bv)) : CallS Try.prog [] 69 [.int .u32 s, .slice a n cap] h fun v h' => v = .int .u32 (Crc.more s zs : Nat) := by
  subst hn
  exact crcMore_spec s hs a cap zs hl h hz
theorem number_n (a : Option Addr) (cap : Nat) (zs : List UInt8) (n : Nat) (hn : zs.length = n) (hl : n ≤ 4) (h : AHeap) (hz : Rv Try.prog h 1 a n cap (zs.map bv)) : CallS Try.prog [] 51 [.slice a n cap] h fun v h' => v = .int .u32 (beNum zs : Nat) := by
  subst hn
  exact number_spec a cap zs hl h hz
theorem refNumber_n (a : Option Addr) (cap : Nat) (zs : List UInt8) (n : Nat) (hn : zs.length = n) (hl : n ≤ 4) (h : AHeap) (hz : Rv Try.prog h 1 a n cap (zs.map bv)) : CallS Try.prog [] 52 [.slice a n cap] h fun v h' => v = .int .u64 (beNum zs : Nat) := by
  subst hn
  exact refNumber_spec a cap zs hl h hz
theorem clone_n (a : Option Addr) (cap : Nat) (zs : List UInt8) (n : Nat) (hn : zs.length = n) (hl : n ≤ 1000000000) (h : AHeap) (hz : Rv Try.prog h 1 a n cap (zs.map bv)) : CallS Try.prog [] 45 [.slice a n cap] h fun v h' => OwnS h h' v zs := by
  subst hn
  exact clone_spec a cap zs hl h hz
theorem zeros4 : (List.replicate 4 (Value.int .u8 0)) = (([0, 0, 0, 0] : List UInt8).map bv) := rfl
set_option maxHeartbeats 4000000 in
theorem sum_spec (a : Option Addr) (cap : Nat) (zs : List UInt8) (h12 : 12 ≤ zs.length) (hl : zs.length ≤ 1000000) (h : AHeap) (hz : Rv Try.prog h 1 a zs.length cap (zs.map bv)) : CallS Try.prog [] 48 [.slice a zs.length cap] h fun v h' => v = .int .u32 (headSum zs : Nat) := by
  generalize hlen : zs.length = len at *
  (refine CallS.of1 Try.func48 rfl Try.ntmps48 Try.results48 rfl ?_)
  (refine Go.run (g:=?_))
  refine GoR.bHi (r := 8) rfl rfl rfl rfl rfl rfl hz (by omega) ?_
  intro a1 hz1 _
  (refine Go.run (g:=?_))
  refine GoR.call rfl rfl rfl rfl rfl rfl rfl (((crcSum_n a1 cap (zs.take 8) 8 (by simp; omega) (by omega) _ hz1).args (by first | rfl | (simp; fail_if_success focus skip) | (simp; omega) | (congr 2; omega))).mono ?_)
  rintro _ h1 rfl s1
  (refine Go.run (g:=?_))
  refine GoR.makeO (l := 4) (c := 4) rfl rfl rfl rfl rfl rfl rfl (by decide) (by decide) ?_
  intro b h2 hb ob s2 n2
  (refine Go.run (g:=?_))
  refine GoR.call rfl rfl rfl rfl rfl rfl rfl (((crcMore_n (Crc.sum (zs.take 8)) (Crc.more_lt _ _) b 4 [0, 0, 0, 0] 4 rfl (by omega) _ (Sv.rv hb)).args (by first | rfl | (simp; fail_if_success focus skip) | (simp; omega) | (congr 2; omega))).mono ?_)
  rintro _ h3 rfl s3
  (refine Go.run (g:=?_))
  have hz3 := ((hz.same s1).same s2).same s3
  refine GoR.bLo (l := 12) rfl rfl rfl rfl rfl rfl hz3 (by omega) ?_
  intro a4 hz4 _
  (refine Go.run (g:=?_))
  have e4 : ((zs.drop 12).take (len - 12)) = zs.drop 12 := List.take_of_length_le (by simp; omega)
  rw [e4] at hz4
  refine GoR.call rfl rfl rfl rfl rfl rfl rfl (((crcMore_n (Crc.more (Crc.sum (zs.take 8)) [0, 0, 0, 0]) (Crc.more_lt _ _) a4 (cap - 12) (zs.drop 12) (len - 12) (by simp; omega) (by omega) _ hz4).args (by first | rfl | (simp; fail_if_success focus skip) | (simp; omega) | (congr 2; omega))).mono ?_)
  rintro _ h5 rfl s5
  (refine Go.run (g:=?_))
  (first|refine Go.finT (by first|exact .inr rfl|exact .inl rfl) rfl ?_|refine Go.fin1 (by first|exact .inr rfl|exact .inl rfl) rfl (hq:=?_))
  rw [← headSum_eq]
  rfl
theorem GoL.callS {P : Program} {W : Nat → Prop} {q : Bool} {N : Nat} {k : List It} {ov : Ov} {df : List Nat} {h : AHeap} {Q : PQ} {ops : Array Oper} {os : List Oper} {o : Oper} {d : Nat} {tr : List (Option LE)} {f : Operand} {xs : Array Operand} {ts : Array TypeId} {g : FuncId} {first cap : Array Value} {us : List Value} (ho : o.op = .call ⟨.value f, xs, ts⟩) (hd : o.dst = some d) (hN : dOk d N = true) (hgd : o.guard = none) (hf : evO ov f = some (.func (.func g) first cap)) (hx : evOs ov xs.toList = some us) (hc : calls P g = true)
    (hk : CallS P [] g (first.toList ++ us ++ cap.toList) h fun v h' => Same h h' → GoL P W q N ops (tr ++ [some ⟨h.n, h'.n, [], [], true, false⟩]) os k ((d, v) :: ov) df h' Q) : GoL P W q N ops tr (o :: os) k ov df h Q :=
  GoL.call (wr := []) ho hd hN hgd hf hx hc (hk.mono fun v h' g kp => ⟨fun i hi => absurd hi List.not_mem_nil, g ⟨kp.1, fun i hi => kp.2 i hi List.not_mem_nil⟩⟩)
/-- A header, by value. -/
abbrev hdV (f t g : Nat) : Value := .agg #[.int .u16 f, .int .u16 t, .int .u32 g]
theorem headPut_err1 (f t g : Nat) (a : Option Addr) (n cap : Nat) (hb : n % 4 ≠ 0) (h : AHeap) : CallS Try.prog [] 24 [hdV f t g, .slice a n cap] h fun v h' => v = .tuple #[.slice none 0 0, .int .i64 32] := by
  (refine CallS.of2 Try.func24 rfl Try.ntmps24 Try.results24 rfl ?_)
  (refine Go.run (g:=?_))
  (first|refine Go.finT (by first|exact .inr rfl|exact .inl rfl) rfl ?_|refine Go.fin1 (by first|exact .inr rfl|exact .inl rfl) rfl (hq:=?_))
  rfl
theorem headPut_err2 (f t g : Nat) (a : Option Addr) (n cap : Nat) (hb : n % 4 = 0) (hn : 1488 < n) (h : AHeap) : CallS Try.prog [] 24 [hdV f t g, .slice a n cap] h fun v h' => v = .tuple #[.slice none 0 0, .int .i64 3] := by
  (refine CallS.of2 Try.func24 rfl Try.ntmps24 Try.results24 rfl ?_)
  (refine Go.run (g:=?_))
  (first|refine Go.finT (by first|exact .inr rfl|exact .inl rfl) rfl ?_|refine Go.fin1 (by first|exact .inr rfl|exact .inl rfl) rfl (hq:=?_))
  rfl
theorem hbytes_take (f t g s : Nat) (v : List UInt8) : (hbytes f t g s v).take 8 = beB 2 f ++ beB 2 t ++ beB 4 g := by
  unfold hbytes
  rw [List.append_assoc (beB 2 f ++ beB 2 t ++ beB 4 g), List.take_append_of_le_length (by simp [beB_length]), List.take_of_length_le (by simp [beB_length])]
theorem hbytes_drop (f t g s : Nat) (v : List UInt8) : (hbytes f t g s v).drop 12 = v := by
  unfold hbytes
  rw [List.drop_append]
  simp [beB_length]
theorem headSum_hbytes (f t g s : Nat) (v : List UInt8) : headSum (hbytes f t g s v) = Crc.sum (hbytes f t g 0 v) := by
  unfold headSum
  rw [hbytes_take, hbytes_drop]
  rfl
theorem hbytes_set (f t g s : Nat) (v : List UInt8) : setL ((hbytes f t g 0 v).map bv) (8 * 1) (((beB 4 s).map bv).take (min 4 (12 - 8))) = (hbytes f t g s v).map bv := by
  unfold hbytes
  rw [List.append_assoc (beB 2 f ++ beB 2 t ++ beB 4 g), List.map_append, setL_tail _ _ _ (by simp [beB_length]), List.take_of_length_le (by simp [beB_length]), List.map_append (l₁ := beB 4 0), List.drop_append_of_le_length (by simp [beB_length]), List.drop_of_length_le (by simp [beB_length])]
  simp
set_option maxHeartbeats 4000000 in
theorem headPut_ok (f t g : Nat) (hf : f < 65536) (ht : t < 65536) (hg : g < 4294967296) (a : Option Addr) (n cap : Nat) (zs : List UInt8) (hlen : zs.length = n) (hb : n % 4 = 0) (hn : n ≤ 1488) (h : AHeap) (hz : Rv Try.prog h 1 a n cap (zs.map bv)) : CallS Try.prog [] 24 [hdV f t g, .slice a n cap] h fun v h' => OwnE h h' v (hput f t g zs) := by
  have e := or_of_lt (a := f) (n := 16) ht
  (refine CallS.of2 Try.func24 rfl Try.ntmps24 Try.results24 rfl ?_)
  (refine Go.run (g:=?_))
  rw [e]
  refine GoR.call rfl rfl rfl rfl rfl rfl rfl (((four_spec (f * 2 ^ 16 + t) (by omega) _).args (by first | rfl | (simp; fail_if_success focus skip) | (simp; omega) | (congr 2; omega))).mono ?_)
  rintro _ h1 ⟨b1, c1, rfl, hb1, ob1⟩ s1
  simp only [beB_length] at hb1 ⊢
  (refine Go.run (g:=?_))
  refine GoR.call rfl rfl rfl rfl rfl rfl rfl (((four_spec g hg _).args (by first | rfl | (simp; fail_if_success focus skip) | (simp; omega) | (congr 2; omega))).mono ?_)
  rintro _ h2 ⟨b2, c2, rfl, hb2, ob2⟩ s2
  simp only [beB_length] at hb2 ⊢
  (refine Go.run (g:=?_))
  refine GoR.makeO (l := 4) (c := 4) rfl rfl rfl rfl rfl rfl rfl (by decide) (by decide) ?_
  intro b3 h3 hb3 ob3 s3 n3
  (refine Go.run (g:=?_))
  refine GoR.buildO (c := [.slice b1 4 c1, .slice b2 4 c2, .slice b3 4 4, .slice a n cap]) rfl rfl rfl rfl rfl (by decide) (by rfl) (by rfl) ?_
  intro b4 h4 hb4 ob4 s4 n4
  have S4 : True → Same h h4 := fun _ => (((((Same.refl h).push _).trans s1).trans s2).trans s3).trans s4
  have hA : SlAll Try.prog h4 [.slice b1 4 c1, .slice b2 4 c2, .slice b3 4 4, .slice a n cap] [beB 4 (f * 2 ^ 16 + t), beB 4 g, [0, 0, 0, 0], zs] := by
    refine ⟨rfl, fun i l hi => ?_⟩
    match i, hi with
    | 0, hi => cases hi; exact ⟨b1, c1, rfl, (((hb1.same s2).same s3).same s4).rv⟩
    | 1, hi => cases hi; exact ⟨b2, c2, rfl, ((hb2.same s3).same s4).rv⟩
    | 2, hi => cases hi; exact ⟨b3, 4, rfl, (hb3.same s4).rv⟩
    | 3, hi => cases hi; exact ⟨a, cap, by rw [hlen]; rfl, by rw [hlen]; exact hz.same (S4 trivial)⟩
  have hfl : [beB 4 (f * 2 ^ 16 + t), beB 4 g, [0, 0, 0, 0], zs].flatten = hbytes f t g 0 zs := by
    have e0 : beB 4 0 = [0, 0, 0, 0] := rfl
    have e1 := beB4_split f t ht
    rw [show f * 2 ^ 16 = f * 65536 from rfl, e1]
    simp [hbytes, e0]
  refine GoR.call rfl rfl rfl rfl rfl rfl rfl (((concat_spec b4 4 [.slice b1 4 c1, .slice b2 4 c2, .slice b3 4 4, .slice a n cap] _ (show 4 ≤ 1000 by decide) (by rw [hfl, hbytes_length]; omega) _ hA (Sv.rv hb4)).args (by first | rfl | (simp; fail_if_success focus skip) | (simp; omega) | (congr 2; omega))).mono ?_)
  rintro _ h5 ⟨b6, c6, rfl, hb6, ob6⟩ s5
  rw [hfl, hbytes_length, hlen] at hb6 ⊢
  clear hA hb1 hb2 hb3 hb4 ob1 ob2 ob3 ob4
  have S5 : True → Same h h5 := fun _ => (S4 trivial).trans s5
  have hn4 := (S4 trivial).1
  have hn5 := s5.1
  clear s1 s2 s3 s4 s5 S4 n3 n4
  (refine Go.run (g:=?_))
  refine Go.loud (by kernel_rfl) rfl ?_
  (refine Go.runL (g:=?_))
  refine GoL.sliceV (lo' := some (.int .i64 8)) (hi' := some (.int .i64 12)) (l := 8) (r := 12) rfl rfl rfl rfl rfl rfl rfl (Sv.rv hb6) rfl rfl (by omega) (by have := hb6.le; omega) ?_
  (refine Go.runL (g:=?_))
  have hbl := hbytes_length f t g 0 zs
  have hsum := sum_spec b6 c6 (hbytes f t g 0 zs) (by omega) (by omega) h5 (by rw [hbl, hlen]; exact Sv.rv hb6)
  rw [hbl, hlen] at hsum
  refine GoL.callS rfl rfl rfl rfl rfl rfl rfl (((hsum).args (by first | rfl | (simp; fail_if_success focus skip) | (simp; omega) | (congr 2; omega))).mono ?_)
  rintro _ h7 rfl s7
  (refine Go.runL (g:=?_))
  rw [headSum_hbytes]
  have hsl : Crc.sum (hbytes f t g 0 zs) < 4294967296 := Crc.more_lt _ _
  refine GoL.callS rfl rfl rfl rfl rfl rfl rfl (((four_spec (Crc.sum (hbytes f t g 0 zs)) hsl _).args (by first | rfl | (simp; fail_if_success focus skip) | (simp; omega) | (congr 2; omega))).mono ?_)
  rintro _ h8 ⟨b8, c8, rfl, hb8, ob8⟩ s8
  simp only [beB_length] at hb8 ⊢
  (refine Go.runL (g:=?_))
  have hb6' := (hb6.same s7).same s8
  have hn7 := s7.1
  have hn8 := s8.1
  refine GoL.copySub (kk := 8 * 1) (len' := 12 - 8) (cap₂ := c6 - 8) rfl rfl rfl rfl rfl rfl hb6' (by omega) (Sv.rv hb8) (Own.ok ob6 (by omega)) (by simp [bv, Value.oneCell']) ?_
  intro h9 rd wr hwr hrd hb9 k9 n9
  clear hb6 hsum
  (refine GoL.end_ (g:=?_))
  (refine Go.run (g:=?_))
  (first|refine Go.finT (by first|exact .inr rfl|exact .inl rfl) rfl ?_|refine Go.fin1 (by first|exact .inr rfl|exact .inl rfl) rfl (hq:=?_))
  have hL : (hput f t g zs).length = 12 + n := by rw [hput, hbytes_length, hlen]
  refine ⟨b6, c6, by rw [hL]; rfl, ?_, ob6.mono (by omega)⟩
  rw [hL]
  rw [hbytes_set] at hb9
  exact hb9
end Go.Proofs.Ytmelgnpogdilgaa

/- head and its definition: contracts on the abstract heap (3). No conditions. -/
namespace Go.Proofs.Ytmelgnpogdilgaa
set_option linter.unusedVariables false
set_option maxRecDepth 100000
attribute [local irreducible] Go GoR GoL
set_option maxHeartbeats 4000000 in
theorem headTake_err (a : Option Addr) (n cap : Nat) (hn : n ≤ 1000000) (h : AHeap) (x : Nat) (hx : 1500 < n ∧ x = 3 ∨ n < 12 ∧ x = 30 ∨ 12 ≤ n ∧ n ≤ 1500 ∧ n % 4 ≠ 0 ∧ x = 32) : CallS Try.prog [] 26 [.slice a n cap] h fun v h' => v = .tuple #[hdV 0 0 0, .slice none 0 0, .int .i64 x] := by
  rcases hx with ⟨g1, rfl⟩ | ⟨g1, rfl⟩ | ⟨g1, g2, g3, rfl⟩
  all_goals
    (refine CallS.of1 Try.func26 rfl Try.ntmps26 Try.results26 rfl ?_)
    (refine Go.run (g:=?_))
    (refine Go.fin (by first|exact .inr rfl|exact .inl rfl) (.cellN rfl inferInstance (by (first | assumption | exact AHeap.get_push_same _ _ | ((repeat first | exact AHeap.get_push_same _ _ | assumption | refine get_push_lt ?_ | exact AHeap.get_put_same _ (by simp only [AHeap.n_push, AHeap.n_put]; omega) _ | exact get_put_self (by assumption) | apply get_put_self | refine get_put_other (by first | omega | (simp only [AHeap.n_push, AHeap.n_put]; omega)) ?_ | refine Same.get (by assumption) ?_ | refine Keeps.get (by assumption) ?_ (fun hi => by have hx := Own.out (by assumption) hi; omega)) ; fail_if_success focus skip) | fail)) (by first | exact Nat.le_refl _ | (simp [setL, cellsL]; fail_if_success focus skip) | (simp; omega)) rfl (.tmp rfl (.tmp rfl .nil))) ?_)
    rfl
set_option maxHeartbeats 4000000 in
theorem headTake_sum (a : Option Addr) (n cap : Nat) (zs : List UInt8) (hlen : zs.length = n) (h12 : 12 ≤ n) (hn : n ≤ 1500) (h4 : n % 4 = 0) (h : AHeap) (hz : Rv Try.prog h 1 a n cap (zs.map bv)) (hne : beNum ((zs.drop 8).take 4) ≠ headSum zs) : CallS Try.prog [] 26 [.slice a n cap] h fun v h' => v = .tuple #[hdV 0 0 0, .slice none 0 0, .int .i64 (31 : Nat)] := by
  (refine CallS.of1 Try.func26 rfl Try.ntmps26 Try.results26 rfl ?_)
  (refine Go.run (g:=?_))
  have hz1 := hz.push (.cells [.int .u16 (0 : Nat), .int .u16 (0 : Nat), .int .u32 (0 : Nat)] 46)
  refine GoR.bLH (l := 8) (r := 12) rfl rfl rfl rfl rfl rfl rfl hz1 (by omega) (by omega) ?_
  intro a1 hz2 _
  (refine Go.run (g:=?_))
  refine GoR.call rfl rfl rfl rfl rfl rfl rfl (((number_n a1 (cap - 8) ((zs.drop 8).take 4) 4 (by simp; omega) (by omega) _ hz2).args (by first | rfl | (simp; fail_if_success focus skip) | (simp; omega) | (congr 2; omega))).mono ?_)
  rintro _ h1 rfl s1
  (refine Go.run (g:=?_))
  have hz3 := hz1.same s1
  have hsum := sum_spec a cap zs (by omega) (by omega) _ (by rw [hlen]; exact hz3)
  rw [hlen] at hsum
  refine GoR.call rfl rfl rfl rfl rfl rfl rfl (((hsum).args (by first | rfl | (simp; fail_if_success focus skip) | (simp; omega) | (congr 2; omega))).mono ?_)
  rintro _ h2 rfl s2
  have G2 : h2.get h.n = some (.cells [.int .u16 (0 : Nat), .int .u16 (0 : Nat), .int .u32 (0 : Nat)] 46) := Same.get s2 (Same.get s1 (AHeap.get_push_same _ _))
  (refine Go.run (g:=?_))
  (refine Go.fin (by first|exact .inr rfl|exact .inl rfl) (.cellN rfl inferInstance (by (first | assumption | exact AHeap.get_push_same _ _ | ((repeat first | exact AHeap.get_push_same _ _ | assumption | refine get_push_lt ?_ | exact AHeap.get_put_same _ (by simp only [AHeap.n_push, AHeap.n_put]; omega) _ | exact get_put_self (by assumption) | apply get_put_self | refine get_put_other (by first | omega | (simp only [AHeap.n_push, AHeap.n_put]; omega)) ?_ | refine Same.get (by assumption) ?_ | refine Keeps.get (by assumption) ?_ (fun hi => by have hx := Own.out (by assumption) hi; omega)) ; fail_if_success focus skip) | fail)) (by first | exact Nat.le_refl _ | (simp [setL, cellsL]; fail_if_success focus skip) | (simp; omega)) rfl (.tmp rfl (.tmp rfl .nil))) ?_)
  rfl
set_option maxHeartbeats 4000000 in
theorem headTake_ok (a : Option Addr) (n cap : Nat) (zs : List UInt8) (hlen : zs.length = n) (h12 : 12 ≤ n) (hn : n ≤ 1500) (h4 : n % 4 = 0) (h : AHeap) (hz : Rv Try.prog h 1 a n cap (zs.map bv)) (hne : beNum ((zs.drop 8).take 4) = headSum zs) : CallS Try.prog [] 26 [.slice a n cap] h fun v h' => ∃ b c, v = .tuple #[hdV (beNum (zs.take 2)) (beNum ((zs.drop 2).take 2)) (beNum ((zs.drop 4).take 4)), .slice b (n - 12) c, .int .i64 (0 : Nat)] ∧ Sv h' 5 1 b (n - 12) c ((zs.drop 12).map bv) ∧ Own h.n b := by
  (refine CallS.of1 Try.func26 rfl Try.ntmps26 Try.results26 rfl ?_)
  (refine Go.run (g:=?_))
  have hz1 := hz.push (.cells [.int .u16 (0 : Nat), .int .u16 (0 : Nat), .int .u32 (0 : Nat)] 46)
  refine GoR.bLH (l := 8) (r := 12) rfl rfl rfl rfl rfl rfl rfl hz1 (by omega) (by omega) ?_
  intro a1 hz2 _
  (refine Go.run (g:=?_))
  refine GoR.call rfl rfl rfl rfl rfl rfl rfl (((number_n a1 (cap - 8) ((zs.drop 8).take 4) 4 (by simp; omega) (by omega) _ hz2).args (by first | rfl | (simp; fail_if_success focus skip) | (simp; omega) | (congr 2; omega))).mono ?_)
  rintro _ h1 rfl s1
  (refine Go.run (g:=?_))
  have hz3 := hz1.same s1
  have hsum := sum_spec a cap zs (by omega) (by omega) _ (by rw [hlen]; exact hz3)
  rw [hlen] at hsum
  refine GoR.call rfl rfl rfl rfl rfl rfl rfl (((hsum).args (by first | rfl | (simp; fail_if_success focus skip) | (simp; omega) | (congr 2; omega))).mono ?_)
  rintro _ h2 rfl s2
  have hz4 := hz3.same s2
  rw [hne]
  (refine Go.run (g:=?_))
  have hlt : ∀ i ∈ blk a, i < h.n := hz.lt
  have n1 := s1.1
  have n2 := s2.1
  simp only [AHeap.n_push] at n1
  have G2 : h2.get h.n = some (.cells [.int .u16 (0 : Nat), .int .u16 (0 : Nat), .int .u32 (0 : Nat)] 46) := Same.get s2 (Same.get s1 (AHeap.get_push_same _ _))
  clear hz2 hz3 hsum hz1
  refine Go.loud (by kernel_rfl) rfl ?_
  (refine Go.runL (g:=?_))
  refine GoL.bHi (r := 2) rfl rfl rfl rfl rfl rfl hz4 (by omega) ?_
  intro a3 hz5 _
  (refine Go.runL (g:=?_))
  refine GoL.callS rfl rfl rfl rfl rfl rfl rfl (((number_n a3 cap (zs.take 2) 2 (by simp; omega) (by omega) _ hz5).args (by first | rfl | (simp; fail_if_success focus skip) | (simp; omega) | (congr 2; omega))).mono ?_)
  rintro _ h3 rfl s3
  (refine Go.runL (g:=?_))
  have hz6 := hz4.same s3
  refine GoL.bLH (l := 2) (r := 4) rfl rfl rfl rfl rfl rfl rfl hz6 (by omega) (by omega) ?_
  intro a4 hz7 _
  (refine Go.runL (g:=?_))
  refine GoL.callS rfl rfl rfl rfl rfl rfl rfl (((number_n a4 (cap - 2) ((zs.drop 2).take 2) 2 (by simp; omega) (by omega) _ hz7).args (by first | rfl | (simp; fail_if_success focus skip) | (simp; omega) | (congr 2; omega))).mono ?_)
  rintro _ h4 rfl s4
  (refine Go.runL (g:=?_))
  have hz8 := hz6.same s4
  refine GoL.bLH (l := 4) (r := 8) rfl rfl rfl rfl rfl rfl rfl hz8 (by omega) (by omega) ?_
  intro a5 hz9 _
  (refine Go.runL (g:=?_))
  refine GoL.callS rfl rfl rfl rfl rfl rfl rfl (((number_n a5 (cap - 4) ((zs.drop 4).take 4) 4 (by simp; omega) (by omega) _ hz9).args (by first | rfl | (simp; fail_if_success focus skip) | (simp; omega) | (congr 2; omega))).mono ?_)
  rintro _ h5 rfl s5
  (refine Go.runL (g:=?_))
  have hz10 := hz8.same s5
  refine GoL.bLo (l := 12) rfl rfl rfl rfl rfl rfl hz10 (by omega) ?_
  intro a6 hz11 hb6
  (refine Go.runL (g:=?_))
  have e6 : ((zs.drop 12).take (n - 12)) = zs.drop 12 := List.take_of_length_le (by simp; omega)
  rw [e6] at hz11
  refine GoL.callR (blk a) rfl rfl rfl rfl rfl rfl rfl (((clone_n a6 (cap - 12) (zs.drop 12) (n - 12) (by simp; omega) (by omega) _ (hz11.restr (blk a) hb6)).args rfl).mono ?_)
  rintro _ h6 ⟨b6, c6, rfl, hs6, ob6⟩ h7 nw
  rw [restr_n] at ob6
  have m3 := s3.1
  have m4 := s4.1
  have m5 := s5.1
  have m7 := nw.same.1
  have G7 : h7.get h.n = some (.cells [.int .u16 (0 : Nat), .int .u16 (0 : Nat), .int .u32 (0 : Nat)] 46) := Same.get nw.same (Same.get s5 (Same.get s4 (Same.get s3 G2)))
  have hs7 := nw.sv hs6 ob6
  (refine Go.runL (g:=?_))
  refine GoL.store rfl rfl rfl rfl rfl G7 rfl rfl (Nat.le_refl 3) rfl rfl (.inr (Nat.le_refl _)) ?_
  (refine Go.runL (g:=?_))
  refine GoL.end (by
    simp only [List.nil_append, List.cons_append]
    repeat (first | exact loudP.nil | refine loudP.none ?_ | refine loudP.new (fun _ hb => absurd hb List.not_mem_nil) ?_ | refine loudP.row (by repeat (first | exact loudRowP.nil | refine loudRowP.none ?_ | refine loudRowP.bef (by decide +kernel) ?_ | refine loudRowP.apart (.inr (by simp)) rfl (by intro i hi; simp only [List.mem_singleton] at hi; subst hi; exact ⟨fun hm => absurd (hlt _ hm) (Nat.lt_irrefl _), List.not_mem_nil, .inl (by omega)⟩) ?_)) ?_)) ?_
  (refine Go.run (g:=?_))
  refine Go.fin (.inr rfl) (.cellN rfl inferInstance (get_put_self G7) (Nat.le_refl 3) rfl (.tmp rfl (.tmp rfl .nil))) ?_
  have l6 : (zs.drop 12).length = n - 12 := by simp; omega
  have v0 : beNum (zs.take 2) < 65536 := beNum_lt_of (k := 2) (by simp; omega) rfl
  have v1 : beNum ((zs.drop 2).take 2) < 65536 := beNum_lt_of (k := 2) (by simp; omega) rfl
  rw [l6] at hs7 ⊢
  refine ⟨b6, c6, ?_, hs7.put (fun hm => by have := ob6 _ hm; omega) _, ob6.mono (by omega)⟩
  show Value.tuple #[.agg #[.int .u16 ((beNum (zs.take 2) % 65536 : Nat) : Int), .int .u16 ((beNum ((zs.drop 2).take 2) % 65536 : Nat) : Int), .int .u32 ((beNum ((zs.drop 4).take 4) : Nat) : Int)], .slice b6 (n - 12) c6, .int .i64 0] = _
  rw [Nat.mod_eq_of_lt v0, Nat.mod_eq_of_lt v1]
  rfl
end Go.Proofs.Ytmelgnpogdilgaa

/- head: plain: bytes and numbers, there and back. No conditions. -/
namespace Go.Proofs.Ytmelgnpogdilgaa
set_option linter.unusedVariables false
theorem oneBv (l : List UInt8) : (l.map bv).all Value.oneCell' = true := by simp [bv, Value.oneCell']
theorem Rv.put {P : Program} {h : AHeap} {sz len cap b : Nat} {a : Option Addr} {cs : List Value} (k : Rv P h sz a len cap cs) (hb : b ∉ blk a) (o : Option AObj) : Rv P (h.put b o) sz a len cap cs := by
  cases k with
  | nil => exact .nil
  | mk hg ho hl hc => exact .mk (by rw [AHeap.get_put_ne _ _ (fun e => hb (by simp [blk, e]))]; exact hg) ho hl hc
theorem beNum_nil : beNum [] = 0 := rfl
theorem beB_succ (n x : Nat) : beB (n + 1) x = beB n (x / 256) ++ [UInt8.ofNat x] := by
  unfold beB
  rw [List.range_succ, List.map_append]
  congr 1
  · apply List.map_congr_left
    intro j hj
    simp only [List.mem_range] at hj
    congr 1
    rw [Nat.div_div_eq_div_mul]
    congr 1
    rw [Nat.mul_comm, ← Nat.pow_succ]
    congr 1
    omega
  · simp
theorem beB_beNum (l : List UInt8) : beB l.length (beNum l) = l := by
  have h : ∀ r : List UInt8, beB r.reverse.length (beNum r.reverse) = r.reverse := by
    intro r
    induction r with
    | nil => rfl
    | cons c r ih =>
      rw [List.reverse_cons, beNum_snoc, List.length_append]
      have hc := c.toNat_lt
      show beB (r.reverse.length + 1) _ = _
      rw [beB_succ]
      have e1 : (beNum r.reverse * 256 + c.toNat) / 256 = beNum r.reverse := by omega
      have e2 : UInt8.ofNat (beNum r.reverse * 256 + c.toNat) = c := by
        apply UInt8.toNat_inj.1
        simp only [UInt8.toNat_ofNat']
        omega
      rw [e1, e2, ih]
  have := h l.reverse
  simpa using this
theorem beB_beNum_n {n : Nat} {l : List UInt8} (h : l.length = n) : beB n (beNum l) = l := by subst h; exact beB_beNum l
theorem beNum_beB (n x : Nat) (h : x < 256 ^ n) : beNum (beB n x) = x := by
  induction n generalizing x with
  | zero => simp at h; subst h; rfl
  | succ n ih =>
    rw [beB_succ, beNum_snoc, ih (x / 256) (by rw [Nat.pow_succ] at h; omega)]
    simp only [UInt8.toNat_ofNat']
    omega
theorem beNum_inj {a b : List UInt8} (hl : a.length = b.length) (h : beNum a = beNum b) : a = b := by
  have := beB_beNum a
  rw [h, hl, beB_beNum] at this
  exact this.symm
/-- A packet's parts. -/
theorem hbytes_parts (zs : List UInt8) (h : 12 ≤ zs.length) : zs = (zs.take 2) ++ (zs.drop 2).take 2 ++ (zs.drop 4).take 4 ++ (zs.drop 8).take 4 ++ zs.drop 12 := by
  have e : ∀ (k j : Nat), zs.drop k = (zs.drop k).take j ++ zs.drop (k + j) := fun k j => by
    rw [← List.drop_drop]; exact (List.take_append_drop _ _).symm
  conv => lhs; rw [← List.take_append_drop 2 zs, e 2 2, e 4 4, e 8 4]
  simp
theorem hbytes_of (zs : List UInt8) (h : 12 ≤ zs.length) : hbytes (beNum (zs.take 2)) (beNum ((zs.drop 2).take 2)) (beNum ((zs.drop 4).take 4)) (beNum ((zs.drop 8).take 4)) (zs.drop 12) = zs := by
  unfold hbytes
  rw [beB_beNum_n (by simp; omega), beB_beNum_n (by simp; omega), beB_beNum_n (by simp; omega), beB_beNum_n (by simp; omega)]
  exact (hbytes_parts zs h).symm
theorem headSum_of (zs : List UInt8) (h : 12 ≤ zs.length) : headSum zs = Crc.sum (hbytes (beNum (zs.take 2)) (beNum ((zs.drop 2).take 2)) (beNum ((zs.drop 4).take 4)) 0 (zs.drop 12)) := by
  unfold headSum hbytes
  rw [beB_beNum_n (by simp; omega), beB_beNum_n (by simp; omega), beB_beNum_n (by simp; omega)]
  congr 1
  have e : zs.take 8 = zs.take 2 ++ (zs.drop 2).take 2 ++ (zs.drop 4).take 4 := by
    rw [← List.take_add, ← List.take_add]
  rw [e]
  congr 1
theorem hbytes_inj_sum {f t g s s' : Nat} {v : List UInt8} (h1 : s < 4294967296) (h2 : s' < 4294967296) (h : hbytes f t g s v = hbytes f t g s' v) : s = s' := by
  unfold hbytes at h
  have h' := List.append_cancel_right h
  have h'' := List.append_cancel_left h'
  have := congrArg beNum h''
  rwa [beNum_beB 4 s (by simpa using h1), beNum_beB 4 s' (by simpa using h2)] at this
theorem headSum_lt (l : List UInt8) : headSum l < 4294967296 := Crc.more_lt _ _
theorem hput_of (zs : List UInt8) (h : 12 ≤ zs.length) : hput (beNum (zs.take 2)) (beNum ((zs.drop 2).take 2)) (beNum ((zs.drop 4).take 4)) (zs.drop 12) = zs ↔ beNum ((zs.drop 8).take 4) = headSum zs := by
  have hl : beNum ((zs.drop 8).take 4) < 4294967296 := beNum_lt_of (k := 4) (by simp; omega) rfl
  unfold hput
  rw [← headSum_of zs h]
  constructor
  · intro e
    have : hbytes (beNum (zs.take 2)) (beNum ((zs.drop 2).take 2)) (beNum ((zs.drop 4).take 4)) (headSum zs) (zs.drop 12) = hbytes (beNum (zs.take 2)) (beNum ((zs.drop 2).take 2)) (beNum ((zs.drop 4).take 4)) (beNum ((zs.drop 8).take 4)) (zs.drop 12) := by
      rw [e, hbytes_of zs h]
    exact (hbytes_inj_sum (headSum_lt _) hl this).symm
  · intro e
    rw [← e, hbytes_of zs h]
end Go.Proofs.Ytmelgnpogdilgaa

/- head: plain: what is otherwise within 32 bits, of the sum alone or of the rest alone, has another sum than it tells. No conditions. -/
namespace Go.Proofs.Ytmelgnpogdilgaa
set_option linter.unusedVariables false
def zero12 (l : List UInt8) : List UInt8 := l.take 8 ++ [0, 0, 0, 0] ++ l.drop 12
theorem headSum_zero (l : List UInt8) : headSum l = Crc.sum (zero12 l) := rfl
theorem zero12_len {l : List UInt8} (h : 12 ≤ l.length) : (zero12 l).length = l.length := by simp [zero12]; omega
theorem zero12_get {l : List UInt8} (h : 12 ≤ l.length) {q : Nat} (hq : q < 8 ∨ 12 ≤ q) : (zero12 l)[q]? = l[q]? := by
  unfold zero12
  rcases hq with hq | hq
  · rw [List.append_assoc, List.getElem?_append_left (by simp; omega), List.getElem?_take_of_lt hq]
  · rw [List.getElem?_append_right (by simp; omega)]
    simp only [List.length_append, List.length_take, List.length_cons, List.length_nil, List.getElem?_drop]
    congr 1
    omega
theorem zero12_set {l : List UInt8} (h : 12 ≤ l.length) {q : Nat} (hq : q < 8 ∨ 12 ≤ q) (x : UInt8) : zero12 (l.set q x) = (zero12 l).set q x := by
  apply List.ext_getElem?
  intro i
  have h' : 12 ≤ (l.set q x).length := by simpa using h
  have hz := zero12_len h
  by_cases hi : i < 8 ∨ 12 ≤ i
  · rw [zero12_get h' hi, List.getElem?_set, List.getElem?_set, zero12_get h hi, hz]
  · have hne : q ≠ i := by omega
    rw [List.getElem?_set_ne hne]
    unfold zero12
    have e1 : (List.take 8 (l.set q x)).length = 8 := by simp; omega
    have e2 : (List.take 8 l).length = 8 := by simp; omega
    rw [List.getElem?_append_left (by simp; omega), List.getElem?_append_right (by omega), List.getElem?_append_left (by simp; omega), List.getElem?_append_right (by omega), e1, e2]
structure Fl (l0 : List UInt8) (at_ t k : Nat) (l : List UInt8) (s r : Bool) : Prop where
  len : l.length = l0.length
  all : Crc.num l = Crc.num l0 ^^^ ((t % 2 ^ k) * 2 ^ at_)
  rest : s = false → (l.drop 8).take 4 = (l0.drop 8).take 4 ∧ Crc.num (zero12 l) = Crc.num (zero12 l0) ^^^ ((t % 2 ^ k) * 2 ^ at_)
  sum : r = false → l.take 8 = l0.take 8 ∧ l.drop 12 = l0.drop 12
theorem Fl.init (l0 : List UInt8) (at_ t : Nat) : Fl l0 at_ t 0 l0 false false := ⟨rfl, by simp [Nat.mod_one], fun _ => ⟨rfl, by simp [Nat.mod_one]⟩, fun _ => ⟨rfl, rfl⟩⟩
theorem mod_skip {t k : Nat} (h : t / 2 ^ k % 2 = 0) : t % 2 ^ (k + 1) = t % 2 ^ k := by rw [Crc.mod_succ_bit, h]; simp
theorem Fl.skip {l0 l : List UInt8} {at_ t k : Nat} {s r : Bool} (f : Fl l0 at_ t k l s r) (h : t / 2 ^ k % 2 = 0) : Fl l0 at_ t (k + 1) l s r := ⟨f.len, by rw [mod_skip h]; exact f.all, fun e => by rw [mod_skip h]; exact f.rest e, f.sum⟩
theorem drop_take_set {l : List UInt8} {q : Nat} (hq : q < 8 ∨ 12 ≤ q) (x : UInt8) : ((l.set q x).drop 8).take 4 = (l.drop 8).take 4 := by
  apply List.ext_getElem?
  intro i
  rw [List.getElem?_take, List.getElem?_take]
  split
  · rw [List.getElem?_drop, List.getElem?_drop, List.getElem?_set_ne (by omega)]
  · rfl
theorem Fl.step {l0 l : List UInt8} {at_ t k : Nat} {s r : Bool} (f : Fl l0 at_ t k l s r) (h12 : 12 ≤ l0.length) (h : t / 2 ^ k % 2 = 1) {q : Nat} (hq : q = (at_ + k) / 8) (hl : q < l.length) :
    Fl l0 at_ t (k + 1) (l.set q (l[q] ^^^ UInt8.ofNat (2 ^ ((at_ + k) % 8)))) (s || (decide (8 ≤ q) && decide (q < 12))) (r || decide (q < 8) || decide (12 ≤ q)) := by
  have hl12 : 12 ≤ l.length := by rw [f.len]; exact h12
  have st := Crc.burst_step l0 l at_ t k q ((at_ + k) % 8) hq rfl hl f.all
  rw [h, Nat.one_mul] at st
  refine ⟨by simp [f.len], st, fun e => ?_, fun e => ?_⟩
  · simp only [Bool.or_eq_false_iff, Bool.and_eq_false_iff, decide_eq_false_iff_not] at e
    have hq' : q < 8 ∨ 12 ≤ q := by omega
    obtain ⟨f1, f2⟩ := f.rest e.1
    refine ⟨by rw [drop_take_set hq', f1], ?_⟩
    have hz : q < (zero12 l).length := by rw [zero12_len hl12]; exact hl
    have st2 := Crc.burst_step (zero12 l0) (zero12 l) at_ t k q ((at_ + k) % 8) hq rfl hz f2
    rw [h, Nat.one_mul] at st2
    have hg : (zero12 l)[q] = l[q] := by
      have := zero12_get hl12 hq'
      rw [List.getElem?_eq_getElem hz, List.getElem?_eq_getElem hl] at this
      exact Option.some.inj this
    rw [zero12_set hl12 hq', ← hg]
    exact st2
  · simp only [Bool.or_eq_false_iff, decide_eq_false_iff_not] at e
    obtain ⟨f1, f2⟩ := f.sum e.1.1
    refine ⟨?_, ?_⟩
    · rw [← f1]
      apply List.ext_getElem?
      intro i
      rw [List.getElem?_take, List.getElem?_take]
      split
      · rw [List.getElem?_set_ne (by omega)]
      · rfl
    · rw [← f2]
      apply List.ext_getElem?
      intro i
      rw [List.getElem?_drop, List.getElem?_drop, List.getElem?_set_ne (by omega)]
theorem Fl.end {l0 l : List UInt8} {at_ t : Nat} {s r : Bool} (f : Fl l0 at_ t 32 l s r) (h12 : 12 ≤ l0.length) (ht : t < 4294967296) (h0 : t ≠ 0) (hat : at_ + 32 ≤ 8 * l0.length) (hsr : s = false ∨ r = false) (hs : beNum ((l0.drop 8).take 4) = headSum l0) : beNum ((l.drop 8).take 4) ≠ headSum l := by
  have hm : t % 2 ^ 32 = t := Nat.mod_eq_of_lt ht
  have hl12 : 12 ≤ l.length := by rw [f.len]; exact h12
  rcases hsr with hs0 | hr0
  · obtain ⟨f1, f2⟩ := f.rest hs0
    rw [f1, hs, headSum_zero, headSum_zero]
    rw [hm] at f2
    exact Ne.symm (Crc.more_burst 0 (zero12 l) (zero12 l0) at_ t (by decide) (by rw [zero12_len hl12, zero12_len h12, f.len]) ht h0 (by rw [zero12_len h12]; omega) f2)
  · obtain ⟨f1, f2⟩ := f.sum hr0
    have e : headSum l = headSum l0 := by rw [headSum_zero, headSum_zero, zero12, zero12, f1, f2]
    rw [e, ← hs]
    intro hb
    have hb' := beNum_inj (by simp [f.len]) hb
    have e4 : ∀ z : List UInt8, z = z.take 8 ++ ((z.drop 8).take 4 ++ z.drop 12) := fun z => by
      have : z.drop 12 = (z.drop 8).drop 4 := by rw [List.drop_drop]
      rw [this, List.take_append_drop, List.take_append_drop]
    have hl : l = l0 := by rw [e4 l, e4 l0, f1, f2, hb']
    have ha := f.all
    rw [hm, hl] at ha
    have : t * 2 ^ at_ = 0 := by
      have := congrArg (Crc.num l0 ^^^ ·) ha
      simp only [Nat.xor_self, Crc.xor_cancel] at this
      exact this.symm
    have hp : 0 < 2 ^ at_ := Nat.two_pow_pos _
    rcases Nat.mul_eq_zero.1 this with h | h <;> omega
end Go.Proofs.Ytmelgnpogdilgaa

/- lanyardlaw03.known, run by the kernel. Headers compared. No conditions. -/
namespace Go.Proofs.Ytmelgnpogdilgaa
open Go.RowKit
set_option linter.unusedVariables false
set_option maxRecDepth 100000
theorem known03Run : callK (A := Bool) Try.prog rowS (fev Try.prog rowS 5000) 23 [] emptyH asB = some true := by kernel_rfl
theorem noGlobals03 : Try.prog.globals.size = 0 := by kernel_rfl
theorem known03 (h : AHeap) : CallS Try.prog [] 23 [] h fun u h' => u = .bool true ∧ h' = h := by
  obtain ⟨v, h', wr, hc, he⟩ := callRun_of rowS_ok known03Run
  obtain rfl := asB_true he
  exact CallS.known noGlobals03 hc rfl h
instance seqHead (a b c a' b' c' : Int) : SEq Try.prog 46 [.int .u16 a, .int .u16 b, .int .u32 c] [.int .u16 a', .int .u16 b', .int .u32 c'] (a == a' && (b == b' && (c == c' && true))) := ⟨by kernel_rfl⟩
end Go.Proofs.Ytmelgnpogdilgaa

/- HeadBack on the abstract heap: it answers true. No conditions. -/
namespace Go.Proofs.Ytmelgnpogdilgaa
set_option linter.unusedVariables false
set_option maxRecDepth 100000
attribute [local irreducible] Go GoR GoL
theorem hput_take2 (f t g : Nat) (v : List UInt8) (hf : f < 65536) : beNum ((hput f t g v).take 2) = f := by
  have e : (hput f t g v).take 2 = beB 2 f := by
    unfold hput hbytes
    rw [List.append_assoc, List.append_assoc, List.append_assoc, List.take_append_of_le_length (by simp [beB_length]), List.take_of_length_le (by simp [beB_length])]
  rw [e, beNum_beB _ _ (by simpa using hf)]
theorem hput_drop2 (f t g : Nat) (v : List UInt8) : (hput f t g v).drop 2 = beB 2 t ++ (beB 4 g ++ (beB 4 (Crc.sum (hbytes f t g 0 v)) ++ v)) := by
  unfold hput hbytes
  rw [List.append_assoc, List.append_assoc, List.append_assoc]
  exact List.drop_left' (by simp [beB_length])
theorem hput_drop4 (f t g : Nat) (v : List UInt8) : (hput f t g v).drop 4 = beB 4 g ++ (beB 4 (Crc.sum (hbytes f t g 0 v)) ++ v) := by
  have : (hput f t g v).drop 4 = ((hput f t g v).drop 2).drop 2 := by rw [List.drop_drop]
  rw [this, hput_drop2]
  exact List.drop_left' (by simp [beB_length])
theorem hput_drop8 (f t g : Nat) (v : List UInt8) : (hput f t g v).drop 8 = beB 4 (Crc.sum (hbytes f t g 0 v)) ++ v := by
  have : (hput f t g v).drop 8 = ((hput f t g v).drop 4).drop 4 := by rw [List.drop_drop]
  rw [this, hput_drop4]
  exact List.drop_left' (by simp [beB_length])
theorem beNum_front (n x : Nat) (l : List UInt8) (h : x < 256 ^ n) : beNum ((beB n x ++ l).take n) = x := by
  rw [List.take_left' (by simp [beB_length]), beNum_beB _ _ h]
theorem hput_len (f t g : Nat) (v : List UInt8) : (hput f t g v).length = 12 + v.length := by rw [hput, hbytes_length]
theorem hput_ok (f t g : Nat) (v : List UInt8) (hf : f < 65536) (ht : t < 65536) (hg : g < 4294967296) : beNum ((hput f t g v).take 2) = f ∧ beNum (((hput f t g v).drop 2).take 2) = t ∧ beNum (((hput f t g v).drop 4).take 4) = g ∧ beNum (((hput f t g v).drop 8).take 4) = headSum (hput f t g v) ∧ (hput f t g v).drop 12 = v := by
  refine ⟨hput_take2 f t g v hf, ?_, ?_, ?_, ?_⟩
  · rw [hput_drop2]; exact beNum_front _ _ _ (by simpa using ht)
  · rw [hput_drop4]; exact beNum_front _ _ _ (by simpa using hg)
  · rw [hput_drop8, beNum_front _ _ _ (by have : Crc.sum (hbytes f t g 0 v) < 4294967296 := Crc.more_lt _ _; simpa using this), hput, headSum_hbytes]
  · rw [hput, hbytes_drop]
theorem findB {ov : Ov} {t : Nat} {b b' : Bool} (h : ov.find t = some (.bool b)) (e : b = b') : ov.find t = some (.bool b') := e ▸ h
def headOk (n : Nat) (zs : List UInt8) : Prop := 12 ≤ n ∧ n ≤ 1500 ∧ n % 4 = 0 ∧ beNum ((zs.drop 8).take 4) = headSum zs
theorem headTake_all (a : Option Addr) (n cap : Nat) (zs : List UInt8) (hlen : zs.length = n) (hn : n ≤ 1000000) (h : AHeap) (hz : Rv Try.prog h 1 a n cap (zs.map bv)) : CallS Try.prog [] 26 [.slice a n cap] h fun v h' =>
    ∃ (f t g : Nat) (b : Option Addr) (m c e : Nat), v = .tuple #[hdV f t g, .slice b m c, .int .i64 e] ∧ ((e = 0 ∧ headOk n zs ∧ f = beNum (zs.take 2) ∧ t = beNum ((zs.drop 2).take 2) ∧ g = beNum ((zs.drop 4).take 4) ∧ m = n - 12 ∧ Sv h' 5 1 b (n - 12) c ((zs.drop 12).map bv) ∧ Own h.n b) ∨ (e ≠ 0 ∧ ¬ headOk n zs)) := by
  by_cases hk : headOk n zs
  · obtain ⟨x2, x3, x4, hne⟩ := hk
    refine (headTake_ok a n cap zs hlen x2 x3 x4 h hz hne).mono ?_
    rintro _ h2 ⟨b, c, rfl, hs, ob⟩
    exact ⟨_, _, _, b, _, c, 0, rfl, .inl ⟨rfl, ⟨x2, x3, x4, hne⟩, rfl, rfl, rfl, rfl, hs, ob⟩⟩
  · by_cases hx : 12 ≤ n ∧ n ≤ 1500 ∧ n % 4 = 0
    · obtain ⟨x2, x3, x4⟩ := hx
      refine (headTake_sum a n cap zs hlen x2 x3 x4 h hz (fun e => hk ⟨x2, x3, x4, e⟩)).mono ?_
      rintro _ h2 rfl
      exact ⟨0, 0, 0, none, 0, 0, 31, rfl, .inr ⟨by decide, hk⟩⟩
    · obtain ⟨x, hx, hx0⟩ : ∃ x, (1500 < n ∧ x = 3 ∨ n < 12 ∧ x = 30 ∨ 12 ≤ n ∧ n ≤ 1500 ∧ n % 4 ≠ 0 ∧ x = 32) ∧ x ≠ 0 := by
        rcases Nat.lt_or_ge 1500 n with g | g
        · exact ⟨3, .inl ⟨g, rfl⟩, by decide⟩
        · rcases Nat.lt_or_ge n 12 with g' | g'
          · exact ⟨30, .inr (.inl ⟨g', rfl⟩), by decide⟩
          · exact ⟨32, .inr (.inr ⟨g', g, fun e => hx ⟨g', g, e⟩, rfl⟩), by decide⟩
      refine (headTake_err a n cap hn h x hx).mono ?_
      rintro _ h2 rfl
      exact ⟨0, 0, 0, none, 0, 0, x, rfl, .inr ⟨hx0, hk⟩⟩
set_option maxHeartbeats 8000000 in
theorem headBack_spec (f t g : Nat) (hf : f < 65536) (ht : t < 65536) (hg : g < 4294967296) (a : Option Addr) (cap : Nat) (zs : List UInt8) (hcap : cap ≤ maxLen) (a₂ : Option Addr) (cap₂ : Nat) (ys : List UInt8) (hcap₂ : cap₂ ≤ maxLen) (at_ : Int) (hat : -9223372036854775808 ≤ at_ ∧ at_ ≤ 9223372036854775807) (tn : Nat) (htn : tn < 4294967296) (h : AHeap) (hz : Rv Try.prog h 1 a zs.length cap (zs.map bv)) (hy : Rv Try.prog h 1 a₂ ys.length cap₂ (ys.map bv)) : CallS Try.prog [] 8 [hdV f t g, .slice a zs.length cap, .slice a₂ ys.length cap₂, .int .i64 at_, .int .u32 tn] h fun v _ => v = .bool true := by
  unfold maxLen at hcap hcap₂
  have hle := hz.le
  have hle₂ := hy.le
  generalize hlen : zs.length = n at *
  generalize hlen₂ : ys.length = n₂ at *
  rcases Nat.lt_or_ge 1500 n with g1 | g1
  ·
    (refine CallS.of5 Try.func8 rfl Try.ntmps8 Try.results8 rfl ?_)
    (refine Go.run (g:=?_))
    refine GoR.call rfl rfl rfl rfl rfl rfl rfl (((known03 _).args (by first | rfl | (simp; fail_if_success focus skip) | (simp; omega) | (congr 2; omega))).mono ?_)
    rintro _ h1 ⟨rfl, rfl⟩ -
    (refine Go.run (g:=?_))
    (first|refine Go.finT (by first|exact .inr rfl|exact .inl rfl) rfl ?_|refine Go.fin1 (by first|exact .inr rfl|exact .inl rfl) rfl (hq:=?_))
    rfl
  rcases Nat.lt_or_ge 1500 n₂ with g2 | g2
  ·
    (refine CallS.of5 Try.func8 rfl Try.ntmps8 Try.results8 rfl ?_)
    (refine Go.run (g:=?_))
    refine GoR.call rfl rfl rfl rfl rfl rfl rfl (((known03 _).args (by first | rfl | (simp; fail_if_success focus skip) | (simp; omega) | (congr 2; omega))).mono ?_)
    rintro _ h1 ⟨rfl, rfl⟩ -
    (refine Go.run (g:=?_))
    (first|refine Go.finT (by first|exact .inr rfl|exact .inl rfl) rfl ?_|refine Go.fin1 (by first|exact .inr rfl|exact .inl rfl) rfl (hq:=?_))
    rfl
  (refine CallS.of5 Try.func8 rfl Try.ntmps8 Try.results8 rfl ?_)
  (refine Go.run (g:=?_))
  refine GoR.call rfl rfl rfl rfl rfl rfl rfl (((known03 _).args (by first | rfl | (simp; fail_if_success focus skip) | (simp; omega) | (congr 2; omega))).mono ?_)
  rintro _ h1 ⟨rfl, rfl⟩ -
  (refine Go.run (g:=?_))
  refine GoR.name ?_
  intro h0 e0
  have S0 : Same h h0 := by subst e0; exact (Same.refl h).push _
  have G0 : h0.get h.n = some (.cells [.int .u16 f, .int .u16 t, .int .u32 g] 46) := by subst e0; exact AHeap.get_push_same _ _
  have N0 : h0.n = h.n + 1 := by subst e0; rfl
  clear e0
  have hz0 := hz.same S0
  have hy0 := hy.same S0
  refine GoR.call rfl rfl rfl rfl rfl rfl rfl (((headTake_all a₂ n₂ cap₂ ys hlen₂ (by omega) _ hy0).args (by first | rfl | (simp; fail_if_success focus skip) | (simp; omega) | (congr 2; omega))).mono ?_)
  rintro _ h2 ⟨f', t', g', b, m, c, e, rfl, hcase⟩ s2
  have m2 := s2.1
  (refine Go.run (g:=?_))
  refine Go.name ?_
  intro h3 e3
  have s3 : Same h2 h3 := by subst e3; exact ((Same.refl h2).push _).put (Nat.le_refl _) _
  have g3 : h3.get h2.n = some (.cells [.int .u16 f', .int .u16 t', .int .u32 g'] 46) := by subst e3; exact AHeap.get_put_same _ (by simp) _
  have n3 : h3.n = h2.n + 1 := by subst e3; rfl
  clear e3
  refine Go.join1 (α := AHeap) (fun h' => [(5, .pointer (some ⟨h.n, 0, none⟩)), (1, .slice a n cap), (3, .int .i64 at_), (4, .int .u32 tn)]) (fun _ => []) (fun h' => h') (fun h' => Same h0 h') ?_ ?_
  · rcases hcase with ⟨rfl, hok, rfl, rfl, rfl, rfl, hb, ob⟩ | ⟨he, hno⟩
    · obtain ⟨x2, x3, x4, hne⟩ := hok
      have v0 : beNum (ys.take 2) < 65536 := beNum_lt_of (k := 2) (by simp; omega) rfl
      have v1 : beNum ((ys.drop 2).take 2) < 65536 := beNum_lt_of (k := 2) (by simp; omega) rfl
      have v2 : beNum ((ys.drop 4).take 4) < 4294967296 := beNum_lt_of (k := 4) (by simp; omega) rfl
      have l6 : (ys.drop 12).length = n₂ - 12 := by simp; omega
      have hp := (hput_of ys (by omega)).2 hne
      have hb3 := (Sv.rv (P := Try.prog) hb).same s3
      have hy3 := (hy0.same s2).same s3
      (refine Go.run (g:=?_))
      refine GoR.call rfl rfl rfl rfl rfl rfl rfl (((headPut_ok _ _ _ v0 v1 v2 b (n₂ - 12) c (ys.drop 12) l6 (by omega) (by omega) _ hb3).args (by first | rfl | (simp; fail_if_success focus skip) | (simp; omega) | (congr 2; omega))).mono ?_)
      rintro _ h4 ⟨b4, c4, rfl, hb4, ob4⟩ s4
      have r4 := Sv.rv (P := Try.prog) hb4
      have hy4 := hy3.same s4
      clear hb4
      rw [hp] at r4 ⊢
      (refine Go.run (g:=?_))
      exact Go.joined h4 (s2.trans (s3.trans s4)) ⟨rfl, rfl, rfl, rfl, trivial⟩ rfl rfl
    · (refine Go.run (g:=?_))
      exact Go.joined h3 (s2.trans s3) ⟨rfl, rfl, rfl, rfl, trivial⟩ rfl rfl
  · intro h4 s4
    clear hcase g3 n3 s3 m2 s2
    have hz4 := hz0.same s4
    have G4 := s4.get G0
    have m4 := s4.1
    rcases Nat.eq_zero_or_pos (n % 4) with g3 | g3
    case inr =>
      (refine Go.run (g:=?_))
      refine GoR.call rfl rfl rfl rfl rfl rfl rfl (((headPut_err1 f t g a n cap (by omega) _).args (by first | rfl | (simp; fail_if_success focus skip) | (simp; omega) | (congr 2; omega))).mono ?_)
      rintro _ h5 rfl s5
      (refine Go.run (g:=?_))
      (first|refine Go.finT (by first|exact .inr rfl|exact .inl rfl) rfl ?_|refine Go.fin1 (by first|exact .inr rfl|exact .inl rfl) rfl (hq:=?_))
      rfl
    rcases Nat.lt_or_ge 1488 n with g4 | g4
    ·
      (refine Go.run (g:=?_))
      refine GoR.call rfl rfl rfl rfl rfl rfl rfl (((headPut_err2 f t g a n cap g3 g4 _).args (by first | rfl | (simp; fail_if_success focus skip) | (simp; omega) | (congr 2; omega))).mono ?_)
      rintro _ h5 rfl s5
      (refine Go.run (g:=?_))
      (first|refine Go.finT (by first|exact .inr rfl|exact .inl rfl) rfl ?_|refine Go.fin1 (by first|exact .inr rfl|exact .inl rfl) rfl (hq:=?_))
      rfl
    (refine Go.run (g:=?_))
    refine GoR.call rfl rfl rfl rfl rfl rfl rfl (((headPut_ok f t g hf ht hg a n cap zs hlen g3 g4 _ hz4).args (by first | rfl | (simp; fail_if_success focus skip) | (simp; omega) | (congr 2; omega))).mono ?_)
    rintro _ h5 ⟨b, c, rfl, hb, ob⟩ s5
    have hL : (hput f t g zs).length = 12 + n := by rw [hput_len, hlen]
    obtain ⟨q1, q2, q3, q4, q5⟩ := hput_ok f t g zs hf ht hg
    generalize hl0 : hput f t g zs = l0 at *
    rw [hL] at hb ⊢
    have hz5 := hz4.same s5
    have G5 := s5.get G4
    have m5 := s5.1
    (refine Go.run (g:=?_))
    refine GoR.call rfl rfl rfl rfl rfl rfl rfl (((headTake_ok b (12 + n) c l0 hL (by omega) (by omega) (by omega) _ (Sv.rv hb) q4).args (by first | rfl | (simp; fail_if_success focus skip) | (simp; omega) | (congr 2; omega))).mono ?_)
    rw [q1, q2, q3, q5]
    rintro _ h6 ⟨b6, c6, rfl, hb6, ob6⟩ s6
    have e6 : 12 + n - 12 = zs.length := by omega
    rw [e6] at hb6 ⊢
    have r6 := Sv.rv (P := Try.prog) hb6
    have hz6 := hz5.same s6
    have G6 := s6.get G5
    have m6 := s6.1
    clear hb6
    (refine Go.run (g:=?_))
    rcases Nat.eq_zero_or_pos tn with t0 | t0
    · subst t0
      (refine Go.run (g:=?_))
      (first|refine Go.finT (by first|exact .inr rfl|exact .inl rfl) rfl ?_|refine Go.fin1 (by first|exact .inr rfl|exact .inl rfl) rfl (hq:=?_))
      rfl
    by_cases a0 : at_ < 0
    ·
      (refine Go.run (g:=?_))
      (first|refine Go.finT (by first|exact .inr rfl|exact .inl rfl) rfl ?_|refine Go.fin1 (by first|exact .inr rfl|exact .inl rfl) rfl (hq:=?_))
      rfl
    obtain ⟨k, rfl⟩ : ∃ k : Nat, at_ = k := ⟨at_.toNat, by omega⟩
    by_cases a1 : 8 * (12 + n) - 32 < k
    ·
      (refine Go.run (g:=?_))
      (first|refine Go.finT (by first|exact .inr rfl|exact .inl rfl) rfl ?_|refine Go.fin1 (by first|exact .inr rfl|exact .inl rfl) rfl (hq:=?_))
      rfl
    (refine Go.run (g:=?_))
    refine Go.name ?_
    intro h7 e7
    have s7 : Same h6 h7 := by subst e7; exact ((Same.refl h6).push _).put (Nat.le_refl _) _
    clear e7
    have hb7 := (hb.same s6).same s7
    have ob7 : Own h.n b := ob.mono (by omega)
    have S7 : Same h h7 := (S0.trans s4).trans (s5.trans (s6.trans s7))
    clear s7 s6 s5 s4 S0 hz0 hz4 hz5 hz6 G0 G4 G5 G6 r6 hb hy0 hy hz
    refine Go.loop (α := Nat × List UInt8 × Bool × Bool × AHeap) (fun x => [(102, .int .i64 x.1), (16, .slice b (12 + n) c), (20, .bool x.2.2.1), (21, .bool x.2.2.2.1), (3, .int .i64 k), (4, .int .u32 tn)]) (fun _ => []) (fun x => x.2.2.2.2)
      (fun x => x.1 ≤ 32 ∧ Fl l0 k tn x.1 x.2.1 x.2.2.1 x.2.2.2.1 ∧ Same h x.2.2.2.2 ∧ Sv x.2.2.2.2 5 1 b (12 + n) c (x.2.1.map bv)) (fun x => 32 - x.1) (0, l0, false, false, h7) ?_ ?_ rfl rfl ?_
    · exact ⟨Nat.zero_le _, Fl.init l0 k tn, S7, hb7⟩
    · exact ⟨rfl, rfl, rfl, rfl, rfl, rfl, trivial⟩
    · rintro ⟨i, l, s, r, h8⟩ ⟨hi, hf8, S8, hb8⟩
      simp only at hi hf8 S8 hb8 ⊢
      clear S7 hb7
      have hl8 : l.length = 12 + n := by rw [hf8.len, hL]
      rcases Nat.lt_or_ge i 32 with i0 | i0
      · (refine Go.run (g:=?_))
        refine GoR.shrN rfl rfl rfl rfl rfl rfl (Nat.ble_eq_true_of_le (show i ≤ 32 by omega)) ?_
        refine GoR.andN rfl rfl rfl rfl rfl rfl (show tn / 2 ^ i < 4294967296 from Nat.lt_of_le_of_lt (Nat.div_le_self _ _) htn) (by decide) ?_
        rw [Nat.and_one_is_mod]
        rcases Nat.mod_two_eq_zero_or_one (tn / 2 ^ i) with hb0 | hb1
        · rw [hb0]
          (refine Go.run (g:=?_))
          exact Go.again (i + 1, l, s, r, h8) ⟨by simp only; omega, hf8.skip hb0, S8, hb8⟩ (by simp only; omega) ⟨rfl, rfl, rfl, rfl, rfl, rfl, trivial⟩ rfl rfl
        · rw [hb1]
          (refine Go.run (g:=?_))
          refine Go.loud (by kernel_rfl) rfl ?_
          (refine Go.runL (g:=?_))
          have hq : (k + i) / 8 < l.length := by omega
          have hr8 : (k + i) % 8 < 8 := Nat.mod_lt _ (by decide)
          have hp8 : 1 * 2 ^ ((k + i) % 8) < 256 := by rw [Nat.one_mul]; exact Nat.pow_lt_pow_right (n := 8) (by decide) hr8
          have hx8 : l[(k + i) / 8].toNat < 256 := UInt8.toNat_lt _
          refine GoL.loadV rfl rfl rfl rfl rfl (Sv.rv hb8) (byte_at hq) ?_
          (refine Go.runL (g:=?_))
          refine GoL.shlN rfl rfl rfl rfl rfl rfl (Nat.ble_eq_true_of_le (show (k + i) % 8 ≤ 8 by omega)) hp8 ?_
          refine GoL.xorN rfl rfl rfl rfl rfl rfl hx8 hp8 ?_
          (refine Go.runL (g:=?_))
          refine GoL.store1' rfl rfl rfl rfl rfl rfl (g:=?_)
          intro h9 hb9 k9 n9
          (refine GoL.end_ (g:=?_))
          rw [Nat.one_mul] at hb9
          have e9 : (l.map bv).set ((k + i) / 8) (.int .u8 ((l[(k + i) / 8].toNat ^^^ 2 ^ ((k + i) % 8) : Nat) : Int)) = (l.set ((k + i) / 8) (l[(k + i) / 8] ^^^ UInt8.ofNat (2 ^ ((k + i) % 8)))).map bv := by
            have hp9 : 2 ^ ((k + i) % 8) < 2 ^ 8 := by rw [Nat.one_mul] at hp8; exact hp8
            have ex : (l[(k + i) / 8] ^^^ UInt8.ofNat (2 ^ ((k + i) % 8))).toNat = l[(k + i) / 8].toNat ^^^ 2 ^ ((k + i) % 8) := by rw [UInt8.toNat_xor, UInt8.toNat_ofNat', Nat.mod_eq_of_lt hp9]
            rw [List.map_set]
            unfold bv
            rw [ex]
          rw [e9] at hb9
          have st := hf8.step (by omega) hb1 rfl hq
          generalize l.set ((k + i) / 8) (l[(k + i) / 8] ^^^ UInt8.ofNat (2 ^ ((k + i) % 8))) = l' at *
          generalize hqe : (k + i) / 8 = q at *
          have S9 := S8.ownO k9 ob7 (Nat.le_refl _)
          clear hr8 hp8 hx8 e9
          have hqq : (q < 8 ∧ decide (8 ≤ q) = false ∧ decide (q < 12) = true ∧ decide (q < 8) = true ∧ decide (12 ≤ q) = false) ∨ (8 ≤ q ∧ q < 12 ∧ decide (8 ≤ q) = true ∧ decide (q < 12) = true ∧ decide (q < 8) = false ∧ decide (12 ≤ q) = false) ∨ (12 ≤ q ∧ decide (8 ≤ q) = true ∧ decide (q < 12) = false ∧ decide (q < 8) = false ∧ decide (12 ≤ q) = true) := by
            simp only [decide_eq_true_eq, decide_eq_false_iff_not]
            omega
          cases s <;> cases r <;> rcases hqq with ⟨c1, d1, d2, d3, d4⟩ | ⟨c1, c2, d1, d2, d3, d4⟩ | ⟨c1, d1, d2, d3, d4⟩
          all_goals
            simp only [d1, d2, d3, d4, Bool.true_and, Bool.false_and, Bool.and_true, Bool.and_false, Bool.or_true, Bool.or_false, Bool.true_or, Bool.false_or] at st
            clear d1 d2 d3 d4
            (refine Go.run (g:=?_))
            refine Go.again (i + 1, l', _, _, h9) ⟨by simp only; omega, st, S9, hb9⟩ (by simp only; omega) ⟨rfl, rfl, findB rfl ?_, findB rfl ?_, rfl, rfl, trivial⟩ rfl rfl
            all_goals first | rfl | exact decide_eq_true (by omega) | exact decide_eq_false (by omega)
      · have : i = 32 := by omega
        subst this
        by_cases hsr : s = true ∧ r = true
        · obtain ⟨rfl, rfl⟩ := hsr
          (refine Go.run (g:=?_))
          (first|refine Go.finT (by first|exact .inr rfl|exact .inl rfl) rfl ?_|refine Go.fin1 (by first|exact .inr rfl|exact .inl rfl) rfl (hq:=?_))
          rfl
        · have hsr' : s = false ∨ r = false := by cases s <;> cases r <;> simp_all
          have hne := hf8.end (by omega) htn (by omega) (by omega) hsr' q4
          rcases hsr' with rfl | rfl
          ·
            (refine Go.run (g:=?_))
            refine GoR.call rfl rfl rfl rfl rfl rfl rfl (((headTake_sum b (12 + n) c l hl8 (by omega) (by omega) (by omega) _ (Sv.rv hb8) hne).args (by first | rfl | (simp; fail_if_success focus skip) | (simp; omega) | (congr 2; omega))).mono ?_)
            rintro _ h9 rfl s9
            (refine Go.run (g:=?_))
            (first|refine Go.finT (by first|exact .inr rfl|exact .inl rfl) rfl ?_|refine Go.fin1 (by first|exact .inr rfl|exact .inl rfl) rfl (hq:=?_))
            rfl
          · cases s
            all_goals
              (refine Go.run (g:=?_))
              refine GoR.call rfl rfl rfl rfl rfl rfl rfl (((headTake_sum b (12 + n) c l hl8 (by omega) (by omega) (by omega) _ (Sv.rv hb8) hne).args (by first | rfl | (simp; fail_if_success focus skip) | (simp; omega) | (congr 2; omega))).mono ?_)
              rintro _ h9 rfl s9
              (refine Go.run (g:=?_))
              (first|refine Go.finT (by first|exact .inr rfl|exact .inl rfl) rfl ?_|refine Go.fin1 (by first|exact .inr rfl|exact .inl rfl) rfl (hq:=?_))
              rfl
end Go.Proofs.Ytmelgnpogdilgaa

/- Headers and bytes that come in. No conditions. -/
namespace Go.Proofs.Ytmelgnpogdilgaa
set_option linter.unusedVariables false
set_option maxRecDepth 100000
theorem hu8 : Try.prog.underlying 5 = some (.int .u8) := by kernel_rfl
theorem hu16 : Try.prog.underlying 22 = some (.int .u16) := by kernel_rfl
theorem hu32 : Try.prog.underlying 44 = some (.int .u32) := by kernel_rfl
theorem hbytesU : Try.prog.underlying 23 = some (.slice 5) := by kernel_rfl
theorem head_of {h : AHeap} {H : Type} {cs : List Value} {d : DataW H} (r : ARd Try.prog h 46 cs d) : ∃ f t g : Nat, cs = [.int .u16 f, .int .u16 t, .int .u32 g] ∧ f < 65536 ∧ t < 65536 ∧ g < 4294967296 := by
  obtain ⟨hl, hf⟩ := r.field Try.underlying46
  rw [show Try.prog.cellsOf 46 = 3 from by kernel_rfl] at hl
  match cs, hl with
  | [c0, c1, c2], _ =>
    obtain ⟨d0, r0⟩ := hf 0 22 0 1 rfl (by kernel_rfl)
    obtain ⟨d1, r1⟩ := hf 1 22 1 1 rfl (by kernel_rfl)
    obtain ⟨d2, r2⟩ := hf 2 44 2 1 rfl (by kernel_rfl)
    obtain ⟨f, e0, h0⟩ := r0.u_inv rfl hu16
    obtain ⟨t, e1, h1⟩ := r1.u_inv rfl hu16
    obtain ⟨g, e2, h2⟩ := r2.u_inv rfl hu32
    simp at e0 e1 e2
    subst e0 e1 e2
    exact ⟨f, t, g, rfl, h0, h1, h2⟩
theorem plainHead : plainB Try.prog 3 46 = true := by kernel_rfl
theorem plainBytes : plainB Try.prog 3 23 = true := by kernel_rfl
/-- A header that comes in. -/
theorem imp_head {H : Type} {enc : TypeId × Value → H} {W : World} {m : Mp} {h : AHeap} {base : Nat} {v : Value} {d : DataW H} {ps : List MemPlace} (o : Value.okWide Try.prog W .any base 46 v) (ht : DataW.Trod enc Try.prog W 0 (fun _ => true) true 46 v d ps) (I : Im Try.prog W m h) :
    ∃ m' h', Im Try.prog W m' h' ∧ m.le m' ∧ Same h h' ∧ ∃ f t g : Nat, VRel m' (hdV f t g) v ∧ f < 65536 ∧ t < 65536 ∧ g < 4294967296 := by
  obtain ⟨c, rfl, _⟩ := WideShapes.okWide_struct Try.underlying46 o
  obtain ⟨m', h', cs, I', hm, hs, hA, hR, _⟩ := imp_val plainHead ht I
  have hv := vrel_agg hA
  obtain ⟨f, t, g, rfl, b1, b2, b3⟩ := head_of hR
  exact ⟨m', h', I', hm, hs, f, t, g, hv, b1, b2, b3⟩
/-- Bytes that come in. -/
theorem imp_bytes {H : Type} {enc : TypeId × Value → H} {W : World} {m : Mp} {h : AHeap} {base : Nat} {v : Value} {d : DataW H} {ps : List MemPlace} (o : Value.okWide Try.prog W .any base 23 v) (ht : DataW.Trod enc Try.prog W 0 (fun _ => true) true 23 v d ps) (I : Im Try.prog W m h) :
    ∃ m' h', Im Try.prog W m' h' ∧ m.le m' ∧ Same h h' ∧ ∃ (a : Option Addr) (cap : Nat) (zs : List UInt8), VRel m' (.slice a zs.length cap) v ∧ Rv Try.prog h' 1 a zs.length cap (zs.map bv) ∧ cap ≤ maxLen := by
  obtain ⟨a0, l0, c0, rfl⟩ := WideShapes.okWide_slice hbytesU o
  obtain ⟨m', h', cs, I', hm, hs, hA, hR, hl⟩ := imp_val plainBytes ht I
  obtain ⟨x, rfl, hv⟩ := vrel_one hA (by rw [hl]; kernel_rfl) rfl
  obtain ⟨a, cap, zs, e, hz, hc⟩ := hR.bytes hbytesU hu8 (by kernel_rfl)
  cases e
  exact ⟨m', h', I', hm, hs, a, cap, zs, hv, hz, hc⟩
end Go.Proofs.Ytmelgnpogdilgaa

/- HeadBack: the walk: the law returns true and turns nothing that was there. -/
namespace Go.Proofs.Ytmelgnpogdilgaa
set_option linter.unusedVariables false
open Go.ChangeShapes Go.WideShapes Go.ChangeAt Go.RowKit
set_option maxRecDepth 100000
theorem headBackWalk {H : Type} {enc : TypeId × Value → H} {base : Nat} {d0 d1 d2 : DataW H} {p0 p1 p2 : List MemPlace} (v0 v1 v2 : Value) (a3 a4 : Int) (W : World) (o0 : Value.okWide Try.prog W .any base 46 v0) (h0 : DataW.Trod enc Try.prog W 0 (fun _ => true) true 46 v0 d0 p0) (o1 : Value.okWide Try.prog W .any base 23 v1) (h1 : DataW.Trod enc Try.prog W 0 (fun _ => true) true 23 v1 d1 p1) (o2 : Value.okWide Try.prog W .any base 23 v2) (h2 : DataW.Trod enc Try.prog W 0 (fun _ => true) true 23 v2 d2 p2) (w3 : (Lit.int .i64 a3).wf = true) (w4 : (Lit.int .u32 a4).wf = true) : Calls Try.prog 8 #[v0, v1, v2, .int .i64 a3, .int .u32 a4] W fun e w' => e = .returned (.bool true) ∧ Below W.heap.size W w' := by
  obtain ⟨m, h, I, _, _, f, t, g, hv0, b1, b2, b3⟩ := imp_head o0 h0 (Im.empty Try.prog W)
  obtain ⟨m1, h1', I1, hm1, s1, a, cap, zs, hv1, hz, hc⟩ := imp_bytes o1 h1 I
  obtain ⟨m2, h2', I2, hm2, s2, a₂, cap₂, ys, hv2, hy, hc2⟩ := imp_bytes o2 h2 I1
  simp [Lit.wf, IntKind.wrap, IntKind.bits, IntKind.signed, IntKind.min, IntKind.max] at w3 w4
  obtain ⟨n, rfl⟩ : ∃ n : Nat, a4 = n := ⟨a4.toNat, by omega⟩
  refine calls_imp noGlobals I2 rfl (headBack_spec f t g b1 b2 b3 a cap zs hc a₂ cap₂ ys hc2 a3 (by omega) n (by omega) h2' (hz.same s2) hy) ?_
  exact ((((ARel.single ((hv0.mono hm1).mono hm2)).push (hv1.mono hm2)).push hv2).push (.int _ _)).push (.int _ _)
end Go.Proofs.Ytmelgnpogdilgaa
