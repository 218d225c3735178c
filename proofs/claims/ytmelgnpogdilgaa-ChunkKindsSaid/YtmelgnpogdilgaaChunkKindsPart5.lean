/- What the law leans on, part 5. No conditions. -/
import Derived.Test.YtmelgnpogdilgaaProg
import Derived.KernelRfl
import Derived.ProofKit
import Derived.OpenShut
import Derived.ChangeOld
import Derived.Test.YtmelgnpogdilgaaChunkKindsPart4
/- What is known of the program's types. No conditions. -/
namespace Go.Proofs.Ytmelgnpogdilgaa
set_option linter.unusedVariables false
instance : CT Try.prog 0 none := ⟨by kernel_rfl⟩
instance : SZ Try.prog 0 1 := ⟨by kernel_rfl⟩
instance : CT Try.prog 1 none := ⟨by kernel_rfl⟩
instance : SZ Try.prog 1 1 := ⟨by kernel_rfl⟩
instance : AL Try.prog 1 [.nilFunc] := ⟨by kernel_rfl⟩
instance : CT Try.prog 2 none := ⟨by kernel_rfl⟩
instance : SZ Try.prog 2 1 := ⟨by kernel_rfl⟩
theorem un2 : Try.prog.underlying 2 = some (.int .i64) := by kernel_rfl
instance : AL Try.prog 2 [.int .i64 0] := ⟨by kernel_rfl⟩
instance : CT Try.prog 3 none := ⟨by kernel_rfl⟩
instance : SZ Try.prog 3 1 := ⟨by kernel_rfl⟩
theorem un3 : Try.prog.underlying 3 = some (.int .i64) := by kernel_rfl
instance : AL Try.prog 3 [.int .i64 0] := ⟨by kernel_rfl⟩
instance : CT Try.prog 4 none := ⟨by kernel_rfl⟩
instance : SZ Try.prog 4 1 := ⟨by kernel_rfl⟩
instance : AL Try.prog 4 [.bool false] := ⟨by kernel_rfl⟩
instance : CT Try.prog 5 none := ⟨by kernel_rfl⟩
instance : SZ Try.prog 5 1 := ⟨by kernel_rfl⟩
theorem un5 : Try.prog.underlying 5 = some (.int .u8) := by kernel_rfl
instance : AL Try.prog 5 [.int .u8 0] := ⟨by kernel_rfl⟩
instance : CT Try.prog 6 none := ⟨by kernel_rfl⟩
instance : SZ Try.prog 6 1 := ⟨by kernel_rfl⟩
theorem un6 : Try.prog.underlying 6 = some (.int .u8) := by kernel_rfl
instance : AL Try.prog 6 [.int .u8 0] := ⟨by kernel_rfl⟩
instance : CT Try.prog 7 (some 4) := ⟨by kernel_rfl⟩
instance : SZ Try.prog 7 4 := ⟨by kernel_rfl⟩
instance : FO Try.prog 7 0 0 := ⟨by kernel_rfl⟩
instance : FO Try.prog 7 1 1 := ⟨by kernel_rfl⟩
instance : FO Try.prog 7 2 2 := ⟨by kernel_rfl⟩
instance : FO Try.prog 7 3 3 := ⟨by kernel_rfl⟩
instance : ST Try.prog 7 [.int .i64 0, .int .i64 0, .bool false, .int .u8 0] [(0, 1), (1, 1), (2, 1), (3, 1)] := .of (z := .agg #[.int .i64 0, .int .i64 0, .bool false, .int .u8 0]) (fs := (match Try.prog.underlying 7 with | some (.struct fs) => fs | _ => #[])) (by kernel_rfl) (by kernel_rfl) (by kernel_rfl) (by kernel_rfl) (by kernel_rfl)
instance : AL Try.prog 7 [.int .i64 0, .int .i64 0, .bool false, .int .u8 0] := ⟨by kernel_rfl⟩
instance : CT Try.prog 8 (some 4) := ⟨by kernel_rfl⟩
instance : SZ Try.prog 8 4 := ⟨by kernel_rfl⟩
instance : FO Try.prog 8 0 0 := ⟨by kernel_rfl⟩
instance : FO Try.prog 8 1 1 := ⟨by kernel_rfl⟩
instance : FO Try.prog 8 2 2 := ⟨by kernel_rfl⟩
instance : FO Try.prog 8 3 3 := ⟨by kernel_rfl⟩
instance : ST Try.prog 8 [.int .i64 0, .int .i64 0, .bool false, .int .u8 0] [(0, 1), (1, 1), (2, 1), (3, 1)] := .of (z := .agg #[.int .i64 0, .int .i64 0, .bool false, .int .u8 0]) (fs := (match Try.prog.underlying 8 with | some (.struct fs) => fs | _ => #[])) (by kernel_rfl) (by kernel_rfl) (by kernel_rfl) (by kernel_rfl) (by kernel_rfl)
instance : AL Try.prog 8 [.int .i64 0, .int .i64 0, .bool false, .int .u8 0] := ⟨by kernel_rfl⟩
instance : CT Try.prog 9 none := ⟨by kernel_rfl⟩
instance : SZ Try.prog 9 1 := ⟨by kernel_rfl⟩
instance : UN Try.prog 9 .string := ⟨by kernel_rfl⟩
instance : AL Try.prog 9 [.string ⟨#[]⟩] := ⟨by kernel_rfl⟩
instance : CT Try.prog 10 none := ⟨by kernel_rfl⟩
instance : SZ Try.prog 10 1 := ⟨by kernel_rfl⟩
instance : UN Try.prog 10 .string := ⟨by kernel_rfl⟩
instance : AL Try.prog 10 [.string ⟨#[]⟩] := ⟨by kernel_rfl⟩
instance : CT Try.prog 11 none := ⟨by kernel_rfl⟩
instance : SZ Try.prog 11 1 := ⟨by kernel_rfl⟩
instance : UN Try.prog 11 .string := ⟨by kernel_rfl⟩
instance : AL Try.prog 11 [.string ⟨#[]⟩] := ⟨by kernel_rfl⟩
instance : CT Try.prog 12 none := ⟨by kernel_rfl⟩
instance : SZ Try.prog 12 1 := ⟨by kernel_rfl⟩
theorem un12 : Try.prog.underlying 12 = some (.int .u64) := by kernel_rfl
instance : AL Try.prog 12 [.int .u64 0] := ⟨by kernel_rfl⟩
instance : CT Try.prog 13 (some 2) := ⟨by kernel_rfl⟩
instance : SZ Try.prog 13 2 := ⟨by kernel_rfl⟩
instance : FO Try.prog 13 0 0 := ⟨by kernel_rfl⟩
instance : FO Try.prog 13 1 1 := ⟨by kernel_rfl⟩
instance : ST Try.prog 13 [.string ⟨#[]⟩, .int .u64 0] [(0, 1), (1, 1)] := .of (z := .agg #[.string ⟨#[]⟩, .int .u64 0]) (fs := (match Try.prog.underlying 13 with | some (.struct fs) => fs | _ => #[])) (by kernel_rfl) (by kernel_rfl) (by kernel_rfl) (by kernel_rfl) (by kernel_rfl)
instance : AL Try.prog 13 [.string ⟨#[]⟩, .int .u64 0] := ⟨by kernel_rfl⟩
instance : CT Try.prog 14 (some 2) := ⟨by kernel_rfl⟩
instance : SZ Try.prog 14 2 := ⟨by kernel_rfl⟩
instance : FO Try.prog 14 0 0 := ⟨by kernel_rfl⟩
instance : FO Try.prog 14 1 1 := ⟨by kernel_rfl⟩
instance : ST Try.prog 14 [.string ⟨#[]⟩, .int .u64 0] [(0, 1), (1, 1)] := .of (z := .agg #[.string ⟨#[]⟩, .int .u64 0]) (fs := (match Try.prog.underlying 14 with | some (.struct fs) => fs | _ => #[])) (by kernel_rfl) (by kernel_rfl) (by kernel_rfl) (by kernel_rfl) (by kernel_rfl)
instance : AL Try.prog 14 [.string ⟨#[]⟩, .int .u64 0] := ⟨by kernel_rfl⟩
instance : CT Try.prog 15 none := ⟨by kernel_rfl⟩
instance : SZ Try.prog 15 1 := ⟨by kernel_rfl⟩
instance : AL Try.prog 15 [.pointer none] := ⟨by kernel_rfl⟩
instance : CT Try.prog 16 none := ⟨by kernel_rfl⟩
instance : SZ Try.prog 16 1 := ⟨by kernel_rfl⟩
instance : AL Try.prog 16 [.pointer none] := ⟨by kernel_rfl⟩
instance : CT Try.prog 17 none := ⟨by kernel_rfl⟩
instance : SZ Try.prog 17 1 := ⟨by kernel_rfl⟩
instance : AL Try.prog 17 [.pointer none] := ⟨by kernel_rfl⟩
instance : CT Try.prog 18 (some 1) := ⟨by kernel_rfl⟩
instance : SZ Try.prog 18 1 := ⟨by kernel_rfl⟩
instance : FO Try.prog 18 0 0 := ⟨by kernel_rfl⟩
instance : ST Try.prog 18 [.pointer none] [(0, 1)] := .of (z := .agg #[.pointer none]) (fs := (match Try.prog.underlying 18 with | some (.struct fs) => fs | _ => #[])) (by kernel_rfl) (by kernel_rfl) (by kernel_rfl) (by kernel_rfl) (by kernel_rfl)
instance : AL Try.prog 18 [.pointer none] := ⟨by kernel_rfl⟩
instance : CT Try.prog 19 (some 1) := ⟨by kernel_rfl⟩
instance : SZ Try.prog 19 1 := ⟨by kernel_rfl⟩
instance : FO Try.prog 19 0 0 := ⟨by kernel_rfl⟩
instance : ST Try.prog 19 [.pointer none] [(0, 1)] := .of (z := .agg #[.pointer none]) (fs := (match Try.prog.underlying 19 with | some (.struct fs) => fs | _ => #[])) (by kernel_rfl) (by kernel_rfl) (by kernel_rfl) (by kernel_rfl) (by kernel_rfl)
instance : AL Try.prog 19 [.pointer none] := ⟨by kernel_rfl⟩
instance : CT Try.prog 20 none := ⟨by kernel_rfl⟩
instance : SZ Try.prog 20 1 := ⟨by kernel_rfl⟩
instance : AL Try.prog 20 [.nilIface] := ⟨by kernel_rfl⟩
instance : CT Try.prog 21 none := ⟨by kernel_rfl⟩
instance : SZ Try.prog 21 1 := ⟨by kernel_rfl⟩
theorem un21 : Try.prog.underlying 21 = some (.int .i32) := by kernel_rfl
instance : AL Try.prog 21 [.int .i32 0] := ⟨by kernel_rfl⟩
instance : CT Try.prog 22 none := ⟨by kernel_rfl⟩
instance : SZ Try.prog 22 1 := ⟨by kernel_rfl⟩
theorem un22 : Try.prog.underlying 22 = some (.int .u16) := by kernel_rfl
instance : AL Try.prog 22 [.int .u16 0] := ⟨by kernel_rfl⟩
instance : CT Try.prog 23 none := ⟨by kernel_rfl⟩
instance : SZ Try.prog 23 1 := ⟨by kernel_rfl⟩
instance : EL Try.prog 23 (none, 1) := ⟨by kernel_rfl⟩
instance : UN Try.prog 23 (.slice 5) := ⟨by kernel_rfl⟩
instance : BS Try.prog 23 5 1 (.int .u8 0) := .of (by kernel_rfl) (by kernel_rfl) (by kernel_rfl) (by kernel_rfl) (by kernel_rfl)
instance : MK Try.prog 23 5 1 (.int .u8 0) := .of (inf := Try.t5) (by kernel_rfl) (by kernel_rfl) (by kernel_rfl) (by kernel_rfl) (by kernel_rfl) (by kernel_rfl) (by kernel_rfl)
instance : AP Try.prog 23 23 5 1 1 := .of (inf := Try.t5) (z := .int .u8 0) (e₂ := 5) (by kernel_rfl) (by kernel_rfl) (by kernel_rfl) (by kernel_rfl) (by kernel_rfl) (by kernel_rfl) (by decide) (by kernel_rfl) (by kernel_rfl)
instance : AL Try.prog 23 [.slice none 0 0] := ⟨by kernel_rfl⟩
instance : CT Try.prog 24 (some 3) := ⟨by kernel_rfl⟩
instance : SZ Try.prog 24 3 := ⟨by kernel_rfl⟩
instance : FO Try.prog 24 0 0 := ⟨by kernel_rfl⟩
instance : FO Try.prog 24 1 1 := ⟨by kernel_rfl⟩
instance : FO Try.prog 24 2 2 := ⟨by kernel_rfl⟩
instance : ST Try.prog 24 [.int .u16 0, .int .u8 0, .slice none 0 0] [(0, 1), (1, 1), (2, 1)] := .of (z := .agg #[.int .u16 0, .int .u8 0, .slice none 0 0]) (fs := (match Try.prog.underlying 24 with | some (.struct fs) => fs | _ => #[])) (by kernel_rfl) (by kernel_rfl) (by kernel_rfl) (by kernel_rfl) (by kernel_rfl)
instance : AL Try.prog 24 [.int .u16 0, .int .u8 0, .slice none 0 0] := ⟨by kernel_rfl⟩
instance : CT Try.prog 25 (some 3) := ⟨by kernel_rfl⟩
instance : SZ Try.prog 25 3 := ⟨by kernel_rfl⟩
instance : FO Try.prog 25 0 0 := ⟨by kernel_rfl⟩
instance : FO Try.prog 25 1 1 := ⟨by kernel_rfl⟩
instance : FO Try.prog 25 2 2 := ⟨by kernel_rfl⟩
instance : ST Try.prog 25 [.int .u16 0, .int .u8 0, .slice none 0 0] [(0, 1), (1, 1), (2, 1)] := .of (z := .agg #[.int .u16 0, .int .u8 0, .slice none 0 0]) (fs := (match Try.prog.underlying 25 with | some (.struct fs) => fs | _ => #[])) (by kernel_rfl) (by kernel_rfl) (by kernel_rfl) (by kernel_rfl) (by kernel_rfl)
instance : AL Try.prog 25 [.int .u16 0, .int .u8 0, .slice none 0 0] := ⟨by kernel_rfl⟩
instance : CT Try.prog 26 none := ⟨by kernel_rfl⟩
instance : SZ Try.prog 26 1 := ⟨by kernel_rfl⟩
instance : AL Try.prog 26 [.nilFunc] := ⟨by kernel_rfl⟩
instance : CT Try.prog 27 none := ⟨by kernel_rfl⟩
instance : SZ Try.prog 27 1 := ⟨by kernel_rfl⟩
theorem un27 : Try.prog.underlying 27 = some (.int .i64) := by kernel_rfl
instance : AL Try.prog 27 [.int .i64 0] := ⟨by kernel_rfl⟩
instance : CT Try.prog 28 none := ⟨by kernel_rfl⟩
instance : SZ Try.prog 28 1 := ⟨by kernel_rfl⟩
instance : CT Try.prog 29 none := ⟨by kernel_rfl⟩
instance : SZ Try.prog 29 1 := ⟨by kernel_rfl⟩
instance : AL Try.prog 29 [.nilFunc] := ⟨by kernel_rfl⟩
instance : CT Try.prog 30 none := ⟨by kernel_rfl⟩
instance : SZ Try.prog 30 1 := ⟨by kernel_rfl⟩
instance : AL Try.prog 30 [.nilFunc] := ⟨by kernel_rfl⟩
instance : CT Try.prog 31 none := ⟨by kernel_rfl⟩
instance : SZ Try.prog 31 1 := ⟨by kernel_rfl⟩
instance : AL Try.prog 31 [.nilFunc] := ⟨by kernel_rfl⟩
instance : CT Try.prog 32 none := ⟨by kernel_rfl⟩
instance : SZ Try.prog 32 1 := ⟨by kernel_rfl⟩
instance : EL Try.prog 32 (none, 3) := ⟨by kernel_rfl⟩
instance : UN Try.prog 32 (.slice 25) := ⟨by kernel_rfl⟩
instance : BS Try.prog 32 25 3 (.agg #[.int .u16 0, .int .u8 0, .slice none 0 0]) := .of (by kernel_rfl) (by kernel_rfl) (by kernel_rfl) (by kernel_rfl) (by kernel_rfl)
instance : AP Try.prog 32 32 25 3 32 := .of (inf := Try.t25) (z := .agg #[.int .u16 0, .int .u8 0, .slice none 0 0]) (e₂ := 25) (by kernel_rfl) (by kernel_rfl) (by kernel_rfl) (by kernel_rfl) (by kernel_rfl) (by kernel_rfl) (by decide) (by kernel_rfl) (by kernel_rfl)
instance : AL Try.prog 32 [.slice none 0 0] := ⟨by kernel_rfl⟩
instance : CT Try.prog 33 none := ⟨by kernel_rfl⟩
instance : SZ Try.prog 33 1 := ⟨by kernel_rfl⟩
instance : CT Try.prog 34 none := ⟨by kernel_rfl⟩
instance : SZ Try.prog 34 1 := ⟨by kernel_rfl⟩
instance : AL Try.prog 34 [.nilFunc] := ⟨by kernel_rfl⟩
instance : CT Try.prog 35 none := ⟨by kernel_rfl⟩
instance : SZ Try.prog 35 1 := ⟨by kernel_rfl⟩
instance : AL Try.prog 35 [.nilFunc] := ⟨by kernel_rfl⟩
instance : CT Try.prog 36 none := ⟨by kernel_rfl⟩
instance : SZ Try.prog 36 1 := ⟨by kernel_rfl⟩
instance : AL Try.prog 36 [.nilFunc] := ⟨by kernel_rfl⟩
instance : CT Try.prog 37 none := ⟨by kernel_rfl⟩
instance : SZ Try.prog 37 1 := ⟨by kernel_rfl⟩
instance : AL Try.prog 37 [.nilFunc] := ⟨by kernel_rfl⟩
instance : CT Try.prog 38 none := ⟨by kernel_rfl⟩
instance : SZ Try.prog 38 1 := ⟨by kernel_rfl⟩
instance : AL Try.prog 38 [.nilFunc] := ⟨by kernel_rfl⟩
instance : CT Try.prog 39 none := ⟨by kernel_rfl⟩
instance : SZ Try.prog 39 1 := ⟨by kernel_rfl⟩
instance : CT Try.prog 40 none := ⟨by kernel_rfl⟩
instance : SZ Try.prog 40 1 := ⟨by kernel_rfl⟩
instance : AL Try.prog 40 [.nilFunc] := ⟨by kernel_rfl⟩
instance : CT Try.prog 41 none := ⟨by kernel_rfl⟩
instance : SZ Try.prog 41 1 := ⟨by kernel_rfl⟩
instance : AL Try.prog 41 [.nilFunc] := ⟨by kernel_rfl⟩
instance : CT Try.prog 42 none := ⟨by kernel_rfl⟩
instance : SZ Try.prog 42 1 := ⟨by kernel_rfl⟩
instance : AL Try.prog 42 [.nilFunc] := ⟨by kernel_rfl⟩
instance : CT Try.prog 43 none := ⟨by kernel_rfl⟩
instance : SZ Try.prog 43 1 := ⟨by kernel_rfl⟩
instance : AL Try.prog 43 [.nilFunc] := ⟨by kernel_rfl⟩
instance : CT Try.prog 44 none := ⟨by kernel_rfl⟩
instance : SZ Try.prog 44 1 := ⟨by kernel_rfl⟩
theorem un44 : Try.prog.underlying 44 = some (.int .u32) := by kernel_rfl
instance : AL Try.prog 44 [.int .u32 0] := ⟨by kernel_rfl⟩
instance : CT Try.prog 45 (some 3) := ⟨by kernel_rfl⟩
instance : SZ Try.prog 45 3 := ⟨by kernel_rfl⟩
instance : FO Try.prog 45 0 0 := ⟨by kernel_rfl⟩
instance : FO Try.prog 45 1 1 := ⟨by kernel_rfl⟩
instance : FO Try.prog 45 2 2 := ⟨by kernel_rfl⟩
instance : ST Try.prog 45 [.int .u16 0, .int .u16 0, .int .u32 0] [(0, 1), (1, 1), (2, 1)] := .of (z := .agg #[.int .u16 0, .int .u16 0, .int .u32 0]) (fs := (match Try.prog.underlying 45 with | some (.struct fs) => fs | _ => #[])) (by kernel_rfl) (by kernel_rfl) (by kernel_rfl) (by kernel_rfl) (by kernel_rfl)
instance : AL Try.prog 45 [.int .u16 0, .int .u16 0, .int .u32 0] := ⟨by kernel_rfl⟩
instance : CT Try.prog 46 (some 3) := ⟨by kernel_rfl⟩
instance : SZ Try.prog 46 3 := ⟨by kernel_rfl⟩
instance : FO Try.prog 46 0 0 := ⟨by kernel_rfl⟩
instance : FO Try.prog 46 1 1 := ⟨by kernel_rfl⟩
instance : FO Try.prog 46 2 2 := ⟨by kernel_rfl⟩
instance : ST Try.prog 46 [.int .u16 0, .int .u16 0, .int .u32 0] [(0, 1), (1, 1), (2, 1)] := .of (z := .agg #[.int .u16 0, .int .u16 0, .int .u32 0]) (fs := (match Try.prog.underlying 46 with | some (.struct fs) => fs | _ => #[])) (by kernel_rfl) (by kernel_rfl) (by kernel_rfl) (by kernel_rfl) (by kernel_rfl)
instance : AL Try.prog 46 [.int .u16 0, .int .u16 0, .int .u32 0] := ⟨by kernel_rfl⟩
instance : CT Try.prog 47 none := ⟨by kernel_rfl⟩
instance : SZ Try.prog 47 1 := ⟨by kernel_rfl⟩
instance : AL Try.prog 47 [.nilFunc] := ⟨by kernel_rfl⟩
instance : CT Try.prog 48 none := ⟨by kernel_rfl⟩
instance : SZ Try.prog 48 1 := ⟨by kernel_rfl⟩
instance : AL Try.prog 48 [.nilFunc] := ⟨by kernel_rfl⟩
instance : CT Try.prog 49 none := ⟨by kernel_rfl⟩
instance : SZ Try.prog 49 1 := ⟨by kernel_rfl⟩
instance : CT Try.prog 50 none := ⟨by kernel_rfl⟩
instance : SZ Try.prog 50 1 := ⟨by kernel_rfl⟩
instance : AL Try.prog 50 [.nilFunc] := ⟨by kernel_rfl⟩
instance : CT Try.prog 51 none := ⟨by kernel_rfl⟩
instance : SZ Try.prog 51 1 := ⟨by kernel_rfl⟩
instance : AL Try.prog 51 [.nilFunc] := ⟨by kernel_rfl⟩
instance : CT Try.prog 52 none := ⟨by kernel_rfl⟩
instance : SZ Try.prog 52 1 := ⟨by kernel_rfl⟩
instance : AL Try.prog 52 [.nilFunc] := ⟨by kernel_rfl⟩
instance : CT Try.prog 53 none := ⟨by kernel_rfl⟩
instance : SZ Try.prog 53 1 := ⟨by kernel_rfl⟩
instance : EL Try.prog 53 (none, 1) := ⟨by kernel_rfl⟩
instance : UN Try.prog 53 (.slice 44) := ⟨by kernel_rfl⟩
instance : BS Try.prog 53 44 1 (.int .u32 0) := .of (by kernel_rfl) (by kernel_rfl) (by kernel_rfl) (by kernel_rfl) (by kernel_rfl)
instance : MK Try.prog 53 44 4 (.int .u32 0) := .of (inf := Try.t44) (by kernel_rfl) (by kernel_rfl) (by kernel_rfl) (by kernel_rfl) (by kernel_rfl) (by kernel_rfl) (by kernel_rfl)
instance : AP Try.prog 53 53 44 1 4 := .of (inf := Try.t44) (z := .int .u32 0) (e₂ := 44) (by kernel_rfl) (by kernel_rfl) (by kernel_rfl) (by kernel_rfl) (by kernel_rfl) (by kernel_rfl) (by decide) (by kernel_rfl) (by kernel_rfl)
instance : AL Try.prog 53 [.slice none 0 0] := ⟨by kernel_rfl⟩
instance : CT Try.prog 54 none := ⟨by kernel_rfl⟩
instance : SZ Try.prog 54 1 := ⟨by kernel_rfl⟩
instance : EL Try.prog 54 (none, 2) := ⟨by kernel_rfl⟩
instance : UN Try.prog 54 (.slice 82) := ⟨by kernel_rfl⟩
instance : BS Try.prog 54 82 2 (.agg #[.int .u16 0, .int .u16 0]) := .of (by kernel_rfl) (by kernel_rfl) (by kernel_rfl) (by kernel_rfl) (by kernel_rfl)
instance : AP Try.prog 54 54 82 2 4 := .of (inf := Try.t82) (z := .agg #[.int .u16 0, .int .u16 0]) (e₂ := 82) (by kernel_rfl) (by kernel_rfl) (by kernel_rfl) (by kernel_rfl) (by kernel_rfl) (by kernel_rfl) (by decide) (by kernel_rfl) (by kernel_rfl)
instance : AL Try.prog 54 [.slice none 0 0] := ⟨by kernel_rfl⟩
instance : CT Try.prog 55 none := ⟨by kernel_rfl⟩
instance : SZ Try.prog 55 1 := ⟨by kernel_rfl⟩
instance : EL Try.prog 55 (none, 2) := ⟨by kernel_rfl⟩
instance : UN Try.prog 55 (.slice 84) := ⟨by kernel_rfl⟩
instance : BS Try.prog 55 84 2 (.agg #[.int .u16 0, .slice none 0 0]) := .of (by kernel_rfl) (by kernel_rfl) (by kernel_rfl) (by kernel_rfl) (by kernel_rfl)
instance : AP Try.prog 55 55 84 2 32 := .of (inf := Try.t84) (z := .agg #[.int .u16 0, .slice none 0 0]) (e₂ := 84) (by kernel_rfl) (by kernel_rfl) (by kernel_rfl) (by kernel_rfl) (by kernel_rfl) (by kernel_rfl) (by decide) (by kernel_rfl) (by kernel_rfl)
instance : AL Try.prog 55 [.slice none 0 0] := ⟨by kernel_rfl⟩
instance : CT Try.prog 56 (some 15) := ⟨by kernel_rfl⟩
instance : SZ Try.prog 56 15 := ⟨by kernel_rfl⟩
instance : FO Try.prog 56 0 0 := ⟨by kernel_rfl⟩
instance : FO Try.prog 56 1 1 := ⟨by kernel_rfl⟩
instance : FO Try.prog 56 2 2 := ⟨by kernel_rfl⟩
instance : FO Try.prog 56 3 3 := ⟨by kernel_rfl⟩
instance : FO Try.prog 56 4 4 := ⟨by kernel_rfl⟩
instance : FO Try.prog 56 5 5 := ⟨by kernel_rfl⟩
instance : FO Try.prog 56 6 6 := ⟨by kernel_rfl⟩
instance : FO Try.prog 56 7 7 := ⟨by kernel_rfl⟩
instance : FO Try.prog 56 8 8 := ⟨by kernel_rfl⟩
instance : FO Try.prog 56 9 9 := ⟨by kernel_rfl⟩
instance : FO Try.prog 56 10 10 := ⟨by kernel_rfl⟩
instance : FO Try.prog 56 11 11 := ⟨by kernel_rfl⟩
instance : FO Try.prog 56 12 12 := ⟨by kernel_rfl⟩
instance : FO Try.prog 56 13 13 := ⟨by kernel_rfl⟩
instance : FO Try.prog 56 14 14 := ⟨by kernel_rfl⟩
instance : ST Try.prog 56 [.int .u8 0, .int .u8 0, .int .u32 0, .int .u32 0, .int .u32 0, .int .u16 0, .int .u16 0, .int .u16 0, .int .u16 0, .int .u32 0, .slice none 0 0, .slice none 0 0, .slice none 0 0, .slice none 0 0, .slice none 0 0] [(0, 1), (1, 1), (2, 1), (3, 1), (4, 1), (5, 1), (6, 1), (7, 1), (8, 1), (9, 1), (10, 1), (11, 1), (12, 1), (13, 1), (14, 1)] := .of (z := .agg #[.int .u8 0, .int .u8 0, .int .u32 0, .int .u32 0, .int .u32 0, .int .u16 0, .int .u16 0, .int .u16 0, .int .u16 0, .int .u32 0, .slice none 0 0, .slice none 0 0, .slice none 0 0, .slice none 0 0, .slice none 0 0]) (fs := (match Try.prog.underlying 56 with | some (.struct fs) => fs | _ => #[])) (by kernel_rfl) (by kernel_rfl) (by kernel_rfl) (by kernel_rfl) (by kernel_rfl)
instance : AL Try.prog 56 [.int .u8 0, .int .u8 0, .int .u32 0, .int .u32 0, .int .u32 0, .int .u16 0, .int .u16 0, .int .u16 0, .int .u16 0, .int .u32 0, .slice none 0 0, .slice none 0 0, .slice none 0 0, .slice none 0 0, .slice none 0 0] := ⟨by kernel_rfl⟩
instance : CT Try.prog 57 (some 15) := ⟨by kernel_rfl⟩
instance : SZ Try.prog 57 15 := ⟨by kernel_rfl⟩
instance : FO Try.prog 57 0 0 := ⟨by kernel_rfl⟩
instance : FO Try.prog 57 1 1 := ⟨by kernel_rfl⟩
instance : FO Try.prog 57 2 2 := ⟨by kernel_rfl⟩
instance : FO Try.prog 57 3 3 := ⟨by kernel_rfl⟩
instance : FO Try.prog 57 4 4 := ⟨by kernel_rfl⟩
instance : FO Try.prog 57 5 5 := ⟨by kernel_rfl⟩
instance : FO Try.prog 57 6 6 := ⟨by kernel_rfl⟩
instance : FO Try.prog 57 7 7 := ⟨by kernel_rfl⟩
instance : FO Try.prog 57 8 8 := ⟨by kernel_rfl⟩
instance : FO Try.prog 57 9 9 := ⟨by kernel_rfl⟩
instance : FO Try.prog 57 10 10 := ⟨by kernel_rfl⟩
instance : FO Try.prog 57 11 11 := ⟨by kernel_rfl⟩
instance : FO Try.prog 57 12 12 := ⟨by kernel_rfl⟩
instance : FO Try.prog 57 13 13 := ⟨by kernel_rfl⟩
instance : FO Try.prog 57 14 14 := ⟨by kernel_rfl⟩
instance : ST Try.prog 57 [.int .u8 0, .int .u8 0, .int .u32 0, .int .u32 0, .int .u32 0, .int .u16 0, .int .u16 0, .int .u16 0, .int .u16 0, .int .u32 0, .slice none 0 0, .slice none 0 0, .slice none 0 0, .slice none 0 0, .slice none 0 0] [(0, 1), (1, 1), (2, 1), (3, 1), (4, 1), (5, 1), (6, 1), (7, 1), (8, 1), (9, 1), (10, 1), (11, 1), (12, 1), (13, 1), (14, 1)] := .of (z := .agg #[.int .u8 0, .int .u8 0, .int .u32 0, .int .u32 0, .int .u32 0, .int .u16 0, .int .u16 0, .int .u16 0, .int .u16 0, .int .u32 0, .slice none 0 0, .slice none 0 0, .slice none 0 0, .slice none 0 0, .slice none 0 0]) (fs := (match Try.prog.underlying 57 with | some (.struct fs) => fs | _ => #[])) (by kernel_rfl) (by kernel_rfl) (by kernel_rfl) (by kernel_rfl) (by kernel_rfl)
instance : AL Try.prog 57 [.int .u8 0, .int .u8 0, .int .u32 0, .int .u32 0, .int .u32 0, .int .u16 0, .int .u16 0, .int .u16 0, .int .u16 0, .int .u32 0, .slice none 0 0, .slice none 0 0, .slice none 0 0, .slice none 0 0, .slice none 0 0] := ⟨by kernel_rfl⟩
instance : CT Try.prog 58 none := ⟨by kernel_rfl⟩
instance : SZ Try.prog 58 1 := ⟨by kernel_rfl⟩
instance : AL Try.prog 58 [.nilFunc] := ⟨by kernel_rfl⟩
instance : CT Try.prog 59 none := ⟨by kernel_rfl⟩
instance : SZ Try.prog 59 1 := ⟨by kernel_rfl⟩
instance : AL Try.prog 59 [.nilFunc] := ⟨by kernel_rfl⟩
instance : CT Try.prog 60 none := ⟨by kernel_rfl⟩
instance : SZ Try.prog 60 1 := ⟨by kernel_rfl⟩
instance : CT Try.prog 61 none := ⟨by kernel_rfl⟩
instance : SZ Try.prog 61 1 := ⟨by kernel_rfl⟩
instance : AL Try.prog 61 [.nilFunc] := ⟨by kernel_rfl⟩
instance : CT Try.prog 62 none := ⟨by kernel_rfl⟩
instance : SZ Try.prog 62 1 := ⟨by kernel_rfl⟩
instance : AL Try.prog 62 [.nilFunc] := ⟨by kernel_rfl⟩
instance : CT Try.prog 63 none := ⟨by kernel_rfl⟩
instance : SZ Try.prog 63 1 := ⟨by kernel_rfl⟩
instance : AL Try.prog 63 [.nilFunc] := ⟨by kernel_rfl⟩
instance : CT Try.prog 64 none := ⟨by kernel_rfl⟩
instance : SZ Try.prog 64 1 := ⟨by kernel_rfl⟩
instance : AL Try.prog 64 [.nilFunc] := ⟨by kernel_rfl⟩
instance : CT Try.prog 65 none := ⟨by kernel_rfl⟩
instance : SZ Try.prog 65 1 := ⟨by kernel_rfl⟩
instance : AL Try.prog 65 [.nilFunc] := ⟨by kernel_rfl⟩
instance : CT Try.prog 66 none := ⟨by kernel_rfl⟩
instance : SZ Try.prog 66 1 := ⟨by kernel_rfl⟩
theorem un66 : Try.prog.underlying 66 = some (.int .u64) := by kernel_rfl
instance : AL Try.prog 66 [.int .u64 0] := ⟨by kernel_rfl⟩
instance : CT Try.prog 67 none := ⟨by kernel_rfl⟩
instance : SZ Try.prog 67 1 := ⟨by kernel_rfl⟩
instance : AL Try.prog 67 [.nilFunc] := ⟨by kernel_rfl⟩
instance : CT Try.prog 68 none := ⟨by kernel_rfl⟩
instance : SZ Try.prog 68 1 := ⟨by kernel_rfl⟩
instance : EL Try.prog 68 (none, 1) := ⟨by kernel_rfl⟩
instance : UN Try.prog 68 (.slice 23) := ⟨by kernel_rfl⟩
instance : BS Try.prog 68 23 1 (.slice none 0 0) := .of (by kernel_rfl) (by kernel_rfl) (by kernel_rfl) (by kernel_rfl) (by kernel_rfl)
instance : MK Try.prog 68 23 24 (.slice none 0 0) := .of (inf := Try.t23) (by kernel_rfl) (by kernel_rfl) (by kernel_rfl) (by kernel_rfl) (by kernel_rfl) (by kernel_rfl) (by kernel_rfl)
instance : AP Try.prog 68 68 23 1 24 := .of (inf := Try.t23) (z := .slice none 0 0) (e₂ := 23) (by kernel_rfl) (by kernel_rfl) (by kernel_rfl) (by kernel_rfl) (by kernel_rfl) (by kernel_rfl) (by decide) (by kernel_rfl) (by kernel_rfl)
instance : AL Try.prog 68 [.slice none 0 0] := ⟨by kernel_rfl⟩
instance : CT Try.prog 69 none := ⟨by kernel_rfl⟩
instance : SZ Try.prog 69 1 := ⟨by kernel_rfl⟩
instance : AL Try.prog 69 [.nilFunc] := ⟨by kernel_rfl⟩
instance : CT Try.prog 70 none := ⟨by kernel_rfl⟩
instance : SZ Try.prog 70 1 := ⟨by kernel_rfl⟩
theorem un70 : Try.prog.underlying 70 = some (.int .u64) := by kernel_rfl
instance : AL Try.prog 70 [.int .u64 0] := ⟨by kernel_rfl⟩
instance : CT Try.prog 71 none := ⟨by kernel_rfl⟩
instance : SZ Try.prog 71 1 := ⟨by kernel_rfl⟩
instance : AL Try.prog 71 [.nilFunc] := ⟨by kernel_rfl⟩
instance : CT Try.prog 72 none := ⟨by kernel_rfl⟩
instance : SZ Try.prog 72 1 := ⟨by kernel_rfl⟩
instance : CT Try.prog 73 none := ⟨by kernel_rfl⟩
instance : SZ Try.prog 73 1 := ⟨by kernel_rfl⟩
instance : AL Try.prog 73 [.nilFunc] := ⟨by kernel_rfl⟩
instance : CT Try.prog 74 none := ⟨by kernel_rfl⟩
instance : SZ Try.prog 74 1 := ⟨by kernel_rfl⟩
instance : AL Try.prog 74 [.nilFunc] := ⟨by kernel_rfl⟩
instance : CT Try.prog 75 none := ⟨by kernel_rfl⟩
instance : SZ Try.prog 75 1 := ⟨by kernel_rfl⟩
instance : AL Try.prog 75 [.nilFunc] := ⟨by kernel_rfl⟩
instance : CT Try.prog 76 none := ⟨by kernel_rfl⟩
instance : SZ Try.prog 76 1 := ⟨by kernel_rfl⟩
instance : AL Try.prog 76 [.nilFunc] := ⟨by kernel_rfl⟩
instance : CT Try.prog 77 none := ⟨by kernel_rfl⟩
instance : SZ Try.prog 77 1 := ⟨by kernel_rfl⟩
instance : AL Try.prog 77 [.nilFunc] := ⟨by kernel_rfl⟩
instance : CT Try.prog 78 none := ⟨by kernel_rfl⟩
instance : SZ Try.prog 78 1 := ⟨by kernel_rfl⟩
instance : AL Try.prog 78 [.nilFunc] := ⟨by kernel_rfl⟩
instance : CT Try.prog 79 none := ⟨by kernel_rfl⟩
instance : SZ Try.prog 79 1 := ⟨by kernel_rfl⟩
instance : AL Try.prog 79 [.nilFunc] := ⟨by kernel_rfl⟩
instance : CT Try.prog 80 none := ⟨by kernel_rfl⟩
instance : SZ Try.prog 80 1 := ⟨by kernel_rfl⟩
instance : AL Try.prog 80 [.nilFunc] := ⟨by kernel_rfl⟩
instance : CT Try.prog 81 (some 2) := ⟨by kernel_rfl⟩
instance : SZ Try.prog 81 2 := ⟨by kernel_rfl⟩
instance : FO Try.prog 81 0 0 := ⟨by kernel_rfl⟩
instance : FO Try.prog 81 1 1 := ⟨by kernel_rfl⟩
instance : ST Try.prog 81 [.int .u16 0, .int .u16 0] [(0, 1), (1, 1)] := .of (z := .agg #[.int .u16 0, .int .u16 0]) (fs := (match Try.prog.underlying 81 with | some (.struct fs) => fs | _ => #[])) (by kernel_rfl) (by kernel_rfl) (by kernel_rfl) (by kernel_rfl) (by kernel_rfl)
instance : AL Try.prog 81 [.int .u16 0, .int .u16 0] := ⟨by kernel_rfl⟩
instance : CT Try.prog 82 (some 2) := ⟨by kernel_rfl⟩
instance : SZ Try.prog 82 2 := ⟨by kernel_rfl⟩
instance : FO Try.prog 82 0 0 := ⟨by kernel_rfl⟩
instance : FO Try.prog 82 1 1 := ⟨by kernel_rfl⟩
instance : ST Try.prog 82 [.int .u16 0, .int .u16 0] [(0, 1), (1, 1)] := .of (z := .agg #[.int .u16 0, .int .u16 0]) (fs := (match Try.prog.underlying 82 with | some (.struct fs) => fs | _ => #[])) (by kernel_rfl) (by kernel_rfl) (by kernel_rfl) (by kernel_rfl) (by kernel_rfl)
instance : AL Try.prog 82 [.int .u16 0, .int .u16 0] := ⟨by kernel_rfl⟩
instance : CT Try.prog 83 (some 2) := ⟨by kernel_rfl⟩
instance : SZ Try.prog 83 2 := ⟨by kernel_rfl⟩
instance : FO Try.prog 83 0 0 := ⟨by kernel_rfl⟩
instance : FO Try.prog 83 1 1 := ⟨by kernel_rfl⟩
instance : ST Try.prog 83 [.int .u16 0, .slice none 0 0] [(0, 1), (1, 1)] := .of (z := .agg #[.int .u16 0, .slice none 0 0]) (fs := (match Try.prog.underlying 83 with | some (.struct fs) => fs | _ => #[])) (by kernel_rfl) (by kernel_rfl) (by kernel_rfl) (by kernel_rfl) (by kernel_rfl)
instance : AL Try.prog 83 [.int .u16 0, .slice none 0 0] := ⟨by kernel_rfl⟩
instance : CT Try.prog 84 (some 2) := ⟨by kernel_rfl⟩
instance : SZ Try.prog 84 2 := ⟨by kernel_rfl⟩
instance : FO Try.prog 84 0 0 := ⟨by kernel_rfl⟩
instance : FO Try.prog 84 1 1 := ⟨by kernel_rfl⟩
instance : ST Try.prog 84 [.int .u16 0, .slice none 0 0] [(0, 1), (1, 1)] := .of (z := .agg #[.int .u16 0, .slice none 0 0]) (fs := (match Try.prog.underlying 84 with | some (.struct fs) => fs | _ => #[])) (by kernel_rfl) (by kernel_rfl) (by kernel_rfl) (by kernel_rfl) (by kernel_rfl)
instance : AL Try.prog 84 [.int .u16 0, .slice none 0 0] := ⟨by kernel_rfl⟩
instance : CT Try.prog 85 none := ⟨by kernel_rfl⟩
instance : SZ Try.prog 85 1 := ⟨by kernel_rfl⟩
instance : AL Try.prog 85 [.pointer none] := ⟨by kernel_rfl⟩
instance : CT Try.prog 86 (some 2) := ⟨by kernel_rfl⟩
instance : SZ Try.prog 86 2 := ⟨by kernel_rfl⟩
instance : FO Try.prog 86 0 0 := ⟨by kernel_rfl⟩
instance : FO Try.prog 86 1 1 := ⟨by kernel_rfl⟩
instance : ST Try.prog 86 [.slice none 0 0, .int .i64 0] [(0, 1), (1, 1)] := .of (z := .agg #[.slice none 0 0, .int .i64 0]) (fs := (match Try.prog.underlying 86 with | some (.struct fs) => fs | _ => #[])) (by kernel_rfl) (by kernel_rfl) (by kernel_rfl) (by kernel_rfl) (by kernel_rfl)
instance : AL Try.prog 86 [.slice none 0 0, .int .i64 0] := ⟨by kernel_rfl⟩
instance : CT Try.prog 87 (some 2) := ⟨by kernel_rfl⟩
instance : SZ Try.prog 87 2 := ⟨by kernel_rfl⟩
instance : FO Try.prog 87 0 0 := ⟨by kernel_rfl⟩
instance : FO Try.prog 87 1 1 := ⟨by kernel_rfl⟩
instance : ST Try.prog 87 [.slice none 0 0, .int .i64 0] [(0, 1), (1, 1)] := .of (z := .agg #[.slice none 0 0, .int .i64 0]) (fs := (match Try.prog.underlying 87 with | some (.struct fs) => fs | _ => #[])) (by kernel_rfl) (by kernel_rfl) (by kernel_rfl) (by kernel_rfl) (by kernel_rfl)
instance : AL Try.prog 87 [.slice none 0 0, .int .i64 0] := ⟨by kernel_rfl⟩
instance : CT Try.prog 88 none := ⟨by kernel_rfl⟩
instance : SZ Try.prog 88 1 := ⟨by kernel_rfl⟩
instance : AL Try.prog 88 [.nilFunc] := ⟨by kernel_rfl⟩
instance : CT Try.prog 89 none := ⟨by kernel_rfl⟩
instance : SZ Try.prog 89 1 := ⟨by kernel_rfl⟩
instance : AL Try.prog 89 [.nilFunc] := ⟨by kernel_rfl⟩
instance : CT Try.prog 90 none := ⟨by kernel_rfl⟩
instance : SZ Try.prog 90 1 := ⟨by kernel_rfl⟩
instance : AL Try.prog 90 [.nilFunc] := ⟨by kernel_rfl⟩
instance : CT Try.prog 91 none := ⟨by kernel_rfl⟩
instance : SZ Try.prog 91 1 := ⟨by kernel_rfl⟩
instance : AL Try.prog 91 [.nilFunc] := ⟨by kernel_rfl⟩
instance : CT Try.prog 92 none := ⟨by kernel_rfl⟩
instance : SZ Try.prog 92 1 := ⟨by kernel_rfl⟩
instance : AL Try.prog 92 [.nilFunc] := ⟨by kernel_rfl⟩
instance : CT Try.prog 93 none := ⟨by kernel_rfl⟩
instance : SZ Try.prog 93 1 := ⟨by kernel_rfl⟩
instance : AL Try.prog 93 [.nilFunc] := ⟨by kernel_rfl⟩
instance : CT Try.prog 94 none := ⟨by kernel_rfl⟩
instance : SZ Try.prog 94 1 := ⟨by kernel_rfl⟩
instance : AL Try.prog 94 [.pointer none] := ⟨by kernel_rfl⟩
instance : CT Try.prog 95 (some 2) := ⟨by kernel_rfl⟩
instance : SZ Try.prog 95 2 := ⟨by kernel_rfl⟩
instance : FO Try.prog 95 0 0 := ⟨by kernel_rfl⟩
instance : FO Try.prog 95 1 1 := ⟨by kernel_rfl⟩
instance : ST Try.prog 95 [.slice none 0 0, .bool false] [(0, 1), (1, 1)] := .of (z := .agg #[.slice none 0 0, .bool false]) (fs := (match Try.prog.underlying 95 with | some (.struct fs) => fs | _ => #[])) (by kernel_rfl) (by kernel_rfl) (by kernel_rfl) (by kernel_rfl) (by kernel_rfl)
instance : AL Try.prog 95 [.slice none 0 0, .bool false] := ⟨by kernel_rfl⟩
instance : CT Try.prog 96 (some 2) := ⟨by kernel_rfl⟩
instance : SZ Try.prog 96 2 := ⟨by kernel_rfl⟩
instance : FO Try.prog 96 0 0 := ⟨by kernel_rfl⟩
instance : FO Try.prog 96 1 1 := ⟨by kernel_rfl⟩
instance : ST Try.prog 96 [.slice none 0 0, .bool false] [(0, 1), (1, 1)] := .of (z := .agg #[.slice none 0 0, .bool false]) (fs := (match Try.prog.underlying 96 with | some (.struct fs) => fs | _ => #[])) (by kernel_rfl) (by kernel_rfl) (by kernel_rfl) (by kernel_rfl) (by kernel_rfl)
instance : AL Try.prog 96 [.slice none 0 0, .bool false] := ⟨by kernel_rfl⟩
instance : CT Try.prog 97 none := ⟨by kernel_rfl⟩
instance : SZ Try.prog 97 1 := ⟨by kernel_rfl⟩
instance : AL Try.prog 97 [.nilFunc] := ⟨by kernel_rfl⟩
instance : CT Try.prog 98 none := ⟨by kernel_rfl⟩
instance : SZ Try.prog 98 1 := ⟨by kernel_rfl⟩
instance : AL Try.prog 98 [.nilFunc] := ⟨by kernel_rfl⟩
instance : CT Try.prog 99 none := ⟨by kernel_rfl⟩
instance : SZ Try.prog 99 1 := ⟨by kernel_rfl⟩
instance : AL Try.prog 99 [.nilFunc] := ⟨by kernel_rfl⟩
instance : CT Try.prog 100 none := ⟨by kernel_rfl⟩
instance : SZ Try.prog 100 1 := ⟨by kernel_rfl⟩
instance : AL Try.prog 100 [.nilFunc] := ⟨by kernel_rfl⟩
instance : CT Try.prog 101 none := ⟨by kernel_rfl⟩
instance : SZ Try.prog 101 1 := ⟨by kernel_rfl⟩
instance : AL Try.prog 101 [.pointer none] := ⟨by kernel_rfl⟩
instance : CT Try.prog 102 none := ⟨by kernel_rfl⟩
instance : SZ Try.prog 102 1 := ⟨by kernel_rfl⟩
instance : AL Try.prog 102 [.nilFunc] := ⟨by kernel_rfl⟩
instance : CT Try.prog 103 none := ⟨by kernel_rfl⟩
instance : SZ Try.prog 103 1 := ⟨by kernel_rfl⟩
instance : CT Try.prog 104 none := ⟨by kernel_rfl⟩
instance : SZ Try.prog 104 1 := ⟨by kernel_rfl⟩
instance : AL Try.prog 104 [.nilFunc] := ⟨by kernel_rfl⟩
instance : CT Try.prog 105 none := ⟨by kernel_rfl⟩
instance : SZ Try.prog 105 1 := ⟨by kernel_rfl⟩
instance : AL Try.prog 105 [.nilFunc] := ⟨by kernel_rfl⟩
instance : CT Try.prog 106 none := ⟨by kernel_rfl⟩
instance : SZ Try.prog 106 1 := ⟨by kernel_rfl⟩
instance : AL Try.prog 106 [.nilFunc] := ⟨by kernel_rfl⟩
instance : CT Try.prog 107 none := ⟨by kernel_rfl⟩
instance : SZ Try.prog 107 1 := ⟨by kernel_rfl⟩
instance : EL Try.prog 107 (none, 1) := ⟨by kernel_rfl⟩
instance : UN Try.prog 107 (.slice 22) := ⟨by kernel_rfl⟩
instance : BS Try.prog 107 22 1 (.int .u16 0) := .of (by kernel_rfl) (by kernel_rfl) (by kernel_rfl) (by kernel_rfl) (by kernel_rfl)
instance : MK Try.prog 107 22 2 (.int .u16 0) := .of (inf := Try.t22) (by kernel_rfl) (by kernel_rfl) (by kernel_rfl) (by kernel_rfl) (by kernel_rfl) (by kernel_rfl) (by kernel_rfl)
instance : AP Try.prog 107 107 22 1 2 := .of (inf := Try.t22) (z := .int .u16 0) (e₂ := 22) (by kernel_rfl) (by kernel_rfl) (by kernel_rfl) (by kernel_rfl) (by kernel_rfl) (by kernel_rfl) (by decide) (by kernel_rfl) (by kernel_rfl)
instance : AL Try.prog 107 [.slice none 0 0] := ⟨by kernel_rfl⟩
instance : CT Try.prog 108 none := ⟨by kernel_rfl⟩
instance : SZ Try.prog 108 1 := ⟨by kernel_rfl⟩
instance : AL Try.prog 108 [.nilFunc] := ⟨by kernel_rfl⟩
instance : CT Try.prog 109 none := ⟨by kernel_rfl⟩
instance : SZ Try.prog 109 1 := ⟨by kernel_rfl⟩
instance : AL Try.prog 109 [.nilFunc] := ⟨by kernel_rfl⟩
instance : CT Try.prog 110 none := ⟨by kernel_rfl⟩
instance : SZ Try.prog 110 1 := ⟨by kernel_rfl⟩
instance : AL Try.prog 110 [.nilFunc] := ⟨by kernel_rfl⟩
instance : CT Try.prog 111 (some 256) := ⟨by kernel_rfl⟩
instance : SZ Try.prog 111 256 := ⟨by kernel_rfl⟩
instance : EL Try.prog 111 (some 256, 1) := ⟨by kernel_rfl⟩
instance : AL Try.prog 111 [.int .u32 0, .int .u32 0, .int .u32 0, .int .u32 0, .int .u32 0, .int .u32 0, .int .u32 0, .int .u32 0, .int .u32 0, .int .u32 0, .int .u32 0, .int .u32 0, .int .u32 0, .int .u32 0, .int .u32 0, .int .u32 0, .int .u32 0, .int .u32 0, .int .u32 0, .int .u32 0, .int .u32 0, .int .u32 0, .int .u32 0, .int .u32 0, .int .u32 0, .int .u32 0, .int .u32 0, .int .u32 0, .int .u32 0, .int .u32 0, .int .u32 0, .int .u32 0, .int .u32 0, .int .u32 0, .int .u32 0, .int .u32 0, .int .u32 0, .int .u32 0, .int .u32 0, .int .u32 0, .int .u32 0, .int .u32 0, .int .u32 0, .int .u32 0, .int .u32 0, .int .u32 0, .int .u32 0, .int .u32 0, .int .u32 0, .int .u32 0, .int .u32 0, .int .u32 0, .int .u32 0, .int .u32 0, .int .u32 0, .int .u32 0, .int .u32 0, .int .u32 0, .int .u32 0, .int .u32 0, .int .u32 0, .int .u32 0, .int .u32 0, .int .u32 0, .int .u32 0, .int .u32 0, .int .u32 0, .int .u32 0, .int .u32 0, .int .u32 0, .int .u32 0, .int .u32 0, .int .u32 0, .int .u32 0, .int .u32 0, .int .u32 0, .int .u32 0, .int .u32 0, .int .u32 0, .int .u32 0, .int .u32 0, .int .u32 0, .int .u32 0, .int .u32 0, .int .u32 0, .int .u32 0, .int .u32 0, .int .u32 0, .int .u32 0, .int .u32 0, .int .u32 0, .int .u32 0, .int .u32 0, .int .u32 0, .int .u32 0, .int .u32 0, .int .u32 0, .int .u32 0, .int .u32 0, .int .u32 0, .int .u32 0, .int .u32 0, .int .u32 0, .int .u32 0, .int .u32 0, .int .u32 0, .int .u32 0, .int .u32 0, .int .u32 0, .int .u32 0, .int .u32 0, .int .u32 0, .int .u32 0, .int .u32 0, .int .u32 0, .int .u32 0, .int .u32 0, .int .u32 0, .int .u32 0, .int .u32 0, .int .u32 0, .int .u32 0, .int .u32 0, .int .u32 0, .int .u32 0, .int .u32 0, .int .u32 0, .int .u32 0, .int .u32 0, .int .u32 0, .int .u32 0, .int .u32 0, .int .u32 0, .int .u32 0, .int .u32 0, .int .u32 0, .int .u32 0, .int .u32 0, .int .u32 0, .int .u32 0, .int .u32 0, .int .u32 0, .int .u32 0, .int .u32 0, .int .u32 0, .int .u32 0, .int .u32 0, .int .u32 0, .int .u32 0, .int .u32 0, .int .u32 0, .int .u32 0, .int .u32 0, .int .u32 0, .int .u32 0, .int .u32 0, .int .u32 0, .int .u32 0, .int .u32 0, .int .u32 0, .int .u32 0, .int .u32 0, .int .u32 0, .int .u32 0, .int .u32 0, .int .u32 0, .int .u32 0, .int .u32 0, .int .u32 0, .int .u32 0, .int .u32 0, .int .u32 0, .int .u32 0, .int .u32 0, .int .u32 0, .int .u32 0, .int .u32 0, .int .u32 0, .int .u32 0, .int .u32 0, .int .u32 0, .int .u32 0, .int .u32 0, .int .u32 0, .int .u32 0, .int .u32 0, .int .u32 0, .int .u32 0, .int .u32 0, .int .u32 0, .int .u32 0, .int .u32 0, .int .u32 0, .int .u32 0, .int .u32 0, .int .u32 0, .int .u32 0, .int .u32 0, .int .u32 0, .int .u32 0, .int .u32 0, .int .u32 0, .int .u32 0, .int .u32 0, .int .u32 0, .int .u32 0, .int .u32 0, .int .u32 0, .int .u32 0, .int .u32 0, .int .u32 0, .int .u32 0, .int .u32 0, .int .u32 0, .int .u32 0, .int .u32 0, .int .u32 0, .int .u32 0, .int .u32 0, .int .u32 0, .int .u32 0, .int .u32 0, .int .u32 0, .int .u32 0, .int .u32 0, .int .u32 0, .int .u32 0, .int .u32 0, .int .u32 0, .int .u32 0, .int .u32 0, .int .u32 0, .int .u32 0, .int .u32 0, .int .u32 0, .int .u32 0, .int .u32 0, .int .u32 0, .int .u32 0, .int .u32 0, .int .u32 0, .int .u32 0, .int .u32 0, .int .u32 0, .int .u32 0, .int .u32 0, .int .u32 0, .int .u32 0, .int .u32 0, .int .u32 0, .int .u32 0, .int .u32 0, .int .u32 0, .int .u32 0, .int .u32 0, .int .u32 0] := ⟨by kernel_rfl⟩
instance : CT Try.prog 112 none := ⟨by kernel_rfl⟩
instance : SZ Try.prog 112 1 := ⟨by kernel_rfl⟩
instance : AL Try.prog 112 [.nilFunc] := ⟨by kernel_rfl⟩
instance : CT Try.prog 113 none := ⟨by kernel_rfl⟩
instance : SZ Try.prog 113 1 := ⟨by kernel_rfl⟩
instance : AL Try.prog 113 [.nilFunc] := ⟨by kernel_rfl⟩
instance : CT Try.prog 114 none := ⟨by kernel_rfl⟩
instance : SZ Try.prog 114 1 := ⟨by kernel_rfl⟩
instance : AL Try.prog 114 [.nilFunc] := ⟨by kernel_rfl⟩
instance : CT Try.prog 115 (some 4) := ⟨by kernel_rfl⟩
instance : SZ Try.prog 115 4 := ⟨by kernel_rfl⟩
instance : FO Try.prog 115 0 0 := ⟨by kernel_rfl⟩
instance : FO Try.prog 115 1 1 := ⟨by kernel_rfl⟩
instance : FO Try.prog 115 2 2 := ⟨by kernel_rfl⟩
instance : FO Try.prog 115 3 3 := ⟨by kernel_rfl⟩
instance : ST Try.prog 115 [.pointer none, .pointer none, .pointer none, .string ⟨#[]⟩] [(0, 1), (1, 1), (2, 1), (3, 1)] := .of (z := .agg #[.pointer none, .pointer none, .pointer none, .string ⟨#[]⟩]) (fs := (match Try.prog.underlying 115 with | some (.struct fs) => fs | _ => #[])) (by kernel_rfl) (by kernel_rfl) (by kernel_rfl) (by kernel_rfl) (by kernel_rfl)
instance : AL Try.prog 115 [.pointer none, .pointer none, .pointer none, .string ⟨#[]⟩] := ⟨by kernel_rfl⟩
instance : CT Try.prog 116 (some 4) := ⟨by kernel_rfl⟩
instance : SZ Try.prog 116 4 := ⟨by kernel_rfl⟩
instance : FO Try.prog 116 0 0 := ⟨by kernel_rfl⟩
instance : FO Try.prog 116 1 1 := ⟨by kernel_rfl⟩
instance : FO Try.prog 116 2 2 := ⟨by kernel_rfl⟩
instance : FO Try.prog 116 3 3 := ⟨by kernel_rfl⟩
instance : ST Try.prog 116 [.pointer none, .pointer none, .pointer none, .string ⟨#[]⟩] [(0, 1), (1, 1), (2, 1), (3, 1)] := .of (z := .agg #[.pointer none, .pointer none, .pointer none, .string ⟨#[]⟩]) (fs := (match Try.prog.underlying 116 with | some (.struct fs) => fs | _ => #[])) (by kernel_rfl) (by kernel_rfl) (by kernel_rfl) (by kernel_rfl) (by kernel_rfl)
instance : AL Try.prog 116 [.pointer none, .pointer none, .pointer none, .string ⟨#[]⟩] := ⟨by kernel_rfl⟩
instance : CT Try.prog 117 (some 0) := ⟨by kernel_rfl⟩
instance : SZ Try.prog 117 0 := ⟨by kernel_rfl⟩
instance : EL Try.prog 117 (some 0, 1) := ⟨by kernel_rfl⟩
instance : AL Try.prog 117 [] := ⟨by kernel_rfl⟩
instance : CT Try.prog 118 (some 0) := ⟨by kernel_rfl⟩
instance : SZ Try.prog 118 0 := ⟨by kernel_rfl⟩
instance : ST Try.prog 118 [] [(0, 0)] := .of (z := .agg #[]) (fs := (match Try.prog.underlying 118 with | some (.struct fs) => fs | _ => #[])) (by kernel_rfl) (by kernel_rfl) (by kernel_rfl) (by kernel_rfl) (by kernel_rfl)
instance : AL Try.prog 118 [] := ⟨by kernel_rfl⟩
instance : CT Try.prog 119 (some 0) := ⟨by kernel_rfl⟩
instance : SZ Try.prog 119 0 := ⟨by kernel_rfl⟩
instance : ST Try.prog 119 [] [(0, 0)] := .of (z := .agg #[]) (fs := (match Try.prog.underlying 119 with | some (.struct fs) => fs | _ => #[])) (by kernel_rfl) (by kernel_rfl) (by kernel_rfl) (by kernel_rfl) (by kernel_rfl)
instance : AL Try.prog 119 [] := ⟨by kernel_rfl⟩
instance : CT Try.prog 120 none := ⟨by kernel_rfl⟩
instance : SZ Try.prog 120 1 := ⟨by kernel_rfl⟩
instance : AL Try.prog 120 [.nilFunc] := ⟨by kernel_rfl⟩
instance : CT Try.prog 121 none := ⟨by kernel_rfl⟩
instance : SZ Try.prog 121 1 := ⟨by kernel_rfl⟩
theorem un121 : Try.prog.underlying 121 = some (.int .u8) := by kernel_rfl
instance : AL Try.prog 121 [.int .u8 0] := ⟨by kernel_rfl⟩
instance : CT Try.prog 122 none := ⟨by kernel_rfl⟩
instance : SZ Try.prog 122 1 := ⟨by kernel_rfl⟩
theorem un122 : Try.prog.underlying 122 = some (.int .u8) := by kernel_rfl
instance : AL Try.prog 122 [.int .u8 0] := ⟨by kernel_rfl⟩
instance : CT Try.prog 123 none := ⟨by kernel_rfl⟩
instance : SZ Try.prog 123 1 := ⟨by kernel_rfl⟩
instance : AL Try.prog 123 [.nilFunc] := ⟨by kernel_rfl⟩
instance : CT Try.prog 124 none := ⟨by kernel_rfl⟩
instance : SZ Try.prog 124 1 := ⟨by kernel_rfl⟩
instance : AL Try.prog 124 [.pointer none] := ⟨by kernel_rfl⟩
instance : CT Try.prog 125 none := ⟨by kernel_rfl⟩
instance : SZ Try.prog 125 1 := ⟨by kernel_rfl⟩
theorem un125 : Try.prog.underlying 125 = some (.int .i32) := by kernel_rfl
instance : AL Try.prog 125 [.int .i32 0] := ⟨by kernel_rfl⟩
instance : CT Try.prog 126 none := ⟨by kernel_rfl⟩
instance : SZ Try.prog 126 1 := ⟨by kernel_rfl⟩
theorem un126 : Try.prog.underlying 126 = some (.int .i32) := by kernel_rfl
instance : AL Try.prog 126 [.int .i32 0] := ⟨by kernel_rfl⟩
instance : CT Try.prog 127 (some 11) := ⟨by kernel_rfl⟩
instance : SZ Try.prog 127 11 := ⟨by kernel_rfl⟩
instance : FO Try.prog 127 0 0 := ⟨by kernel_rfl⟩
instance : FO Try.prog 127 1 1 := ⟨by kernel_rfl⟩
instance : FO Try.prog 127 2 2 := ⟨by kernel_rfl⟩
instance : FO Try.prog 127 3 3 := ⟨by kernel_rfl⟩
instance : FO Try.prog 127 4 4 := ⟨by kernel_rfl⟩
instance : FO Try.prog 127 5 5 := ⟨by kernel_rfl⟩
instance : FO Try.prog 127 6 6 := ⟨by kernel_rfl⟩
instance : FO Try.prog 127 7 7 := ⟨by kernel_rfl⟩
instance : FO Try.prog 127 8 8 := ⟨by kernel_rfl⟩
instance : FO Try.prog 127 9 9 := ⟨by kernel_rfl⟩
instance : FO Try.prog 127 10 10 := ⟨by kernel_rfl⟩
instance : ST Try.prog 127 [.int .u64 0, .int .u64 0, .int .u32 0, .int .u8 0, .int .u8 0, .int .u8 0, .int .u8 0, .nilFunc, .pointer none, .int .i32 0, .int .i32 0] [(0, 1), (1, 1), (2, 1), (3, 1), (4, 1), (5, 1), (6, 1), (7, 1), (8, 1), (9, 1), (10, 1)] := .of (z := .agg #[.int .u64 0, .int .u64 0, .int .u32 0, .int .u8 0, .int .u8 0, .int .u8 0, .int .u8 0, .nilFunc, .pointer none, .int .i32 0, .int .i32 0]) (fs := (match Try.prog.underlying 127 with | some (.struct fs) => fs | _ => #[])) (by kernel_rfl) (by kernel_rfl) (by kernel_rfl) (by kernel_rfl) (by kernel_rfl)
instance : AL Try.prog 127 [.int .u64 0, .int .u64 0, .int .u32 0, .int .u8 0, .int .u8 0, .int .u8 0, .int .u8 0, .nilFunc, .pointer none, .int .i32 0, .int .i32 0] := ⟨by kernel_rfl⟩
instance : CT Try.prog 128 (some 11) := ⟨by kernel_rfl⟩
instance : SZ Try.prog 128 11 := ⟨by kernel_rfl⟩
instance : FO Try.prog 128 0 0 := ⟨by kernel_rfl⟩
instance : FO Try.prog 128 1 1 := ⟨by kernel_rfl⟩
instance : FO Try.prog 128 2 2 := ⟨by kernel_rfl⟩
instance : FO Try.prog 128 3 3 := ⟨by kernel_rfl⟩
instance : FO Try.prog 128 4 4 := ⟨by kernel_rfl⟩
instance : FO Try.prog 128 5 5 := ⟨by kernel_rfl⟩
instance : FO Try.prog 128 6 6 := ⟨by kernel_rfl⟩
instance : FO Try.prog 128 7 7 := ⟨by kernel_rfl⟩
instance : FO Try.prog 128 8 8 := ⟨by kernel_rfl⟩
instance : FO Try.prog 128 9 9 := ⟨by kernel_rfl⟩
instance : FO Try.prog 128 10 10 := ⟨by kernel_rfl⟩
instance : ST Try.prog 128 [.int .u64 0, .int .u64 0, .int .u32 0, .int .u8 0, .int .u8 0, .int .u8 0, .int .u8 0, .nilFunc, .pointer none, .int .i32 0, .int .i32 0] [(0, 1), (1, 1), (2, 1), (3, 1), (4, 1), (5, 1), (6, 1), (7, 1), (8, 1), (9, 1), (10, 1)] := .of (z := .agg #[.int .u64 0, .int .u64 0, .int .u32 0, .int .u8 0, .int .u8 0, .int .u8 0, .int .u8 0, .nilFunc, .pointer none, .int .i32 0, .int .i32 0]) (fs := (match Try.prog.underlying 128 with | some (.struct fs) => fs | _ => #[])) (by kernel_rfl) (by kernel_rfl) (by kernel_rfl) (by kernel_rfl) (by kernel_rfl)
instance : AL Try.prog 128 [.int .u64 0, .int .u64 0, .int .u32 0, .int .u8 0, .int .u8 0, .int .u8 0, .int .u8 0, .nilFunc, .pointer none, .int .i32 0, .int .i32 0] := ⟨by kernel_rfl⟩
instance : CT Try.prog 129 none := ⟨by kernel_rfl⟩
instance : SZ Try.prog 129 1 := ⟨by kernel_rfl⟩
instance : AL Try.prog 129 [.pointer none] := ⟨by kernel_rfl⟩
instance : IC Try.prog 2 2 .i64 := .of un2 un2
instance : IC Try.prog 2 3 .i64 := .of un2 un3
instance : IC Try.prog 2 5 .u8 := .of un2 un5
instance : IC Try.prog 2 6 .u8 := .of un2 un6
instance : IC Try.prog 2 12 .u64 := .of un2 un12
instance : IC Try.prog 2 21 .i32 := .of un2 un21
instance : IC Try.prog 2 22 .u16 := .of un2 un22
instance : IC Try.prog 2 27 .i64 := .of un2 un27
instance : IC Try.prog 2 44 .u32 := .of un2 un44
instance : IC Try.prog 2 66 .u64 := .of un2 un66
instance : IC Try.prog 2 70 .u64 := .of un2 un70
instance : IC Try.prog 2 121 .u8 := .of un2 un121
instance : IC Try.prog 2 122 .u8 := .of un2 un122
instance : IC Try.prog 2 125 .i32 := .of un2 un125
instance : IC Try.prog 2 126 .i32 := .of un2 un126
instance : IC Try.prog 3 2 .i64 := .of un3 un2
instance : IC Try.prog 3 3 .i64 := .of un3 un3
instance : IC Try.prog 3 5 .u8 := .of un3 un5
instance : IC Try.prog 3 6 .u8 := .of un3 un6
instance : IC Try.prog 3 12 .u64 := .of un3 un12
instance : IC Try.prog 3 21 .i32 := .of un3 un21
instance : IC Try.prog 3 22 .u16 := .of un3 un22
instance : IC Try.prog 3 27 .i64 := .of un3 un27
instance : IC Try.prog 3 44 .u32 := .of un3 un44
instance : IC Try.prog 3 66 .u64 := .of un3 un66
instance : IC Try.prog 3 70 .u64 := .of un3 un70
instance : IC Try.prog 3 121 .u8 := .of un3 un121
instance : IC Try.prog 3 122 .u8 := .of un3 un122
instance : IC Try.prog 3 125 .i32 := .of un3 un125
instance : IC Try.prog 3 126 .i32 := .of un3 un126
instance : IC Try.prog 5 2 .i64 := .of un5 un2
instance : IC Try.prog 5 3 .i64 := .of un5 un3
instance : IC Try.prog 5 5 .u8 := .of un5 un5
instance : IC Try.prog 5 6 .u8 := .of un5 un6
instance : IC Try.prog 5 12 .u64 := .of un5 un12
instance : IC Try.prog 5 21 .i32 := .of un5 un21
instance : IC Try.prog 5 22 .u16 := .of un5 un22
instance : IC Try.prog 5 27 .i64 := .of un5 un27
instance : IC Try.prog 5 44 .u32 := .of un5 un44
instance : IC Try.prog 5 66 .u64 := .of un5 un66
instance : IC Try.prog 5 70 .u64 := .of un5 un70
instance : IC Try.prog 5 121 .u8 := .of un5 un121
instance : IC Try.prog 5 122 .u8 := .of un5 un122
instance : IC Try.prog 5 125 .i32 := .of un5 un125
instance : IC Try.prog 5 126 .i32 := .of un5 un126
instance : IC Try.prog 6 2 .i64 := .of un6 un2
instance : IC Try.prog 6 3 .i64 := .of un6 un3
instance : IC Try.prog 6 5 .u8 := .of un6 un5
instance : IC Try.prog 6 6 .u8 := .of un6 un6
instance : IC Try.prog 6 12 .u64 := .of un6 un12
instance : IC Try.prog 6 21 .i32 := .of un6 un21
instance : IC Try.prog 6 22 .u16 := .of un6 un22
instance : IC Try.prog 6 27 .i64 := .of un6 un27
instance : IC Try.prog 6 44 .u32 := .of un6 un44
instance : IC Try.prog 6 66 .u64 := .of un6 un66
instance : IC Try.prog 6 70 .u64 := .of un6 un70
instance : IC Try.prog 6 121 .u8 := .of un6 un121
instance : IC Try.prog 6 122 .u8 := .of un6 un122
instance : IC Try.prog 6 125 .i32 := .of un6 un125
instance : IC Try.prog 6 126 .i32 := .of un6 un126
instance : IC Try.prog 12 2 .i64 := .of un12 un2
instance : IC Try.prog 12 3 .i64 := .of un12 un3
instance : IC Try.prog 12 5 .u8 := .of un12 un5
instance : IC Try.prog 12 6 .u8 := .of un12 un6
instance : IC Try.prog 12 12 .u64 := .of un12 un12
instance : IC Try.prog 12 21 .i32 := .of un12 un21
instance : IC Try.prog 12 22 .u16 := .of un12 un22
instance : IC Try.prog 12 27 .i64 := .of un12 un27
instance : IC Try.prog 12 44 .u32 := .of un12 un44
instance : IC Try.prog 12 66 .u64 := .of un12 un66
instance : IC Try.prog 12 70 .u64 := .of un12 un70
instance : IC Try.prog 12 121 .u8 := .of un12 un121
instance : IC Try.prog 12 122 .u8 := .of un12 un122
instance : IC Try.prog 12 125 .i32 := .of un12 un125
instance : IC Try.prog 12 126 .i32 := .of un12 un126
instance : IC Try.prog 21 2 .i64 := .of un21 un2
instance : IC Try.prog 21 3 .i64 := .of un21 un3
instance : IC Try.prog 21 5 .u8 := .of un21 un5
instance : IC Try.prog 21 6 .u8 := .of un21 un6
instance : IC Try.prog 21 12 .u64 := .of un21 un12
instance : IC Try.prog 21 21 .i32 := .of un21 un21
instance : IC Try.prog 21 22 .u16 := .of un21 un22
instance : IC Try.prog 21 27 .i64 := .of un21 un27
instance : IC Try.prog 21 44 .u32 := .of un21 un44
instance : IC Try.prog 21 66 .u64 := .of un21 un66
instance : IC Try.prog 21 70 .u64 := .of un21 un70
instance : IC Try.prog 21 121 .u8 := .of un21 un121
instance : IC Try.prog 21 122 .u8 := .of un21 un122
instance : IC Try.prog 21 125 .i32 := .of un21 un125
instance : IC Try.prog 21 126 .i32 := .of un21 un126
instance : IC Try.prog 22 2 .i64 := .of un22 un2
instance : IC Try.prog 22 3 .i64 := .of un22 un3
instance : IC Try.prog 22 5 .u8 := .of un22 un5
instance : IC Try.prog 22 6 .u8 := .of un22 un6
instance : IC Try.prog 22 12 .u64 := .of un22 un12
instance : IC Try.prog 22 21 .i32 := .of un22 un21
instance : IC Try.prog 22 22 .u16 := .of un22 un22
instance : IC Try.prog 22 27 .i64 := .of un22 un27
instance : IC Try.prog 22 44 .u32 := .of un22 un44
instance : IC Try.prog 22 66 .u64 := .of un22 un66
instance : IC Try.prog 22 70 .u64 := .of un22 un70
instance : IC Try.prog 22 121 .u8 := .of un22 un121
instance : IC Try.prog 22 122 .u8 := .of un22 un122
instance : IC Try.prog 22 125 .i32 := .of un22 un125
instance : IC Try.prog 22 126 .i32 := .of un22 un126
instance : IC Try.prog 27 2 .i64 := .of un27 un2
instance : IC Try.prog 27 3 .i64 := .of un27 un3
instance : IC Try.prog 27 5 .u8 := .of un27 un5
instance : IC Try.prog 27 6 .u8 := .of un27 un6
instance : IC Try.prog 27 12 .u64 := .of un27 un12
instance : IC Try.prog 27 21 .i32 := .of un27 un21
instance : IC Try.prog 27 22 .u16 := .of un27 un22
instance : IC Try.prog 27 27 .i64 := .of un27 un27
instance : IC Try.prog 27 44 .u32 := .of un27 un44
instance : IC Try.prog 27 66 .u64 := .of un27 un66
instance : IC Try.prog 27 70 .u64 := .of un27 un70
instance : IC Try.prog 27 121 .u8 := .of un27 un121
instance : IC Try.prog 27 122 .u8 := .of un27 un122
instance : IC Try.prog 27 125 .i32 := .of un27 un125
instance : IC Try.prog 27 126 .i32 := .of un27 un126
instance : IC Try.prog 44 2 .i64 := .of un44 un2
instance : IC Try.prog 44 3 .i64 := .of un44 un3
instance : IC Try.prog 44 5 .u8 := .of un44 un5
instance : IC Try.prog 44 6 .u8 := .of un44 un6
instance : IC Try.prog 44 12 .u64 := .of un44 un12
instance : IC Try.prog 44 21 .i32 := .of un44 un21
instance : IC Try.prog 44 22 .u16 := .of un44 un22
instance : IC Try.prog 44 27 .i64 := .of un44 un27
instance : IC Try.prog 44 44 .u32 := .of un44 un44
instance : IC Try.prog 44 66 .u64 := .of un44 un66
instance : IC Try.prog 44 70 .u64 := .of un44 un70
instance : IC Try.prog 44 121 .u8 := .of un44 un121
instance : IC Try.prog 44 122 .u8 := .of un44 un122
instance : IC Try.prog 44 125 .i32 := .of un44 un125
instance : IC Try.prog 44 126 .i32 := .of un44 un126
instance : IC Try.prog 66 2 .i64 := .of un66 un2
instance : IC Try.prog 66 3 .i64 := .of un66 un3
instance : IC Try.prog 66 5 .u8 := .of un66 un5
instance : IC Try.prog 66 6 .u8 := .of un66 un6
instance : IC Try.prog 66 12 .u64 := .of un66 un12
instance : IC Try.prog 66 21 .i32 := .of un66 un21
instance : IC Try.prog 66 22 .u16 := .of un66 un22
instance : IC Try.prog 66 27 .i64 := .of un66 un27
instance : IC Try.prog 66 44 .u32 := .of un66 un44
instance : IC Try.prog 66 66 .u64 := .of un66 un66
instance : IC Try.prog 66 70 .u64 := .of un66 un70
instance : IC Try.prog 66 121 .u8 := .of un66 un121
instance : IC Try.prog 66 122 .u8 := .of un66 un122
instance : IC Try.prog 66 125 .i32 := .of un66 un125
instance : IC Try.prog 66 126 .i32 := .of un66 un126
instance : IC Try.prog 70 2 .i64 := .of un70 un2
instance : IC Try.prog 70 3 .i64 := .of un70 un3
instance : IC Try.prog 70 5 .u8 := .of un70 un5
instance : IC Try.prog 70 6 .u8 := .of un70 un6
instance : IC Try.prog 70 12 .u64 := .of un70 un12
instance : IC Try.prog 70 21 .i32 := .of un70 un21
instance : IC Try.prog 70 22 .u16 := .of un70 un22
instance : IC Try.prog 70 27 .i64 := .of un70 un27
instance : IC Try.prog 70 44 .u32 := .of un70 un44
instance : IC Try.prog 70 66 .u64 := .of un70 un66
instance : IC Try.prog 70 70 .u64 := .of un70 un70
instance : IC Try.prog 70 121 .u8 := .of un70 un121
instance : IC Try.prog 70 122 .u8 := .of un70 un122
instance : IC Try.prog 70 125 .i32 := .of un70 un125
instance : IC Try.prog 70 126 .i32 := .of un70 un126
instance : IC Try.prog 121 2 .i64 := .of un121 un2
instance : IC Try.prog 121 3 .i64 := .of un121 un3
instance : IC Try.prog 121 5 .u8 := .of un121 un5
instance : IC Try.prog 121 6 .u8 := .of un121 un6
instance : IC Try.prog 121 12 .u64 := .of un121 un12
instance : IC Try.prog 121 21 .i32 := .of un121 un21
instance : IC Try.prog 121 22 .u16 := .of un121 un22
instance : IC Try.prog 121 27 .i64 := .of un121 un27
instance : IC Try.prog 121 44 .u32 := .of un121 un44
instance : IC Try.prog 121 66 .u64 := .of un121 un66
instance : IC Try.prog 121 70 .u64 := .of un121 un70
instance : IC Try.prog 121 121 .u8 := .of un121 un121
instance : IC Try.prog 121 122 .u8 := .of un121 un122
instance : IC Try.prog 121 125 .i32 := .of un121 un125
instance : IC Try.prog 121 126 .i32 := .of un121 un126
instance : IC Try.prog 122 2 .i64 := .of un122 un2
instance : IC Try.prog 122 3 .i64 := .of un122 un3
instance : IC Try.prog 122 5 .u8 := .of un122 un5
instance : IC Try.prog 122 6 .u8 := .of un122 un6
instance : IC Try.prog 122 12 .u64 := .of un122 un12
instance : IC Try.prog 122 21 .i32 := .of un122 un21
instance : IC Try.prog 122 22 .u16 := .of un122 un22
instance : IC Try.prog 122 27 .i64 := .of un122 un27
instance : IC Try.prog 122 44 .u32 := .of un122 un44
instance : IC Try.prog 122 66 .u64 := .of un122 un66
instance : IC Try.prog 122 70 .u64 := .of un122 un70
instance : IC Try.prog 122 121 .u8 := .of un122 un121
instance : IC Try.prog 122 122 .u8 := .of un122 un122
instance : IC Try.prog 122 125 .i32 := .of un122 un125
instance : IC Try.prog 122 126 .i32 := .of un122 un126
instance : IC Try.prog 125 2 .i64 := .of un125 un2
instance : IC Try.prog 125 3 .i64 := .of un125 un3
instance : IC Try.prog 125 5 .u8 := .of un125 un5
instance : IC Try.prog 125 6 .u8 := .of un125 un6
instance : IC Try.prog 125 12 .u64 := .of un125 un12
instance : IC Try.prog 125 21 .i32 := .of un125 un21
instance : IC Try.prog 125 22 .u16 := .of un125 un22
instance : IC Try.prog 125 27 .i64 := .of un125 un27
instance : IC Try.prog 125 44 .u32 := .of un125 un44
instance : IC Try.prog 125 66 .u64 := .of un125 un66
instance : IC Try.prog 125 70 .u64 := .of un125 un70
instance : IC Try.prog 125 121 .u8 := .of un125 un121
instance : IC Try.prog 125 122 .u8 := .of un125 un122
instance : IC Try.prog 125 125 .i32 := .of un125 un125
instance : IC Try.prog 125 126 .i32 := .of un125 un126
instance : IC Try.prog 126 2 .i64 := .of un126 un2
instance : IC Try.prog 126 3 .i64 := .of un126 un3
instance : IC Try.prog 126 5 .u8 := .of un126 un5
instance : IC Try.prog 126 6 .u8 := .of un126 un6
instance : IC Try.prog 126 12 .u64 := .of un126 un12
instance : IC Try.prog 126 21 .i32 := .of un126 un21
instance : IC Try.prog 126 22 .u16 := .of un126 un22
instance : IC Try.prog 126 27 .i64 := .of un126 un27
instance : IC Try.prog 126 44 .u32 := .of un126 un44
instance : IC Try.prog 126 66 .u64 := .of un126 un66
instance : IC Try.prog 126 70 .u64 := .of un126 un70
instance : IC Try.prog 126 121 .u8 := .of un126 un121
instance : IC Try.prog 126 122 .u8 := .of un126 un122
instance : IC Try.prog 126 125 .i32 := .of un126 un125
instance : IC Try.prog 126 126 .i32 := .of un126 un126
instance : BY Try.prog 23 9 := ⟨⟨5, by kernel_rfl, by kernel_rfl⟩, by kernel_rfl⟩
instance : BY Try.prog 23 10 := ⟨⟨5, by kernel_rfl, by kernel_rfl⟩, by kernel_rfl⟩
instance : BY Try.prog 23 11 := ⟨⟨5, by kernel_rfl, by kernel_rfl⟩, by kernel_rfl⟩
theorem noGlobals : Try.prog.globals.size = 0 := by kernel_rfl
end Go.Proofs.Ytmelgnpogdilgaa

/- ChunkKinds on the abstract heap: it answers true. No conditions. -/
namespace Go.Proofs.Ytmelgnpogdilgaa
open Go.RowKit
set_option linter.unusedVariables false
set_option maxRecDepth 100000
attribute [local irreducible] Go GoR GoL
def asB5 : Value → AHeap → List Nat → Option Bool
  | .bool b, _, _ => some b
  | _, _, _ => none
theorem asB5_true {v : Value} {h : AHeap} {wr : List Nat} (e : asB5 v h wr = some true) : v = .bool true := by
  unfold asB5 at e
  split at e
  · cases e; rfl
  · cases e
theorem known05Run : callK (A := Bool) Try.prog noS (fev Try.prog noS 5000) 28 [] emptyH asB5 = some true := by kernel_rfl
theorem known05 (h : AHeap) : CallS Try.prog [] 28 [] h fun u h' => u = .bool true ∧ h' = h := by
  obtain ⟨v, h', wr, hc, he⟩ := callRun_of (noS_ok _) known05Run
  obtain rfl := asB5_true he
  exact CallS.known noGlobals hc rfl h
theorem boolU5 : Try.prog.underlying 4 = some .bool := by kernel_rfl
def kn (k : Nat) : Bool := decide (k ≤ 11) || decide (k = 14)
theorem kknown_spec (k : Nat) (h : AHeap) : CallS Try.prog [] 38 [.int .u8 k] h fun v h' => v = .bool (kn k) ∧ h' = h := by
  by_cases c1 : k ≤ 11
  · (refine CallS.of1 Try.func38 rfl Try.ntmps38 Try.results38 rfl ?_)
    (refine Go.run (g:=?_))
    (first|refine Go.finT (by first|exact .inr rfl|exact .inl rfl) rfl ?_|refine Go.fin1 (by first|exact .inr rfl|exact .inl rfl) rfl (hq:=?_))
    exact ⟨by simp [retV, kn, c1], rfl⟩
  · by_cases c2 : k = 14
    · subst c2
      (refine CallS.of1 Try.func38 rfl Try.ntmps38 Try.results38 rfl ?_)
      (refine Go.run (g:=?_))
      (first|refine Go.finT (by first|exact .inr rfl|exact .inl rfl) rfl ?_|refine Go.fin1 (by first|exact .inr rfl|exact .inl rfl) rfl (hq:=?_))
      exact ⟨by simp [retV, kn], rfl⟩
    · have c3 : ¬ (k : Int) = 14 := by omega
      (refine CallS.of1 Try.func38 rfl Try.ntmps38 Try.results38 rfl ?_)
      (refine Go.run (g:=?_))
      (first|refine Go.finT (by first|exact .inr rfl|exact .inl rfl) rfl ?_|refine Go.fin1 (by first|exact .inr rfl|exact .inl rfl) rfl (hq:=?_))
      exact ⟨by simp [retV, kn, c1, c2, c3], rfl⟩
theorem rknown_spec (k : Nat) (h : AHeap) : CallS Try.prog [] 37 [.int .u8 k] h fun v h' => v = .bool (kn k) ∧ h' = h := by
  by_cases c1 : k < 12
  · have c4 : k ≤ 11 := by omega
    (refine CallS.of1 Try.func37 rfl Try.ntmps37 Try.results37 rfl ?_)
    (refine Go.run (g:=?_))
    (first|refine Go.finT (by first|exact .inr rfl|exact .inl rfl) rfl ?_|refine Go.fin1 (by first|exact .inr rfl|exact .inl rfl) rfl (hq:=?_))
    exact ⟨by simp [retV, kn, c1, c4], rfl⟩
  · have c4 : ¬ k ≤ 11 := by omega
    by_cases c2 : k = 14
    · subst c2
      (refine CallS.of1 Try.func37 rfl Try.ntmps37 Try.results37 rfl ?_)
      (refine Go.run (g:=?_))
      (first|refine Go.finT (by first|exact .inr rfl|exact .inl rfl) rfl ?_|refine Go.fin1 (by first|exact .inr rfl|exact .inl rfl) rfl (hq:=?_))
      exact ⟨by simp [retV, kn], rfl⟩
    · have c3 : ¬ (k : Int) = 14 := by omega
      (refine CallS.of1 Try.func37 rfl Try.ntmps37 Try.results37 rfl ?_)
      (refine Go.run (g:=?_))
      (first|refine Go.finT (by first|exact .inr rfl|exact .inl rfl) rfl ?_|refine Go.fin1 (by first|exact .inr rfl|exact .inl rfl) rfl (hq:=?_))
      exact ⟨by simp [retV, kn, c4, c2, c3], rfl⟩
theorem skips_spec (k : Nat) (hk : k < 256) (h : AHeap) : CallS Try.prog [] 39 [.int .u8 k] h fun v h' => v = .bool (!kn k && decide (128 ≤ k)) ∧ h' = h := by
  (refine CallS.of1 Try.func39 rfl Try.ntmps39 Try.results39 rfl ?_)
  (refine Go.run (g:=?_))
  refine GoR.call rfl rfl rfl rfl rfl rfl rfl (((kknown_spec k _).args (by first | rfl | (simp; fail_if_success focus skip) | (simp; omega) | (congr 2; omega))).mono ?_)
  rintro _ h ⟨rfl, rfl⟩ -
  cases kn k
  · (refine Go.run (g:=?_))
    (first|refine Go.finT (by first|exact .inr rfl|exact .inl rfl) rfl ?_|refine Go.fin1 (by first|exact .inr rfl|exact .inl rfl) rfl (hq:=?_))
    refine ⟨?_, rfl⟩
    by_cases c : 128 ≤ k
    · have : k / 2 ^ 7 = 1 := by omega
      simp [retV, c]; omega
    · simp [retV, c]; omega
  · (refine Go.run (g:=?_))
    (first|refine Go.finT (by first|exact .inr rfl|exact .inl rfl) rfl ?_|refine Go.fin1 (by first|exact .inr rfl|exact .inl rfl) rfl (hq:=?_))
    exact ⟨rfl, rfl⟩
theorem reports_spec (k : Nat) (hk : k < 256) (h : AHeap) : CallS Try.prog [] 40 [.int .u8 k] h fun v h' => v = .bool (!kn k && decide (64 ≤ k % 128)) ∧ h' = h := by
  (refine CallS.of1 Try.func40 rfl Try.ntmps40 Try.results40 rfl ?_)
  (refine Go.run (g:=?_))
  refine GoR.call rfl rfl rfl rfl rfl rfl rfl (((kknown_spec k _).args (by first | rfl | (simp; fail_if_success focus skip) | (simp; omega) | (congr 2; omega))).mono ?_)
  rintro _ h ⟨rfl, rfl⟩ -
  cases kn k
  · (refine Go.run (g:=?_))
    refine GoR.andN (j := 1) rfl rfl rfl rfl rfl rfl (by simp [IntKind.bits, IntKind.signed]; omega) (by simp [IntKind.bits, IntKind.signed]) ?_
    rw [Nat.and_one_is_mod]
    (refine Go.run (g:=?_))
    (first|refine Go.finT (by first|exact .inr rfl|exact .inl rfl) rfl ?_|refine Go.fin1 (by first|exact .inr rfl|exact .inl rfl) rfl (hq:=?_))
    refine ⟨?_, rfl⟩
    by_cases c : 64 ≤ k % 128
    · simp [retV, c]; omega
    · simp [retV, c]; omega
  · (refine Go.run (g:=?_))
    (first|refine Go.finT (by first|exact .inr rfl|exact .inl rfl) rfl ?_|refine Go.fin1 (by first|exact .inr rfl|exact .inl rfl) rfl (hq:=?_))
    exact ⟨rfl, rfl⟩
set_option maxHeartbeats 4000000 in
theorem chunkKinds_spec (k : Nat) (hk : k < 256) (h : AHeap) : CallS Try.prog [] 11 [.int .u8 k] h fun v _ => v = .bool true := by
  (refine CallS.of1 Try.func11 rfl Try.ntmps11 Try.results11 rfl ?_)
  (refine Go.run (g:=?_))
  refine GoR.call rfl rfl rfl rfl rfl rfl rfl (((known05 _).args (by first | rfl | (simp; fail_if_success focus skip) | (simp; omega) | (congr 2; omega))).mono ?_)
  rintro _ h ⟨rfl, rfl⟩ -
  (refine Go.run (g:=?_))
  refine GoR.call rfl rfl rfl rfl rfl rfl rfl (((rknown_spec k _).args (by first | rfl | (simp; fail_if_success focus skip) | (simp; omega) | (congr 2; omega))).mono ?_)
  rintro _ h ⟨rfl, rfl⟩ -
  (refine Go.run (g:=?_))
  refine GoR.call rfl rfl rfl rfl rfl rfl rfl (((kknown_spec k _).args (by first | rfl | (simp; fail_if_success focus skip) | (simp; omega) | (congr 2; omega))).mono ?_)
  rintro _ h ⟨rfl, rfl⟩ -
  have hs := skips_spec k hk
  have hr := reports_spec k hk
  cases hkn : kn k
  all_goals rw [hkn] at hs hr
  · (refine Go.run (g:=?_))
    refine GoR.boolEq rfl rfl rfl rfl rfl rfl boolU5 ?_
    rw [show (false == false) = true from rfl]
    (refine Go.run (g:=?_))
    refine GoR.call rfl rfl rfl rfl rfl rfl rfl (((hs _).args (by first | rfl | (simp; fail_if_success focus skip) | (simp; omega) | (congr 2; omega))).mono ?_)
    rintro _ h ⟨rfl, rfl⟩ -
    (refine Go.run (g:=?_))
    refine GoR.boolEq rfl rfl rfl rfl rfl rfl boolU5 ?_
    rw [show ((!false && decide (128 ≤ k)) == decide ((128 : Int) ≤ (k : Int))) = true from by simp; omega]
    (refine Go.run (g:=?_))
    refine GoR.call rfl rfl rfl rfl rfl rfl rfl (((hr _).args (by first | rfl | (simp; fail_if_success focus skip) | (simp; omega) | (congr 2; omega))).mono ?_)
    rintro _ h ⟨rfl, rfl⟩ -
    (refine Go.run (g:=?_))
    refine GoR.boolEq rfl rfl rfl rfl rfl rfl boolU5 ?_
    rw [show ((!false && decide (64 ≤ k % 128)) == decide ((64 : Int) ≤ ((k % 128 : Nat) : Int))) = true from by simp; omega]
    (refine Go.run (g:=?_))
    (first|refine Go.finT (by first|exact .inr rfl|exact .inl rfl) rfl ?_|refine Go.fin1 (by first|exact .inr rfl|exact .inl rfl) rfl (hq:=?_))
    rfl
  · (refine Go.run (g:=?_))
    refine GoR.boolEq rfl rfl rfl rfl rfl rfl boolU5 ?_
    rw [show (true == true) = true from rfl]
    (refine Go.run (g:=?_))
    refine GoR.call rfl rfl rfl rfl rfl rfl rfl (((hs _).args (by first | rfl | (simp; fail_if_success focus skip) | (simp; omega) | (congr 2; omega))).mono ?_)
    rintro _ h ⟨rfl, rfl⟩ -
    (refine Go.run (g:=?_))
    refine GoR.boolEq rfl rfl rfl rfl rfl rfl boolU5 ?_
    rw [show ((!true && decide (128 ≤ k)) == false) = true from rfl]
    (refine Go.run (g:=?_))
    refine GoR.call rfl rfl rfl rfl rfl rfl rfl (((hr _).args (by first | rfl | (simp; fail_if_success focus skip) | (simp; omega) | (congr 2; omega))).mono ?_)
    rintro _ h ⟨rfl, rfl⟩ -
    (refine Go.run (g:=?_))
    refine GoR.boolEq rfl rfl rfl rfl rfl rfl boolU5 ?_
    rw [show ((!true && decide (64 ≤ k % 128)) == false) = true from rfl]
    (refine Go.run (g:=?_))
    (first|refine Go.finT (by first|exact .inr rfl|exact .inl rfl) rfl ?_|refine Go.fin1 (by first|exact .inr rfl|exact .inl rfl) rfl (hq:=?_))
    rfl
end Go.Proofs.Ytmelgnpogdilgaa

/- ChunkKinds: the walk: the law returns true and turns nothing that was there. -/
namespace Go.Proofs.Ytmelgnpogdilgaa
set_option linter.unusedVariables false
open Go.ChangeShapes Go.WideShapes Go.ChangeAt Go.RowKit
set_option maxRecDepth 100000
theorem chunkKindsWalk (a0 : Int) (W : World) (w0 : (Lit.int .u8 a0).wf = true) : Calls Try.prog 11 #[.int .u8 a0] W fun e w' => e = .returned (.bool true) ∧ Below W.heap.size W w' := by
  have hb : 0 ≤ a0 ∧ a0 ≤ 255 := by simpa [Lit.wf, IntKind.bits, IntKind.signed, IntKind.min, IntKind.max] using w0
  obtain ⟨k, rfl⟩ := Int.eq_ofNat_of_zero_le hb.1
  have hk : k < 256 := by omega
  exact calls_imp noGlobals (Im.empty Try.prog W) rfl (chunkKinds_spec k hk emptyH) (ARel.single (.int _ _))
end Go.Proofs.Ytmelgnpogdilgaa
