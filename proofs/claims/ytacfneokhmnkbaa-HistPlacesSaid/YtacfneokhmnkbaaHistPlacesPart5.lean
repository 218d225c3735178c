/- What the law leans on, part 5. No conditions. -/
import Derived.Test.YtacfneokhmnkbaaProg
import Derived.KernelRfl
import Derived.ProofKit
import Derived.OpenShut
import Derived.ChangeOld
import Derived.Test.YtacfneokhmnkbaaHistPlacesPart4
/- What is known of the program's types. No conditions. -/
namespace Go.Proofs.Ytacfneokhmnkbaa
set_option linter.unusedVariables false
instance : CT Try.prog 0 none := ⟨by kernel_rfl⟩
instance : SZ Try.prog 0 1 := ⟨by kernel_rfl⟩
instance : CT Try.prog 1 none := ⟨by kernel_rfl⟩
instance : SZ Try.prog 1 1 := ⟨by kernel_rfl⟩
instance : AL Try.prog 1 [.nilFunc] := ⟨by kernel_rfl⟩
instance : CT Try.prog 2 none := ⟨by kernel_rfl⟩
instance : SZ Try.prog 2 1 := ⟨by kernel_rfl⟩
theorem un2 : Try.prog.underlying 2 = some (.int .i64) := by kernel_rfl
instance : AL Try.prog 2 [.int .i64 0] := ⟨by kernel_rfl⟩
instance : CT Try.prog 3 none := ⟨by kernel_rfl⟩
instance : SZ Try.prog 3 1 := ⟨by kernel_rfl⟩
theorem un3 : Try.prog.underlying 3 = some (.int .i64) := by kernel_rfl
instance : AL Try.prog 3 [.int .i64 0] := ⟨by kernel_rfl⟩
instance : CT Try.prog 4 none := ⟨by kernel_rfl⟩
instance : SZ Try.prog 4 1 := ⟨by kernel_rfl⟩
instance : AL Try.prog 4 [.bool false] := ⟨by kernel_rfl⟩
instance : CT Try.prog 5 none := ⟨by kernel_rfl⟩
instance : SZ Try.prog 5 1 := ⟨by kernel_rfl⟩
theorem un5 : Try.prog.underlying 5 = some (.int .u8) := by kernel_rfl
instance : AL Try.prog 5 [.int .u8 0] := ⟨by kernel_rfl⟩
instance : CT Try.prog 6 none := ⟨by kernel_rfl⟩
instance : SZ Try.prog 6 1 := ⟨by kernel_rfl⟩
theorem un6 : Try.prog.underlying 6 = some (.int .u8) := by kernel_rfl
instance : AL Try.prog 6 [.int .u8 0] := ⟨by kernel_rfl⟩
instance : CT Try.prog 7 (some 4) := ⟨by kernel_rfl⟩
instance : SZ Try.prog 7 4 := ⟨by kernel_rfl⟩
instance : FO Try.prog 7 0 0 := ⟨by kernel_rfl⟩
instance : FO Try.prog 7 1 1 := ⟨by kernel_rfl⟩
instance : FO Try.prog 7 2 2 := ⟨by kernel_rfl⟩
instance : FO Try.prog 7 3 3 := ⟨by kernel_rfl⟩
instance : ST Try.prog 7 [.int .i64 0, .int .i64 0, .bool false, .int .u8 0] [(0, 1), (1, 1), (2, 1), (3, 1)] := .of (z := .agg #[.int .i64 0, .int .i64 0, .bool false, .int .u8 0]) (fs := (match Try.prog.underlying 7 with | some (.struct fs) => fs | _ => #[])) (by kernel_rfl) (by kernel_rfl) (by kernel_rfl) (by kernel_rfl) (by kernel_rfl)
instance : AL Try.prog 7 [.int .i64 0, .int .i64 0, .bool false, .int .u8 0] := ⟨by kernel_rfl⟩
instance : CT Try.prog 8 (some 4) := ⟨by kernel_rfl⟩
instance : SZ Try.prog 8 4 := ⟨by kernel_rfl⟩
instance : FO Try.prog 8 0 0 := ⟨by kernel_rfl⟩
instance : FO Try.prog 8 1 1 := ⟨by kernel_rfl⟩
instance : FO Try.prog 8 2 2 := ⟨by kernel_rfl⟩
instance : FO Try.prog 8 3 3 := ⟨by kernel_rfl⟩
instance : ST Try.prog 8 [.int .i64 0, .int .i64 0, .bool false, .int .u8 0] [(0, 1), (1, 1), (2, 1), (3, 1)] := .of (z := .agg #[.int .i64 0, .int .i64 0, .bool false, .int .u8 0]) (fs := (match Try.prog.underlying 8 with | some (.struct fs) => fs | _ => #[])) (by kernel_rfl) (by kernel_rfl) (by kernel_rfl) (by kernel_rfl) (by kernel_rfl)
instance : AL Try.prog 8 [.int .i64 0, .int .i64 0, .bool false, .int .u8 0] := ⟨by kernel_rfl⟩
instance : CT Try.prog 9 none := ⟨by kernel_rfl⟩
instance : SZ Try.prog 9 1 := ⟨by kernel_rfl⟩
instance : UN Try.prog 9 .string := ⟨by kernel_rfl⟩
instance : AL Try.prog 9 [.string ⟨#[]⟩] := ⟨by kernel_rfl⟩
instance : CT Try.prog 10 none := ⟨by kernel_rfl⟩
instance : SZ Try.prog 10 1 := ⟨by kernel_rfl⟩
instance : UN Try.prog 10 .string := ⟨by kernel_rfl⟩
instance : AL Try.prog 10 [.string ⟨#[]⟩] := ⟨by kernel_rfl⟩
instance : CT Try.prog 11 none := ⟨by kernel_rfl⟩
instance : SZ Try.prog 11 1 := ⟨by kernel_rfl⟩
instance : UN Try.prog 11 .string := ⟨by kernel_rfl⟩
instance : AL Try.prog 11 [.string ⟨#[]⟩] := ⟨by kernel_rfl⟩
instance : CT Try.prog 12 none := ⟨by kernel_rfl⟩
instance : SZ Try.prog 12 1 := ⟨by kernel_rfl⟩
theorem un12 : Try.prog.underlying 12 = some (.int .u64) := by kernel_rfl
instance : AL Try.prog 12 [.int .u64 0] := ⟨by kernel_rfl⟩
instance : CT Try.prog 13 (some 2) := ⟨by kernel_rfl⟩
instance : SZ Try.prog 13 2 := ⟨by kernel_rfl⟩
instance : FO Try.prog 13 0 0 := ⟨by kernel_rfl⟩
instance : FO Try.prog 13 1 1 := ⟨by kernel_rfl⟩
instance : ST Try.prog 13 [.string ⟨#[]⟩, .int .u64 0] [(0, 1), (1, 1)] := .of (z := .agg #[.string ⟨#[]⟩, .int .u64 0]) (fs := (match Try.prog.underlying 13 with | some (.struct fs) => fs | _ => #[])) (by kernel_rfl) (by kernel_rfl) (by kernel_rfl) (by kernel_rfl) (by kernel_rfl)
instance : AL Try.prog 13 [.string ⟨#[]⟩, .int .u64 0] := ⟨by kernel_rfl⟩
instance : CT Try.prog 14 (some 2) := ⟨by kernel_rfl⟩
instance : SZ Try.prog 14 2 := ⟨by kernel_rfl⟩
instance : FO Try.prog 14 0 0 := ⟨by kernel_rfl⟩
instance : FO Try.prog 14 1 1 := ⟨by kernel_rfl⟩
instance : ST Try.prog 14 [.string ⟨#[]⟩, .int .u64 0] [(0, 1), (1, 1)] := .of (z := .agg #[.string ⟨#[]⟩, .int .u64 0]) (fs := (match Try.prog.underlying 14 with | some (.struct fs) => fs | _ => #[])) (by kernel_rfl) (by kernel_rfl) (by kernel_rfl) (by kernel_rfl) (by kernel_rfl)
instance : AL Try.prog 14 [.string ⟨#[]⟩, .int .u64 0] := ⟨by kernel_rfl⟩
instance : CT Try.prog 15 none := ⟨by kernel_rfl⟩
instance : SZ Try.prog 15 1 := ⟨by kernel_rfl⟩
instance : AL Try.prog 15 [.pointer none] := ⟨by kernel_rfl⟩
instance : CT Try.prog 16 none := ⟨by kernel_rfl⟩
instance : SZ Try.prog 16 1 := ⟨by kernel_rfl⟩
instance : AL Try.prog 16 [.pointer none] := ⟨by kernel_rfl⟩
instance : CT Try.prog 17 none := ⟨by kernel_rfl⟩
instance : SZ Try.prog 17 1 := ⟨by kernel_rfl⟩
instance : AL Try.prog 17 [.pointer none] := ⟨by kernel_rfl⟩
instance : CT Try.prog 18 (some 1) := ⟨by kernel_rfl⟩
instance : SZ Try.prog 18 1 := ⟨by kernel_rfl⟩
instance : FO Try.prog 18 0 0 := ⟨by kernel_rfl⟩
instance : ST Try.prog 18 [.pointer none] [(0, 1)] := .of (z := .agg #[.pointer none]) (fs := (match Try.prog.underlying 18 with | some (.struct fs) => fs | _ => #[])) (by kernel_rfl) (by kernel_rfl) (by kernel_rfl) (by kernel_rfl) (by kernel_rfl)
instance : AL Try.prog 18 [.pointer none] := ⟨by kernel_rfl⟩
instance : CT Try.prog 19 (some 1) := ⟨by kernel_rfl⟩
instance : SZ Try.prog 19 1 := ⟨by kernel_rfl⟩
instance : FO Try.prog 19 0 0 := ⟨by kernel_rfl⟩
instance : ST Try.prog 19 [.pointer none] [(0, 1)] := .of (z := .agg #[.pointer none]) (fs := (match Try.prog.underlying 19 with | some (.struct fs) => fs | _ => #[])) (by kernel_rfl) (by kernel_rfl) (by kernel_rfl) (by kernel_rfl) (by kernel_rfl)
instance : AL Try.prog 19 [.pointer none] := ⟨by kernel_rfl⟩
instance : CT Try.prog 20 none := ⟨by kernel_rfl⟩
instance : SZ Try.prog 20 1 := ⟨by kernel_rfl⟩
instance : AL Try.prog 20 [.nilIface] := ⟨by kernel_rfl⟩
instance : CT Try.prog 21 none := ⟨by kernel_rfl⟩
instance : SZ Try.prog 21 1 := ⟨by kernel_rfl⟩
theorem un21 : Try.prog.underlying 21 = some (.int .i32) := by kernel_rfl
instance : AL Try.prog 21 [.int .i32 0] := ⟨by kernel_rfl⟩
instance : CT Try.prog 22 none := ⟨by kernel_rfl⟩
instance : SZ Try.prog 22 1 := ⟨by kernel_rfl⟩
instance : EL Try.prog 22 (none, 3) := ⟨by kernel_rfl⟩
instance : UN Try.prog 22 (.slice 26) := ⟨by kernel_rfl⟩
instance : BS Try.prog 22 26 3 (.agg #[.int .i64 0, .int .i64 0, .slice none 0 0]) := .of (by kernel_rfl) (by kernel_rfl) (by kernel_rfl) (by kernel_rfl) (by kernel_rfl)
instance : AP Try.prog 22 22 26 3 40 := .of (inf := Try.t26) (z := .agg #[.int .i64 0, .int .i64 0, .slice none 0 0]) (e₂ := 26) (by kernel_rfl) (by kernel_rfl) (by kernel_rfl) (by kernel_rfl) (by kernel_rfl) (by kernel_rfl) (by decide) (by kernel_rfl) (by kernel_rfl)
instance : AL Try.prog 22 [.slice none 0 0] := ⟨by kernel_rfl⟩
instance : CT Try.prog 23 none := ⟨by kernel_rfl⟩
instance : SZ Try.prog 23 1 := ⟨by kernel_rfl⟩
instance : AL Try.prog 23 [.nilFunc] := ⟨by kernel_rfl⟩
instance : CT Try.prog 24 none := ⟨by kernel_rfl⟩
instance : SZ Try.prog 24 1 := ⟨by kernel_rfl⟩
instance : EL Try.prog 24 (none, 4) := ⟨by kernel_rfl⟩
instance : UN Try.prog 24 (.slice 29) := ⟨by kernel_rfl⟩
instance : BS Try.prog 24 29 4 (.agg #[.slice none 0 0, .bool false, .int .i64 0, .int .u8 0]) := .of (by kernel_rfl) (by kernel_rfl) (by kernel_rfl) (by kernel_rfl) (by kernel_rfl)
instance : AP Try.prog 24 24 29 4 48 := .of (inf := Try.t29) (z := .agg #[.slice none 0 0, .bool false, .int .i64 0, .int .u8 0]) (e₂ := 29) (by kernel_rfl) (by kernel_rfl) (by kernel_rfl) (by kernel_rfl) (by kernel_rfl) (by kernel_rfl) (by decide) (by kernel_rfl) (by kernel_rfl)
instance : AL Try.prog 24 [.slice none 0 0] := ⟨by kernel_rfl⟩
instance : CT Try.prog 25 (some 3) := ⟨by kernel_rfl⟩
instance : SZ Try.prog 25 3 := ⟨by kernel_rfl⟩
instance : FO Try.prog 25 0 0 := ⟨by kernel_rfl⟩
instance : FO Try.prog 25 1 1 := ⟨by kernel_rfl⟩
instance : FO Try.prog 25 2 2 := ⟨by kernel_rfl⟩
instance : ST Try.prog 25 [.int .i64 0, .int .i64 0, .slice none 0 0] [(0, 1), (1, 1), (2, 1)] := .of (z := .agg #[.int .i64 0, .int .i64 0, .slice none 0 0]) (fs := (match Try.prog.underlying 25 with | some (.struct fs) => fs | _ => #[])) (by kernel_rfl) (by kernel_rfl) (by kernel_rfl) (by kernel_rfl) (by kernel_rfl)
instance : AL Try.prog 25 [.int .i64 0, .int .i64 0, .slice none 0 0] := ⟨by kernel_rfl⟩
instance : CT Try.prog 26 (some 3) := ⟨by kernel_rfl⟩
instance : SZ Try.prog 26 3 := ⟨by kernel_rfl⟩
instance : FO Try.prog 26 0 0 := ⟨by kernel_rfl⟩
instance : FO Try.prog 26 1 1 := ⟨by kernel_rfl⟩
instance : FO Try.prog 26 2 2 := ⟨by kernel_rfl⟩
instance : ST Try.prog 26 [.int .i64 0, .int .i64 0, .slice none 0 0] [(0, 1), (1, 1), (2, 1)] := .of (z := .agg #[.int .i64 0, .int .i64 0, .slice none 0 0]) (fs := (match Try.prog.underlying 26 with | some (.struct fs) => fs | _ => #[])) (by kernel_rfl) (by kernel_rfl) (by kernel_rfl) (by kernel_rfl) (by kernel_rfl)
instance : AL Try.prog 26 [.int .i64 0, .int .i64 0, .slice none 0 0] := ⟨by kernel_rfl⟩
instance : CT Try.prog 27 none := ⟨by kernel_rfl⟩
instance : SZ Try.prog 27 1 := ⟨by kernel_rfl⟩
instance : EL Try.prog 27 (none, 1) := ⟨by kernel_rfl⟩
instance : UN Try.prog 27 (.slice 3) := ⟨by kernel_rfl⟩
instance : BS Try.prog 27 3 1 (.int .i64 0) := .of (by kernel_rfl) (by kernel_rfl) (by kernel_rfl) (by kernel_rfl) (by kernel_rfl)
instance : MK Try.prog 27 3 8 (.int .i64 0) := .of (inf := Try.t3) (by kernel_rfl) (by kernel_rfl) (by kernel_rfl) (by kernel_rfl) (by kernel_rfl) (by kernel_rfl) (by kernel_rfl)
instance : AP Try.prog 27 27 3 1 8 := .of (inf := Try.t3) (z := .int .i64 0) (e₂ := 3) (by kernel_rfl) (by kernel_rfl) (by kernel_rfl) (by kernel_rfl) (by kernel_rfl) (by kernel_rfl) (by decide) (by kernel_rfl) (by kernel_rfl)
instance : AL Try.prog 27 [.slice none 0 0] := ⟨by kernel_rfl⟩
instance : CT Try.prog 28 (some 4) := ⟨by kernel_rfl⟩
instance : SZ Try.prog 28 4 := ⟨by kernel_rfl⟩
instance : FO Try.prog 28 0 0 := ⟨by kernel_rfl⟩
instance : FO Try.prog 28 1 1 := ⟨by kernel_rfl⟩
instance : FO Try.prog 28 2 2 := ⟨by kernel_rfl⟩
instance : FO Try.prog 28 3 3 := ⟨by kernel_rfl⟩
instance : ST Try.prog 28 [.slice none 0 0, .bool false, .int .i64 0, .int .u8 0] [(0, 1), (1, 1), (2, 1), (3, 1)] := .of (z := .agg #[.slice none 0 0, .bool false, .int .i64 0, .int .u8 0]) (fs := (match Try.prog.underlying 28 with | some (.struct fs) => fs | _ => #[])) (by kernel_rfl) (by kernel_rfl) (by kernel_rfl) (by kernel_rfl) (by kernel_rfl)
instance : AL Try.prog 28 [.slice none 0 0, .bool false, .int .i64 0, .int .u8 0] := ⟨by kernel_rfl⟩
instance : CT Try.prog 29 (some 4) := ⟨by kernel_rfl⟩
instance : SZ Try.prog 29 4 := ⟨by kernel_rfl⟩
instance : FO Try.prog 29 0 0 := ⟨by kernel_rfl⟩
instance : FO Try.prog 29 1 1 := ⟨by kernel_rfl⟩
instance : FO Try.prog 29 2 2 := ⟨by kernel_rfl⟩
instance : FO Try.prog 29 3 3 := ⟨by kernel_rfl⟩
instance : ST Try.prog 29 [.slice none 0 0, .bool false, .int .i64 0, .int .u8 0] [(0, 1), (1, 1), (2, 1), (3, 1)] := .of (z := .agg #[.slice none 0 0, .bool false, .int .i64 0, .int .u8 0]) (fs := (match Try.prog.underlying 29 with | some (.struct fs) => fs | _ => #[])) (by kernel_rfl) (by kernel_rfl) (by kernel_rfl) (by kernel_rfl) (by kernel_rfl)
instance : AL Try.prog 29 [.slice none 0 0, .bool false, .int .i64 0, .int .u8 0] := ⟨by kernel_rfl⟩
instance : CT Try.prog 30 none := ⟨by kernel_rfl⟩
instance : SZ Try.prog 30 1 := ⟨by kernel_rfl⟩
instance : AL Try.prog 30 [.pointer none] := ⟨by kernel_rfl⟩
instance : CT Try.prog 31 none := ⟨by kernel_rfl⟩
instance : SZ Try.prog 31 1 := ⟨by kernel_rfl⟩
instance : AL Try.prog 31 [.pointer none] := ⟨by kernel_rfl⟩
instance : CT Try.prog 32 none := ⟨by kernel_rfl⟩
instance : SZ Try.prog 32 1 := ⟨by kernel_rfl⟩
instance : AL Try.prog 32 [.nilFunc] := ⟨by kernel_rfl⟩
instance : CT Try.prog 33 none := ⟨by kernel_rfl⟩
instance : SZ Try.prog 33 1 := ⟨by kernel_rfl⟩
instance : AL Try.prog 33 [.pointer none] := ⟨by kernel_rfl⟩
instance : CT Try.prog 34 none := ⟨by kernel_rfl⟩
instance : SZ Try.prog 34 1 := ⟨by kernel_rfl⟩
instance : EL Try.prog 34 (none, 4) := ⟨by kernel_rfl⟩
instance : UN Try.prog 34 (.slice 46) := ⟨by kernel_rfl⟩
instance : BS Try.prog 34 46 4 (.agg #[.int .i64 0, .bool false, .bool false, .int .u64 0]) := .of (by kernel_rfl) (by kernel_rfl) (by kernel_rfl) (by kernel_rfl) (by kernel_rfl)
instance : AP Try.prog 34 34 46 4 24 := .of (inf := Try.t46) (z := .agg #[.int .i64 0, .bool false, .bool false, .int .u64 0]) (e₂ := 46) (by kernel_rfl) (by kernel_rfl) (by kernel_rfl) (by kernel_rfl) (by kernel_rfl) (by kernel_rfl) (by decide) (by kernel_rfl) (by kernel_rfl)
instance : AL Try.prog 34 [.slice none 0 0] := ⟨by kernel_rfl⟩
instance : CT Try.prog 35 (some 1) := ⟨by kernel_rfl⟩
instance : SZ Try.prog 35 1 := ⟨by kernel_rfl⟩
instance : FO Try.prog 35 0 0 := ⟨by kernel_rfl⟩
instance : ST Try.prog 35 [.slice none 0 0] [(0, 1)] := .of (z := .agg #[.slice none 0 0]) (fs := (match Try.prog.underlying 35 with | some (.struct fs) => fs | _ => #[])) (by kernel_rfl) (by kernel_rfl) (by kernel_rfl) (by kernel_rfl) (by kernel_rfl)
instance : AL Try.prog 35 [.slice none 0 0] := ⟨by kernel_rfl⟩
instance : CT Try.prog 36 (some 1) := ⟨by kernel_rfl⟩
instance : SZ Try.prog 36 1 := ⟨by kernel_rfl⟩
instance : FO Try.prog 36 0 0 := ⟨by kernel_rfl⟩
instance : ST Try.prog 36 [.slice none 0 0] [(0, 1)] := .of (z := .agg #[.slice none 0 0]) (fs := (match Try.prog.underlying 36 with | some (.struct fs) => fs | _ => #[])) (by kernel_rfl) (by kernel_rfl) (by kernel_rfl) (by kernel_rfl) (by kernel_rfl)
instance : AL Try.prog 36 [.slice none 0 0] := ⟨by kernel_rfl⟩
instance : CT Try.prog 37 (some 6) := ⟨by kernel_rfl⟩
instance : SZ Try.prog 37 6 := ⟨by kernel_rfl⟩
instance : FO Try.prog 37 0 0 := ⟨by kernel_rfl⟩
instance : FO Try.prog 37 1 1 := ⟨by kernel_rfl⟩
instance : FO Try.prog 37 2 2 := ⟨by kernel_rfl⟩
instance : FO Try.prog 37 3 3 := ⟨by kernel_rfl⟩
instance : FO Try.prog 37 4 4 := ⟨by kernel_rfl⟩
instance : FO Try.prog 37 5 5 := ⟨by kernel_rfl⟩
instance : ST Try.prog 37 [.pointer none, .pointer none, .slice none 0 0, .bool false, .int .i64 0, .int .i64 0] [(0, 1), (1, 1), (2, 1), (3, 1), (4, 1), (5, 1)] := .of (z := .agg #[.pointer none, .pointer none, .slice none 0 0, .bool false, .int .i64 0, .int .i64 0]) (fs := (match Try.prog.underlying 37 with | some (.struct fs) => fs | _ => #[])) (by kernel_rfl) (by kernel_rfl) (by kernel_rfl) (by kernel_rfl) (by kernel_rfl)
instance : AL Try.prog 37 [.pointer none, .pointer none, .slice none 0 0, .bool false, .int .i64 0, .int .i64 0] := ⟨by kernel_rfl⟩
instance : CT Try.prog 38 (some 6) := ⟨by kernel_rfl⟩
instance : SZ Try.prog 38 6 := ⟨by kernel_rfl⟩
instance : FO Try.prog 38 0 0 := ⟨by kernel_rfl⟩
instance : FO Try.prog 38 1 1 := ⟨by kernel_rfl⟩
instance : FO Try.prog 38 2 2 := ⟨by kernel_rfl⟩
instance : FO Try.prog 38 3 3 := ⟨by kernel_rfl⟩
instance : FO Try.prog 38 4 4 := ⟨by kernel_rfl⟩
instance : FO Try.prog 38 5 5 := ⟨by kernel_rfl⟩
instance : ST Try.prog 38 [.pointer none, .pointer none, .slice none 0 0, .bool false, .int .i64 0, .int .i64 0] [(0, 1), (1, 1), (2, 1), (3, 1), (4, 1), (5, 1)] := .of (z := .agg #[.pointer none, .pointer none, .slice none 0 0, .bool false, .int .i64 0, .int .i64 0]) (fs := (match Try.prog.underlying 38 with | some (.struct fs) => fs | _ => #[])) (by kernel_rfl) (by kernel_rfl) (by kernel_rfl) (by kernel_rfl) (by kernel_rfl)
instance : AL Try.prog 38 [.pointer none, .pointer none, .slice none 0 0, .bool false, .int .i64 0, .int .i64 0] := ⟨by kernel_rfl⟩
instance : CT Try.prog 39 none := ⟨by kernel_rfl⟩
instance : SZ Try.prog 39 1 := ⟨by kernel_rfl⟩
instance : AL Try.prog 39 [.nilFunc] := ⟨by kernel_rfl⟩
instance : CT Try.prog 40 none := ⟨by kernel_rfl⟩
instance : SZ Try.prog 40 1 := ⟨by kernel_rfl⟩
instance : AL Try.prog 40 [.nilFunc] := ⟨by kernel_rfl⟩
instance : CT Try.prog 41 none := ⟨by kernel_rfl⟩
instance : SZ Try.prog 41 1 := ⟨by kernel_rfl⟩
instance : AL Try.prog 41 [.nilFunc] := ⟨by kernel_rfl⟩
instance : CT Try.prog 42 none := ⟨by kernel_rfl⟩
instance : SZ Try.prog 42 1 := ⟨by kernel_rfl⟩
instance : AL Try.prog 42 [.nilFunc] := ⟨by kernel_rfl⟩
instance : CT Try.prog 43 none := ⟨by kernel_rfl⟩
instance : SZ Try.prog 43 1 := ⟨by kernel_rfl⟩
instance : AL Try.prog 43 [.nilFunc] := ⟨by kernel_rfl⟩
instance : CT Try.prog 44 none := ⟨by kernel_rfl⟩
instance : SZ Try.prog 44 1 := ⟨by kernel_rfl⟩
theorem un44 : Try.prog.underlying 44 = some (.int .u64) := by kernel_rfl
instance : AL Try.prog 44 [.int .u64 0] := ⟨by kernel_rfl⟩
instance : CT Try.prog 45 (some 4) := ⟨by kernel_rfl⟩
instance : SZ Try.prog 45 4 := ⟨by kernel_rfl⟩
instance : FO Try.prog 45 0 0 := ⟨by kernel_rfl⟩
instance : FO Try.prog 45 1 1 := ⟨by kernel_rfl⟩
instance : FO Try.prog 45 2 2 := ⟨by kernel_rfl⟩
instance : FO Try.prog 45 3 3 := ⟨by kernel_rfl⟩
instance : ST Try.prog 45 [.int .i64 0, .bool false, .bool false, .int .u64 0] [(0, 1), (1, 1), (2, 1), (3, 1)] := .of (z := .agg #[.int .i64 0, .bool false, .bool false, .int .u64 0]) (fs := (match Try.prog.underlying 45 with | some (.struct fs) => fs | _ => #[])) (by kernel_rfl) (by kernel_rfl) (by kernel_rfl) (by kernel_rfl) (by kernel_rfl)
instance : AL Try.prog 45 [.int .i64 0, .bool false, .bool false, .int .u64 0] := ⟨by kernel_rfl⟩
instance : CT Try.prog 46 (some 4) := ⟨by kernel_rfl⟩
instance : SZ Try.prog 46 4 := ⟨by kernel_rfl⟩
instance : FO Try.prog 46 0 0 := ⟨by kernel_rfl⟩
instance : FO Try.prog 46 1 1 := ⟨by kernel_rfl⟩
instance : FO Try.prog 46 2 2 := ⟨by kernel_rfl⟩
instance : FO Try.prog 46 3 3 := ⟨by kernel_rfl⟩
instance : ST Try.prog 46 [.int .i64 0, .bool false, .bool false, .int .u64 0] [(0, 1), (1, 1), (2, 1), (3, 1)] := .of (z := .agg #[.int .i64 0, .bool false, .bool false, .int .u64 0]) (fs := (match Try.prog.underlying 46 with | some (.struct fs) => fs | _ => #[])) (by kernel_rfl) (by kernel_rfl) (by kernel_rfl) (by kernel_rfl) (by kernel_rfl)
instance : AL Try.prog 46 [.int .i64 0, .bool false, .bool false, .int .u64 0] := ⟨by kernel_rfl⟩
instance : CT Try.prog 47 none := ⟨by kernel_rfl⟩
instance : SZ Try.prog 47 1 := ⟨by kernel_rfl⟩
instance : AL Try.prog 47 [.nilFunc] := ⟨by kernel_rfl⟩
instance : CT Try.prog 48 none := ⟨by kernel_rfl⟩
instance : SZ Try.prog 48 1 := ⟨by kernel_rfl⟩
instance : AL Try.prog 48 [.nilFunc] := ⟨by kernel_rfl⟩
instance : CT Try.prog 49 none := ⟨by kernel_rfl⟩
instance : SZ Try.prog 49 1 := ⟨by kernel_rfl⟩
instance : EL Try.prog 49 (none, 1) := ⟨by kernel_rfl⟩
instance : UN Try.prog 49 (.slice 5) := ⟨by kernel_rfl⟩
instance : BS Try.prog 49 5 1 (.int .u8 0) := .of (by kernel_rfl) (by kernel_rfl) (by kernel_rfl) (by kernel_rfl) (by kernel_rfl)
instance : MK Try.prog 49 5 1 (.int .u8 0) := .of (inf := Try.t5) (by kernel_rfl) (by kernel_rfl) (by kernel_rfl) (by kernel_rfl) (by kernel_rfl) (by kernel_rfl) (by kernel_rfl)
instance : AP Try.prog 49 49 5 1 1 := .of (inf := Try.t5) (z := .int .u8 0) (e₂ := 5) (by kernel_rfl) (by kernel_rfl) (by kernel_rfl) (by kernel_rfl) (by kernel_rfl) (by kernel_rfl) (by decide) (by kernel_rfl) (by kernel_rfl)
instance : AL Try.prog 49 [.slice none 0 0] := ⟨by kernel_rfl⟩
instance : CT Try.prog 50 none := ⟨by kernel_rfl⟩
instance : SZ Try.prog 50 1 := ⟨by kernel_rfl⟩
instance : AL Try.prog 50 [.nilFunc] := ⟨by kernel_rfl⟩
instance : CT Try.prog 51 none := ⟨by kernel_rfl⟩
instance : SZ Try.prog 51 1 := ⟨by kernel_rfl⟩
theorem un51 : Try.prog.underlying 51 = some (.int .u8) := by kernel_rfl
instance : AL Try.prog 51 [.int .u8 0] := ⟨by kernel_rfl⟩
instance : CT Try.prog 52 none := ⟨by kernel_rfl⟩
instance : SZ Try.prog 52 1 := ⟨by kernel_rfl⟩
instance : CT Try.prog 53 none := ⟨by kernel_rfl⟩
instance : SZ Try.prog 53 1 := ⟨by kernel_rfl⟩
instance : AL Try.prog 53 [.nilFunc] := ⟨by kernel_rfl⟩
instance : CT Try.prog 54 none := ⟨by kernel_rfl⟩
instance : SZ Try.prog 54 1 := ⟨by kernel_rfl⟩
instance : AL Try.prog 54 [.nilFunc] := ⟨by kernel_rfl⟩
instance : CT Try.prog 55 none := ⟨by kernel_rfl⟩
instance : SZ Try.prog 55 1 := ⟨by kernel_rfl⟩
instance : AL Try.prog 55 [.nilFunc] := ⟨by kernel_rfl⟩
instance : CT Try.prog 56 none := ⟨by kernel_rfl⟩
instance : SZ Try.prog 56 1 := ⟨by kernel_rfl⟩
instance : EL Try.prog 56 (none, 1) := ⟨by kernel_rfl⟩
instance : UN Try.prog 56 (.slice 44) := ⟨by kernel_rfl⟩
instance : BS Try.prog 56 44 1 (.int .u64 0) := .of (by kernel_rfl) (by kernel_rfl) (by kernel_rfl) (by kernel_rfl) (by kernel_rfl)
instance : MK Try.prog 56 44 8 (.int .u64 0) := .of (inf := Try.t44) (by kernel_rfl) (by kernel_rfl) (by kernel_rfl) (by kernel_rfl) (by kernel_rfl) (by kernel_rfl) (by kernel_rfl)
instance : AP Try.prog 56 56 44 1 8 := .of (inf := Try.t44) (z := .int .u64 0) (e₂ := 44) (by kernel_rfl) (by kernel_rfl) (by kernel_rfl) (by kernel_rfl) (by kernel_rfl) (by kernel_rfl) (by decide) (by kernel_rfl) (by kernel_rfl)
instance : AL Try.prog 56 [.slice none 0 0] := ⟨by kernel_rfl⟩
instance : CT Try.prog 57 none := ⟨by kernel_rfl⟩
instance : SZ Try.prog 57 1 := ⟨by kernel_rfl⟩
instance : AL Try.prog 57 [.nilFunc] := ⟨by kernel_rfl⟩
instance : CT Try.prog 58 none := ⟨by kernel_rfl⟩
instance : SZ Try.prog 58 1 := ⟨by kernel_rfl⟩
instance : EL Try.prog 58 (none, 2) := ⟨by kernel_rfl⟩
instance : UN Try.prog 58 (.slice 123) := ⟨by kernel_rfl⟩
instance : BS Try.prog 58 123 2 (.agg #[.int .i64 0, .bool false]) := .of (by kernel_rfl) (by kernel_rfl) (by kernel_rfl) (by kernel_rfl) (by kernel_rfl)
instance : AP Try.prog 58 58 123 2 16 := .of (inf := Try.t123) (z := .agg #[.int .i64 0, .bool false]) (e₂ := 123) (by kernel_rfl) (by kernel_rfl) (by kernel_rfl) (by kernel_rfl) (by kernel_rfl) (by kernel_rfl) (by decide) (by kernel_rfl) (by kernel_rfl)
instance : AL Try.prog 58 [.slice none 0 0] := ⟨by kernel_rfl⟩
instance : CT Try.prog 59 none := ⟨by kernel_rfl⟩
instance : SZ Try.prog 59 1 := ⟨by kernel_rfl⟩
theorem un59 : Try.prog.underlying 59 = some (.int .i64) := by kernel_rfl
instance : AL Try.prog 59 [.int .i64 0] := ⟨by kernel_rfl⟩
instance : CT Try.prog 60 none := ⟨by kernel_rfl⟩
instance : SZ Try.prog 60 1 := ⟨by kernel_rfl⟩
instance : CT Try.prog 61 none := ⟨by kernel_rfl⟩
instance : SZ Try.prog 61 1 := ⟨by kernel_rfl⟩
instance : AL Try.prog 61 [.nilFunc] := ⟨by kernel_rfl⟩
instance : CT Try.prog 62 none := ⟨by kernel_rfl⟩
instance : SZ Try.prog 62 1 := ⟨by kernel_rfl⟩
instance : AL Try.prog 62 [.nilFunc] := ⟨by kernel_rfl⟩
instance : CT Try.prog 63 none := ⟨by kernel_rfl⟩
instance : SZ Try.prog 63 1 := ⟨by kernel_rfl⟩
instance : EL Try.prog 63 (none, 2) := ⟨by kernel_rfl⟩
instance : UN Try.prog 63 (.slice 129) := ⟨by kernel_rfl⟩
instance : BS Try.prog 63 129 2 (.agg #[.int .i64 0, .bool false]) := .of (by kernel_rfl) (by kernel_rfl) (by kernel_rfl) (by kernel_rfl) (by kernel_rfl)
instance : AP Try.prog 63 63 129 2 16 := .of (inf := Try.t129) (z := .agg #[.int .i64 0, .bool false]) (e₂ := 129) (by kernel_rfl) (by kernel_rfl) (by kernel_rfl) (by kernel_rfl) (by kernel_rfl) (by kernel_rfl) (by decide) (by kernel_rfl) (by kernel_rfl)
instance : AL Try.prog 63 [.slice none 0 0] := ⟨by kernel_rfl⟩
instance : CT Try.prog 64 none := ⟨by kernel_rfl⟩
instance : SZ Try.prog 64 1 := ⟨by kernel_rfl⟩
instance : AL Try.prog 64 [.nilFunc] := ⟨by kernel_rfl⟩
instance : CT Try.prog 65 none := ⟨by kernel_rfl⟩
instance : SZ Try.prog 65 1 := ⟨by kernel_rfl⟩
instance : AL Try.prog 65 [.nilFunc] := ⟨by kernel_rfl⟩
instance : CT Try.prog 66 none := ⟨by kernel_rfl⟩
instance : SZ Try.prog 66 1 := ⟨by kernel_rfl⟩
instance : AL Try.prog 66 [.nilFunc] := ⟨by kernel_rfl⟩
instance : CT Try.prog 67 none := ⟨by kernel_rfl⟩
instance : SZ Try.prog 67 1 := ⟨by kernel_rfl⟩
instance : AL Try.prog 67 [.nilFunc] := ⟨by kernel_rfl⟩
instance : CT Try.prog 68 none := ⟨by kernel_rfl⟩
instance : SZ Try.prog 68 1 := ⟨by kernel_rfl⟩
instance : AL Try.prog 68 [.nilFunc] := ⟨by kernel_rfl⟩
instance : CT Try.prog 69 none := ⟨by kernel_rfl⟩
instance : SZ Try.prog 69 1 := ⟨by kernel_rfl⟩
instance : EL Try.prog 69 (none, 2) := ⟨by kernel_rfl⟩
instance : UN Try.prog 69 (.slice 80) := ⟨by kernel_rfl⟩
instance : BS Try.prog 69 80 2 (.agg #[.int .i64 0, .int .i64 0]) := .of (by kernel_rfl) (by kernel_rfl) (by kernel_rfl) (by kernel_rfl) (by kernel_rfl)
instance : AP Try.prog 69 69 80 2 16 := .of (inf := Try.t80) (z := .agg #[.int .i64 0, .int .i64 0]) (e₂ := 80) (by kernel_rfl) (by kernel_rfl) (by kernel_rfl) (by kernel_rfl) (by kernel_rfl) (by kernel_rfl) (by decide) (by kernel_rfl) (by kernel_rfl)
instance : AL Try.prog 69 [.slice none 0 0] := ⟨by kernel_rfl⟩
instance : CT Try.prog 70 none := ⟨by kernel_rfl⟩
instance : SZ Try.prog 70 1 := ⟨by kernel_rfl⟩
instance : AL Try.prog 70 [.nilFunc] := ⟨by kernel_rfl⟩
instance : CT Try.prog 71 none := ⟨by kernel_rfl⟩
instance : SZ Try.prog 71 1 := ⟨by kernel_rfl⟩
instance : AL Try.prog 71 [.nilFunc] := ⟨by kernel_rfl⟩
instance : CT Try.prog 72 none := ⟨by kernel_rfl⟩
instance : SZ Try.prog 72 1 := ⟨by kernel_rfl⟩
instance : AL Try.prog 72 [.nilFunc] := ⟨by kernel_rfl⟩
instance : CT Try.prog 73 none := ⟨by kernel_rfl⟩
instance : SZ Try.prog 73 1 := ⟨by kernel_rfl⟩
instance : AL Try.prog 73 [.nilFunc] := ⟨by kernel_rfl⟩
instance : CT Try.prog 74 none := ⟨by kernel_rfl⟩
instance : SZ Try.prog 74 1 := ⟨by kernel_rfl⟩
instance : EL Try.prog 74 (none, 2) := ⟨by kernel_rfl⟩
instance : UN Try.prog 74 (.slice 134) := ⟨by kernel_rfl⟩
instance : BS Try.prog 74 134 2 (.agg #[.int .i64 0, .int .i64 0]) := .of (by kernel_rfl) (by kernel_rfl) (by kernel_rfl) (by kernel_rfl) (by kernel_rfl)
instance : AP Try.prog 74 74 134 2 16 := .of (inf := Try.t134) (z := .agg #[.int .i64 0, .int .i64 0]) (e₂ := 134) (by kernel_rfl) (by kernel_rfl) (by kernel_rfl) (by kernel_rfl) (by kernel_rfl) (by kernel_rfl) (by decide) (by kernel_rfl) (by kernel_rfl)
instance : AL Try.prog 74 [.slice none 0 0] := ⟨by kernel_rfl⟩
instance : CT Try.prog 75 none := ⟨by kernel_rfl⟩
instance : SZ Try.prog 75 1 := ⟨by kernel_rfl⟩
instance : AL Try.prog 75 [.nilFunc] := ⟨by kernel_rfl⟩
instance : CT Try.prog 76 none := ⟨by kernel_rfl⟩
instance : SZ Try.prog 76 1 := ⟨by kernel_rfl⟩
instance : AL Try.prog 76 [.nilFunc] := ⟨by kernel_rfl⟩
instance : CT Try.prog 77 none := ⟨by kernel_rfl⟩
instance : SZ Try.prog 77 1 := ⟨by kernel_rfl⟩
instance : CT Try.prog 78 none := ⟨by kernel_rfl⟩
instance : SZ Try.prog 78 1 := ⟨by kernel_rfl⟩
instance : AL Try.prog 78 [.nilFunc] := ⟨by kernel_rfl⟩
instance : CT Try.prog 79 (some 2) := ⟨by kernel_rfl⟩
instance : SZ Try.prog 79 2 := ⟨by kernel_rfl⟩
instance : FO Try.prog 79 0 0 := ⟨by kernel_rfl⟩
instance : FO Try.prog 79 1 1 := ⟨by kernel_rfl⟩
instance : ST Try.prog 79 [.int .i64 0, .int .i64 0] [(0, 1), (1, 1)] := .of (z := .agg #[.int .i64 0, .int .i64 0]) (fs := (match Try.prog.underlying 79 with | some (.struct fs) => fs | _ => #[])) (by kernel_rfl) (by kernel_rfl) (by kernel_rfl) (by kernel_rfl) (by kernel_rfl)
instance : AL Try.prog 79 [.int .i64 0, .int .i64 0] := ⟨by kernel_rfl⟩
instance : CT Try.prog 80 (some 2) := ⟨by kernel_rfl⟩
instance : SZ Try.prog 80 2 := ⟨by kernel_rfl⟩
instance : FO Try.prog 80 0 0 := ⟨by kernel_rfl⟩
instance : FO Try.prog 80 1 1 := ⟨by kernel_rfl⟩
instance : ST Try.prog 80 [.int .i64 0, .int .i64 0] [(0, 1), (1, 1)] := .of (z := .agg #[.int .i64 0, .int .i64 0]) (fs := (match Try.prog.underlying 80 with | some (.struct fs) => fs | _ => #[])) (by kernel_rfl) (by kernel_rfl) (by kernel_rfl) (by kernel_rfl) (by kernel_rfl)
instance : AL Try.prog 80 [.int .i64 0, .int .i64 0] := ⟨by kernel_rfl⟩
instance : CT Try.prog 81 none := ⟨by kernel_rfl⟩
instance : SZ Try.prog 81 1 := ⟨by kernel_rfl⟩
instance : AL Try.prog 81 [.nilFunc] := ⟨by kernel_rfl⟩
instance : CT Try.prog 82 none := ⟨by kernel_rfl⟩
instance : SZ Try.prog 82 1 := ⟨by kernel_rfl⟩
theorem un82 : Try.prog.underlying 82 = some (.int .u32) := by kernel_rfl
instance : AL Try.prog 82 [.int .u32 0] := ⟨by kernel_rfl⟩
instance : CT Try.prog 83 none := ⟨by kernel_rfl⟩
instance : SZ Try.prog 83 1 := ⟨by kernel_rfl⟩
instance : EL Try.prog 83 (none, 2) := ⟨by kernel_rfl⟩
instance : UN Try.prog 83 (.slice 92) := ⟨by kernel_rfl⟩
instance : BS Try.prog 83 92 2 (.agg #[.int .i64 0, .int .u32 0]) := .of (by kernel_rfl) (by kernel_rfl) (by kernel_rfl) (by kernel_rfl) (by kernel_rfl)
instance : AP Try.prog 83 83 92 2 16 := .of (inf := Try.t92) (z := .agg #[.int .i64 0, .int .u32 0]) (e₂ := 92) (by kernel_rfl) (by kernel_rfl) (by kernel_rfl) (by kernel_rfl) (by kernel_rfl) (by kernel_rfl) (by decide) (by kernel_rfl) (by kernel_rfl)
instance : AL Try.prog 83 [.slice none 0 0] := ⟨by kernel_rfl⟩
instance : CT Try.prog 84 none := ⟨by kernel_rfl⟩
instance : SZ Try.prog 84 1 := ⟨by kernel_rfl⟩
instance : AL Try.prog 84 [.pointer none] := ⟨by kernel_rfl⟩
instance : CT Try.prog 85 none := ⟨by kernel_rfl⟩
instance : SZ Try.prog 85 1 := ⟨by kernel_rfl⟩
instance : AL Try.prog 85 [.nilFunc] := ⟨by kernel_rfl⟩
instance : CT Try.prog 86 none := ⟨by kernel_rfl⟩
instance : SZ Try.prog 86 1 := ⟨by kernel_rfl⟩
instance : AL Try.prog 86 [.pointer none] := ⟨by kernel_rfl⟩
instance : CT Try.prog 87 none := ⟨by kernel_rfl⟩
instance : SZ Try.prog 87 1 := ⟨by kernel_rfl⟩
instance : EL Try.prog 87 (none, 1) := ⟨by kernel_rfl⟩
instance : UN Try.prog 87 (.slice 2) := ⟨by kernel_rfl⟩
instance : BS Try.prog 87 2 1 (.int .i64 0) := .of (by kernel_rfl) (by kernel_rfl) (by kernel_rfl) (by kernel_rfl) (by kernel_rfl)
instance : MK Try.prog 87 2 8 (.int .i64 0) := .of (inf := Try.t2) (by kernel_rfl) (by kernel_rfl) (by kernel_rfl) (by kernel_rfl) (by kernel_rfl) (by kernel_rfl) (by kernel_rfl)
instance : AP Try.prog 87 87 2 1 8 := .of (inf := Try.t2) (z := .int .i64 0) (e₂ := 2) (by kernel_rfl) (by kernel_rfl) (by kernel_rfl) (by kernel_rfl) (by kernel_rfl) (by kernel_rfl) (by decide) (by kernel_rfl) (by kernel_rfl)
instance : AL Try.prog 87 [.slice none 0 0] := ⟨by kernel_rfl⟩
instance : CT Try.prog 88 none := ⟨by kernel_rfl⟩
instance : SZ Try.prog 88 1 := ⟨by kernel_rfl⟩
instance : EL Try.prog 88 (none, 1) := ⟨by kernel_rfl⟩
instance : UN Try.prog 88 (.slice 82) := ⟨by kernel_rfl⟩
instance : BS Try.prog 88 82 1 (.int .u32 0) := .of (by kernel_rfl) (by kernel_rfl) (by kernel_rfl) (by kernel_rfl) (by kernel_rfl)
instance : MK Try.prog 88 82 4 (.int .u32 0) := .of (inf := Try.t82) (by kernel_rfl) (by kernel_rfl) (by kernel_rfl) (by kernel_rfl) (by kernel_rfl) (by kernel_rfl) (by kernel_rfl)
instance : AP Try.prog 88 88 82 1 4 := .of (inf := Try.t82) (z := .int .u32 0) (e₂ := 82) (by kernel_rfl) (by kernel_rfl) (by kernel_rfl) (by kernel_rfl) (by kernel_rfl) (by kernel_rfl) (by decide) (by kernel_rfl) (by kernel_rfl)
instance : AL Try.prog 88 [.slice none 0 0] := ⟨by kernel_rfl⟩
instance : CT Try.prog 89 (some 3) := ⟨by kernel_rfl⟩
instance : SZ Try.prog 89 3 := ⟨by kernel_rfl⟩
instance : FO Try.prog 89 0 0 := ⟨by kernel_rfl⟩
instance : FO Try.prog 89 1 1 := ⟨by kernel_rfl⟩
instance : FO Try.prog 89 2 2 := ⟨by kernel_rfl⟩
instance : ST Try.prog 89 [.int .u32 0, .slice none 0 0, .slice none 0 0] [(0, 1), (1, 1), (2, 1)] := .of (z := .agg #[.int .u32 0, .slice none 0 0, .slice none 0 0]) (fs := (match Try.prog.underlying 89 with | some (.struct fs) => fs | _ => #[])) (by kernel_rfl) (by kernel_rfl) (by kernel_rfl) (by kernel_rfl) (by kernel_rfl)
instance : AL Try.prog 89 [.int .u32 0, .slice none 0 0, .slice none 0 0] := ⟨by kernel_rfl⟩
instance : CT Try.prog 90 (some 3) := ⟨by kernel_rfl⟩
instance : SZ Try.prog 90 3 := ⟨by kernel_rfl⟩
instance : FO Try.prog 90 0 0 := ⟨by kernel_rfl⟩
instance : FO Try.prog 90 1 1 := ⟨by kernel_rfl⟩
instance : FO Try.prog 90 2 2 := ⟨by kernel_rfl⟩
instance : ST Try.prog 90 [.int .u32 0, .slice none 0 0, .slice none 0 0] [(0, 1), (1, 1), (2, 1)] := .of (z := .agg #[.int .u32 0, .slice none 0 0, .slice none 0 0]) (fs := (match Try.prog.underlying 90 with | some (.struct fs) => fs | _ => #[])) (by kernel_rfl) (by kernel_rfl) (by kernel_rfl) (by kernel_rfl) (by kernel_rfl)
instance : AL Try.prog 90 [.int .u32 0, .slice none 0 0, .slice none 0 0] := ⟨by kernel_rfl⟩
instance : CT Try.prog 91 (some 2) := ⟨by kernel_rfl⟩
instance : SZ Try.prog 91 2 := ⟨by kernel_rfl⟩
instance : FO Try.prog 91 0 0 := ⟨by kernel_rfl⟩
instance : FO Try.prog 91 1 1 := ⟨by kernel_rfl⟩
instance : ST Try.prog 91 [.int .i64 0, .int .u32 0] [(0, 1), (1, 1)] := .of (z := .agg #[.int .i64 0, .int .u32 0]) (fs := (match Try.prog.underlying 91 with | some (.struct fs) => fs | _ => #[])) (by kernel_rfl) (by kernel_rfl) (by kernel_rfl) (by kernel_rfl) (by kernel_rfl)
instance : AL Try.prog 91 [.int .i64 0, .int .u32 0] := ⟨by kernel_rfl⟩
instance : CT Try.prog 92 (some 2) := ⟨by kernel_rfl⟩
instance : SZ Try.prog 92 2 := ⟨by kernel_rfl⟩
instance : FO Try.prog 92 0 0 := ⟨by kernel_rfl⟩
instance : FO Try.prog 92 1 1 := ⟨by kernel_rfl⟩
instance : ST Try.prog 92 [.int .i64 0, .int .u32 0] [(0, 1), (1, 1)] := .of (z := .agg #[.int .i64 0, .int .u32 0]) (fs := (match Try.prog.underlying 92 with | some (.struct fs) => fs | _ => #[])) (by kernel_rfl) (by kernel_rfl) (by kernel_rfl) (by kernel_rfl) (by kernel_rfl)
instance : AL Try.prog 92 [.int .i64 0, .int .u32 0] := ⟨by kernel_rfl⟩
instance : CT Try.prog 93 none := ⟨by kernel_rfl⟩
instance : SZ Try.prog 93 1 := ⟨by kernel_rfl⟩
instance : AL Try.prog 93 [.nilFunc] := ⟨by kernel_rfl⟩
instance : CT Try.prog 94 none := ⟨by kernel_rfl⟩
instance : SZ Try.prog 94 1 := ⟨by kernel_rfl⟩
instance : AL Try.prog 94 [.nilFunc] := ⟨by kernel_rfl⟩
instance : CT Try.prog 95 none := ⟨by kernel_rfl⟩
instance : SZ Try.prog 95 1 := ⟨by kernel_rfl⟩
instance : AL Try.prog 95 [.nilFunc] := ⟨by kernel_rfl⟩
instance : CT Try.prog 96 none := ⟨by kernel_rfl⟩
instance : SZ Try.prog 96 1 := ⟨by kernel_rfl⟩
instance : AL Try.prog 96 [.nilFunc] := ⟨by kernel_rfl⟩
instance : CT Try.prog 97 none := ⟨by kernel_rfl⟩
instance : SZ Try.prog 97 1 := ⟨by kernel_rfl⟩
instance : AL Try.prog 97 [.nilFunc] := ⟨by kernel_rfl⟩
instance : CT Try.prog 98 none := ⟨by kernel_rfl⟩
instance : SZ Try.prog 98 1 := ⟨by kernel_rfl⟩
instance : AL Try.prog 98 [.nilFunc] := ⟨by kernel_rfl⟩
instance : CT Try.prog 99 none := ⟨by kernel_rfl⟩
instance : SZ Try.prog 99 1 := ⟨by kernel_rfl⟩
instance : EL Try.prog 99 (none, 2) := ⟨by kernel_rfl⟩
instance : UN Try.prog 99 (.slice 108) := ⟨by kernel_rfl⟩
instance : BS Try.prog 99 108 2 (.agg #[.int .u16 0, .int .u16 0]) := .of (by kernel_rfl) (by kernel_rfl) (by kernel_rfl) (by kernel_rfl) (by kernel_rfl)
instance : AP Try.prog 99 99 108 2 4 := .of (inf := Try.t108) (z := .agg #[.int .u16 0, .int .u16 0]) (e₂ := 108) (by kernel_rfl) (by kernel_rfl) (by kernel_rfl) (by kernel_rfl) (by kernel_rfl) (by kernel_rfl) (by decide) (by kernel_rfl) (by kernel_rfl)
instance : AL Try.prog 99 [.slice none 0 0] := ⟨by kernel_rfl⟩
instance : CT Try.prog 100 none := ⟨by kernel_rfl⟩
instance : SZ Try.prog 100 1 := ⟨by kernel_rfl⟩
instance : AL Try.prog 100 [.nilFunc] := ⟨by kernel_rfl⟩
instance : CT Try.prog 101 none := ⟨by kernel_rfl⟩
instance : SZ Try.prog 101 1 := ⟨by kernel_rfl⟩
instance : AL Try.prog 101 [.nilFunc] := ⟨by kernel_rfl⟩
instance : CT Try.prog 102 none := ⟨by kernel_rfl⟩
instance : SZ Try.prog 102 1 := ⟨by kernel_rfl⟩
instance : AL Try.prog 102 [.nilFunc] := ⟨by kernel_rfl⟩
instance : CT Try.prog 103 none := ⟨by kernel_rfl⟩
instance : SZ Try.prog 103 1 := ⟨by kernel_rfl⟩
instance : AL Try.prog 103 [.nilFunc] := ⟨by kernel_rfl⟩
instance : CT Try.prog 104 none := ⟨by kernel_rfl⟩
instance : SZ Try.prog 104 1 := ⟨by kernel_rfl⟩
instance : EL Try.prog 104 (none, 1) := ⟨by kernel_rfl⟩
instance : UN Try.prog 104 (.slice 105) := ⟨by kernel_rfl⟩
instance : BS Try.prog 104 105 1 (.int .u16 0) := .of (by kernel_rfl) (by kernel_rfl) (by kernel_rfl) (by kernel_rfl) (by kernel_rfl)
instance : MK Try.prog 104 105 2 (.int .u16 0) := .of (inf := Try.t105) (by kernel_rfl) (by kernel_rfl) (by kernel_rfl) (by kernel_rfl) (by kernel_rfl) (by kernel_rfl) (by kernel_rfl)
instance : AP Try.prog 104 104 105 1 2 := .of (inf := Try.t105) (z := .int .u16 0) (e₂ := 105) (by kernel_rfl) (by kernel_rfl) (by kernel_rfl) (by kernel_rfl) (by kernel_rfl) (by kernel_rfl) (by decide) (by kernel_rfl) (by kernel_rfl)
instance : AL Try.prog 104 [.slice none 0 0] := ⟨by kernel_rfl⟩
instance : CT Try.prog 105 none := ⟨by kernel_rfl⟩
instance : SZ Try.prog 105 1 := ⟨by kernel_rfl⟩
theorem un105 : Try.prog.underlying 105 = some (.int .u16) := by kernel_rfl
instance : AL Try.prog 105 [.int .u16 0] := ⟨by kernel_rfl⟩
instance : CT Try.prog 106 none := ⟨by kernel_rfl⟩
instance : SZ Try.prog 106 1 := ⟨by kernel_rfl⟩
instance : AL Try.prog 106 [.map none] := ⟨by kernel_rfl⟩
instance : CT Try.prog 107 (some 2) := ⟨by kernel_rfl⟩
instance : SZ Try.prog 107 2 := ⟨by kernel_rfl⟩
instance : FO Try.prog 107 0 0 := ⟨by kernel_rfl⟩
instance : FO Try.prog 107 1 1 := ⟨by kernel_rfl⟩
instance : ST Try.prog 107 [.int .u16 0, .int .u16 0] [(0, 1), (1, 1)] := .of (z := .agg #[.int .u16 0, .int .u16 0]) (fs := (match Try.prog.underlying 107 with | some (.struct fs) => fs | _ => #[])) (by kernel_rfl) (by kernel_rfl) (by kernel_rfl) (by kernel_rfl) (by kernel_rfl)
instance : AL Try.prog 107 [.int .u16 0, .int .u16 0] := ⟨by kernel_rfl⟩
instance : CT Try.prog 108 (some 2) := ⟨by kernel_rfl⟩
instance : SZ Try.prog 108 2 := ⟨by kernel_rfl⟩
instance : FO Try.prog 108 0 0 := ⟨by kernel_rfl⟩
instance : FO Try.prog 108 1 1 := ⟨by kernel_rfl⟩
instance : ST Try.prog 108 [.int .u16 0, .int .u16 0] [(0, 1), (1, 1)] := .of (z := .agg #[.int .u16 0, .int .u16 0]) (fs := (match Try.prog.underlying 108 with | some (.struct fs) => fs | _ => #[])) (by kernel_rfl) (by kernel_rfl) (by kernel_rfl) (by kernel_rfl) (by kernel_rfl)
instance : AL Try.prog 108 [.int .u16 0, .int .u16 0] := ⟨by kernel_rfl⟩
instance : CT Try.prog 109 none := ⟨by kernel_rfl⟩
instance : SZ Try.prog 109 1 := ⟨by kernel_rfl⟩
instance : AL Try.prog 109 [.nilFunc] := ⟨by kernel_rfl⟩
instance : CT Try.prog 110 none := ⟨by kernel_rfl⟩
instance : SZ Try.prog 110 1 := ⟨by kernel_rfl⟩
instance : AL Try.prog 110 [.nilFunc] := ⟨by kernel_rfl⟩
instance : CT Try.prog 111 none := ⟨by kernel_rfl⟩
instance : SZ Try.prog 111 1 := ⟨by kernel_rfl⟩
instance : EL Try.prog 111 (none, 1) := ⟨by kernel_rfl⟩
instance : UN Try.prog 111 (.slice 116) := ⟨by kernel_rfl⟩
instance : BS Try.prog 111 116 1 (.pointer none) := .of (by kernel_rfl) (by kernel_rfl) (by kernel_rfl) (by kernel_rfl) (by kernel_rfl)
instance : MK Try.prog 111 116 8 (.pointer none) := .of (inf := Try.t116) (by kernel_rfl) (by kernel_rfl) (by kernel_rfl) (by kernel_rfl) (by kernel_rfl) (by kernel_rfl) (by kernel_rfl)
instance : AP Try.prog 111 111 116 1 8 := .of (inf := Try.t116) (z := .pointer none) (e₂ := 116) (by kernel_rfl) (by kernel_rfl) (by kernel_rfl) (by kernel_rfl) (by kernel_rfl) (by kernel_rfl) (by decide) (by kernel_rfl) (by kernel_rfl)
instance : AL Try.prog 111 [.slice none 0 0] := ⟨by kernel_rfl⟩
instance : CT Try.prog 112 (some 1) := ⟨by kernel_rfl⟩
instance : SZ Try.prog 112 1 := ⟨by kernel_rfl⟩
instance : FO Try.prog 112 0 0 := ⟨by kernel_rfl⟩
instance : ST Try.prog 112 [.slice none 0 0] [(0, 1)] := .of (z := .agg #[.slice none 0 0]) (fs := (match Try.prog.underlying 112 with | some (.struct fs) => fs | _ => #[])) (by kernel_rfl) (by kernel_rfl) (by kernel_rfl) (by kernel_rfl) (by kernel_rfl)
instance : AL Try.prog 112 [.slice none 0 0] := ⟨by kernel_rfl⟩
instance : CT Try.prog 113 (some 1) := ⟨by kernel_rfl⟩
instance : SZ Try.prog 113 1 := ⟨by kernel_rfl⟩
instance : FO Try.prog 113 0 0 := ⟨by kernel_rfl⟩
instance : ST Try.prog 113 [.slice none 0 0] [(0, 1)] := .of (z := .agg #[.slice none 0 0]) (fs := (match Try.prog.underlying 113 with | some (.struct fs) => fs | _ => #[])) (by kernel_rfl) (by kernel_rfl) (by kernel_rfl) (by kernel_rfl) (by kernel_rfl)
instance : AL Try.prog 113 [.slice none 0 0] := ⟨by kernel_rfl⟩
instance : CT Try.prog 114 none := ⟨by kernel_rfl⟩
instance : SZ Try.prog 114 1 := ⟨by kernel_rfl⟩
instance : AL Try.prog 114 [.nilFunc] := ⟨by kernel_rfl⟩
instance : CT Try.prog 115 none := ⟨by kernel_rfl⟩
instance : SZ Try.prog 115 1 := ⟨by kernel_rfl⟩
instance : AL Try.prog 115 [.nilFunc] := ⟨by kernel_rfl⟩
instance : CT Try.prog 116 none := ⟨by kernel_rfl⟩
instance : SZ Try.prog 116 1 := ⟨by kernel_rfl⟩
instance : AL Try.prog 116 [.pointer none] := ⟨by kernel_rfl⟩
instance : CT Try.prog 117 none := ⟨by kernel_rfl⟩
instance : SZ Try.prog 117 1 := ⟨by kernel_rfl⟩
instance : AL Try.prog 117 [.nilFunc] := ⟨by kernel_rfl⟩
instance : CT Try.prog 118 (some 5) := ⟨by kernel_rfl⟩
instance : SZ Try.prog 118 5 := ⟨by kernel_rfl⟩
instance : FO Try.prog 118 0 0 := ⟨by kernel_rfl⟩
instance : FO Try.prog 118 1 1 := ⟨by kernel_rfl⟩
instance : FO Try.prog 118 2 2 := ⟨by kernel_rfl⟩
instance : FO Try.prog 118 3 3 := ⟨by kernel_rfl⟩
instance : FO Try.prog 118 4 4 := ⟨by kernel_rfl⟩
instance : ST Try.prog 118 [.nilFunc, .int .u8 0, .bool false, .bool false, .int .u64 0] [(0, 1), (1, 1), (2, 1), (3, 1), (4, 1)] := .of (z := .agg #[.nilFunc, .int .u8 0, .bool false, .bool false, .int .u64 0]) (fs := (match Try.prog.underlying 118 with | some (.struct fs) => fs | _ => #[])) (by kernel_rfl) (by kernel_rfl) (by kernel_rfl) (by kernel_rfl) (by kernel_rfl)
instance : AL Try.prog 118 [.nilFunc, .int .u8 0, .bool false, .bool false, .int .u64 0] := ⟨by kernel_rfl⟩
instance : CT Try.prog 119 (some 5) := ⟨by kernel_rfl⟩
instance : SZ Try.prog 119 5 := ⟨by kernel_rfl⟩
instance : FO Try.prog 119 0 0 := ⟨by kernel_rfl⟩
instance : FO Try.prog 119 1 1 := ⟨by kernel_rfl⟩
instance : FO Try.prog 119 2 2 := ⟨by kernel_rfl⟩
instance : FO Try.prog 119 3 3 := ⟨by kernel_rfl⟩
instance : FO Try.prog 119 4 4 := ⟨by kernel_rfl⟩
instance : ST Try.prog 119 [.nilFunc, .int .u8 0, .bool false, .bool false, .int .u64 0] [(0, 1), (1, 1), (2, 1), (3, 1), (4, 1)] := .of (z := .agg #[.nilFunc, .int .u8 0, .bool false, .bool false, .int .u64 0]) (fs := (match Try.prog.underlying 119 with | some (.struct fs) => fs | _ => #[])) (by kernel_rfl) (by kernel_rfl) (by kernel_rfl) (by kernel_rfl) (by kernel_rfl)
instance : AL Try.prog 119 [.nilFunc, .int .u8 0, .bool false, .bool false, .int .u64 0] := ⟨by kernel_rfl⟩
instance : CT Try.prog 120 none := ⟨by kernel_rfl⟩
instance : SZ Try.prog 120 1 := ⟨by kernel_rfl⟩
instance : AL Try.prog 120 [.nilFunc] := ⟨by kernel_rfl⟩
instance : CT Try.prog 121 none := ⟨by kernel_rfl⟩
instance : SZ Try.prog 121 1 := ⟨by kernel_rfl⟩
instance : AL Try.prog 121 [.nilFunc] := ⟨by kernel_rfl⟩
instance : CT Try.prog 122 (some 2) := ⟨by kernel_rfl⟩
instance : SZ Try.prog 122 2 := ⟨by kernel_rfl⟩
instance : FO Try.prog 122 0 0 := ⟨by kernel_rfl⟩
instance : FO Try.prog 122 1 1 := ⟨by kernel_rfl⟩
instance : ST Try.prog 122 [.int .i64 0, .bool false] [(0, 1), (1, 1)] := .of (z := .agg #[.int .i64 0, .bool false]) (fs := (match Try.prog.underlying 122 with | some (.struct fs) => fs | _ => #[])) (by kernel_rfl) (by kernel_rfl) (by kernel_rfl) (by kernel_rfl) (by kernel_rfl)
instance : AL Try.prog 122 [.int .i64 0, .bool false] := ⟨by kernel_rfl⟩
instance : CT Try.prog 123 (some 2) := ⟨by kernel_rfl⟩
instance : SZ Try.prog 123 2 := ⟨by kernel_rfl⟩
instance : FO Try.prog 123 0 0 := ⟨by kernel_rfl⟩
instance : FO Try.prog 123 1 1 := ⟨by kernel_rfl⟩
instance : ST Try.prog 123 [.int .i64 0, .bool false] [(0, 1), (1, 1)] := .of (z := .agg #[.int .i64 0, .bool false]) (fs := (match Try.prog.underlying 123 with | some (.struct fs) => fs | _ => #[])) (by kernel_rfl) (by kernel_rfl) (by kernel_rfl) (by kernel_rfl) (by kernel_rfl)
instance : AL Try.prog 123 [.int .i64 0, .bool false] := ⟨by kernel_rfl⟩
instance : CT Try.prog 124 none := ⟨by kernel_rfl⟩
instance : SZ Try.prog 124 1 := ⟨by kernel_rfl⟩
instance : AL Try.prog 124 [.nilFunc] := ⟨by kernel_rfl⟩
instance : CT Try.prog 125 none := ⟨by kernel_rfl⟩
instance : SZ Try.prog 125 1 := ⟨by kernel_rfl⟩
instance : AL Try.prog 125 [.map none] := ⟨by kernel_rfl⟩
instance : CT Try.prog 126 none := ⟨by kernel_rfl⟩
instance : SZ Try.prog 126 1 := ⟨by kernel_rfl⟩
instance : CT Try.prog 127 none := ⟨by kernel_rfl⟩
instance : SZ Try.prog 127 1 := ⟨by kernel_rfl⟩
instance : AL Try.prog 127 [.nilFunc] := ⟨by kernel_rfl⟩
instance : CT Try.prog 128 none := ⟨by kernel_rfl⟩
instance : SZ Try.prog 128 1 := ⟨by kernel_rfl⟩
instance : AL Try.prog 128 [.nilFunc] := ⟨by kernel_rfl⟩
instance : CT Try.prog 129 (some 2) := ⟨by kernel_rfl⟩
instance : SZ Try.prog 129 2 := ⟨by kernel_rfl⟩
instance : FO Try.prog 129 0 0 := ⟨by kernel_rfl⟩
instance : FO Try.prog 129 1 1 := ⟨by kernel_rfl⟩
instance : ST Try.prog 129 [.int .i64 0, .bool false] [(0, 1), (1, 1)] := .of (z := .agg #[.int .i64 0, .bool false]) (fs := (match Try.prog.underlying 129 with | some (.struct fs) => fs | _ => #[])) (by kernel_rfl) (by kernel_rfl) (by kernel_rfl) (by kernel_rfl) (by kernel_rfl)
instance : AL Try.prog 129 [.int .i64 0, .bool false] := ⟨by kernel_rfl⟩
instance : CT Try.prog 130 (some 2) := ⟨by kernel_rfl⟩
instance : SZ Try.prog 130 2 := ⟨by kernel_rfl⟩
instance : FO Try.prog 130 0 0 := ⟨by kernel_rfl⟩
instance : FO Try.prog 130 1 1 := ⟨by kernel_rfl⟩
instance : ST Try.prog 130 [.int .i64 0, .int .i64 0] [(0, 1), (1, 1)] := .of (z := .agg #[.int .i64 0, .int .i64 0]) (fs := (match Try.prog.underlying 130 with | some (.struct fs) => fs | _ => #[])) (by kernel_rfl) (by kernel_rfl) (by kernel_rfl) (by kernel_rfl) (by kernel_rfl)
instance : AL Try.prog 130 [.int .i64 0, .int .i64 0] := ⟨by kernel_rfl⟩
instance : CT Try.prog 131 (some 2) := ⟨by kernel_rfl⟩
instance : SZ Try.prog 131 2 := ⟨by kernel_rfl⟩
instance : FO Try.prog 131 0 0 := ⟨by kernel_rfl⟩
instance : FO Try.prog 131 1 1 := ⟨by kernel_rfl⟩
instance : ST Try.prog 131 [.int .i64 0, .int .i64 0] [(0, 1), (1, 1)] := .of (z := .agg #[.int .i64 0, .int .i64 0]) (fs := (match Try.prog.underlying 131 with | some (.struct fs) => fs | _ => #[])) (by kernel_rfl) (by kernel_rfl) (by kernel_rfl) (by kernel_rfl) (by kernel_rfl)
instance : AL Try.prog 131 [.int .i64 0, .int .i64 0] := ⟨by kernel_rfl⟩
instance : CT Try.prog 132 none := ⟨by kernel_rfl⟩
instance : SZ Try.prog 132 1 := ⟨by kernel_rfl⟩
instance : CT Try.prog 133 none := ⟨by kernel_rfl⟩
instance : SZ Try.prog 133 1 := ⟨by kernel_rfl⟩
instance : AL Try.prog 133 [.nilFunc] := ⟨by kernel_rfl⟩
instance : CT Try.prog 134 (some 2) := ⟨by kernel_rfl⟩
instance : SZ Try.prog 134 2 := ⟨by kernel_rfl⟩
instance : FO Try.prog 134 0 0 := ⟨by kernel_rfl⟩
instance : FO Try.prog 134 1 1 := ⟨by kernel_rfl⟩
instance : ST Try.prog 134 [.int .i64 0, .int .i64 0] [(0, 1), (1, 1)] := .of (z := .agg #[.int .i64 0, .int .i64 0]) (fs := (match Try.prog.underlying 134 with | some (.struct fs) => fs | _ => #[])) (by kernel_rfl) (by kernel_rfl) (by kernel_rfl) (by kernel_rfl) (by kernel_rfl)
instance : AL Try.prog 134 [.int .i64 0, .int .i64 0] := ⟨by kernel_rfl⟩
instance : CT Try.prog 135 none := ⟨by kernel_rfl⟩
instance : SZ Try.prog 135 1 := ⟨by kernel_rfl⟩
instance : AL Try.prog 135 [.map none] := ⟨by kernel_rfl⟩
instance : CT Try.prog 136 (some 3) := ⟨by kernel_rfl⟩
instance : SZ Try.prog 136 3 := ⟨by kernel_rfl⟩
instance : FO Try.prog 136 0 0 := ⟨by kernel_rfl⟩
instance : FO Try.prog 136 1 1 := ⟨by kernel_rfl⟩
instance : FO Try.prog 136 2 2 := ⟨by kernel_rfl⟩
instance : ST Try.prog 136 [.int .u32 0, .map none, .slice none 0 0] [(0, 1), (1, 1), (2, 1)] := .of (z := .agg #[.int .u32 0, .map none, .slice none 0 0]) (fs := (match Try.prog.underlying 136 with | some (.struct fs) => fs | _ => #[])) (by kernel_rfl) (by kernel_rfl) (by kernel_rfl) (by kernel_rfl) (by kernel_rfl)
instance : AL Try.prog 136 [.int .u32 0, .map none, .slice none 0 0] := ⟨by kernel_rfl⟩
instance : CT Try.prog 137 (some 3) := ⟨by kernel_rfl⟩
instance : SZ Try.prog 137 3 := ⟨by kernel_rfl⟩
instance : FO Try.prog 137 0 0 := ⟨by kernel_rfl⟩
instance : FO Try.prog 137 1 1 := ⟨by kernel_rfl⟩
instance : FO Try.prog 137 2 2 := ⟨by kernel_rfl⟩
instance : ST Try.prog 137 [.int .u32 0, .map none, .slice none 0 0] [(0, 1), (1, 1), (2, 1)] := .of (z := .agg #[.int .u32 0, .map none, .slice none 0 0]) (fs := (match Try.prog.underlying 137 with | some (.struct fs) => fs | _ => #[])) (by kernel_rfl) (by kernel_rfl) (by kernel_rfl) (by kernel_rfl) (by kernel_rfl)
instance : AL Try.prog 137 [.int .u32 0, .map none, .slice none 0 0] := ⟨by kernel_rfl⟩
instance : CT Try.prog 138 none := ⟨by kernel_rfl⟩
instance : SZ Try.prog 138 1 := ⟨by kernel_rfl⟩
instance : AL Try.prog 138 [.nilFunc] := ⟨by kernel_rfl⟩
instance : CT Try.prog 139 (some 0) := ⟨by kernel_rfl⟩
instance : SZ Try.prog 139 0 := ⟨by kernel_rfl⟩
instance : ST Try.prog 139 [] [] := .of (z := .agg #[]) (fs := (match Try.prog.underlying 139 with | some (.struct fs) => fs | _ => #[])) (by kernel_rfl) (by kernel_rfl) (by kernel_rfl) (by kernel_rfl) (by kernel_rfl)
instance : AL Try.prog 139 [] := ⟨by kernel_rfl⟩
instance : CT Try.prog 140 none := ⟨by kernel_rfl⟩
instance : SZ Try.prog 140 1 := ⟨by kernel_rfl⟩
instance : CT Try.prog 141 none := ⟨by kernel_rfl⟩
instance : SZ Try.prog 141 1 := ⟨by kernel_rfl⟩
instance : AL Try.prog 141 [.nilFunc] := ⟨by kernel_rfl⟩
instance : CT Try.prog 142 none := ⟨by kernel_rfl⟩
instance : SZ Try.prog 142 1 := ⟨by kernel_rfl⟩
instance : AL Try.prog 142 [.nilFunc] := ⟨by kernel_rfl⟩
instance : CT Try.prog 143 none := ⟨by kernel_rfl⟩
instance : SZ Try.prog 143 1 := ⟨by kernel_rfl⟩
instance : AL Try.prog 143 [.nilFunc] := ⟨by kernel_rfl⟩
instance : CT Try.prog 144 none := ⟨by kernel_rfl⟩
instance : SZ Try.prog 144 1 := ⟨by kernel_rfl⟩
instance : AL Try.prog 144 [.nilFunc] := ⟨by kernel_rfl⟩
instance : CT Try.prog 145 none := ⟨by kernel_rfl⟩
instance : SZ Try.prog 145 1 := ⟨by kernel_rfl⟩
instance : AL Try.prog 145 [.nilFunc] := ⟨by kernel_rfl⟩
instance : CT Try.prog 146 none := ⟨by kernel_rfl⟩
instance : SZ Try.prog 146 1 := ⟨by kernel_rfl⟩
instance : AL Try.prog 146 [.nilFunc] := ⟨by kernel_rfl⟩
instance : CT Try.prog 147 none := ⟨by kernel_rfl⟩
instance : SZ Try.prog 147 1 := ⟨by kernel_rfl⟩
instance : AL Try.prog 147 [.map none] := ⟨by kernel_rfl⟩
instance : CT Try.prog 148 none := ⟨by kernel_rfl⟩
instance : SZ Try.prog 148 1 := ⟨by kernel_rfl⟩
instance : AL Try.prog 148 [.nilFunc] := ⟨by kernel_rfl⟩
instance : CT Try.prog 149 none := ⟨by kernel_rfl⟩
instance : SZ Try.prog 149 1 := ⟨by kernel_rfl⟩
instance : AL Try.prog 149 [.nilFunc] := ⟨by kernel_rfl⟩
instance : CT Try.prog 150 none := ⟨by kernel_rfl⟩
instance : SZ Try.prog 150 1 := ⟨by kernel_rfl⟩
instance : AL Try.prog 150 [.nilFunc] := ⟨by kernel_rfl⟩
instance : CT Try.prog 151 none := ⟨by kernel_rfl⟩
instance : SZ Try.prog 151 1 := ⟨by kernel_rfl⟩
instance : AL Try.prog 151 [.nilFunc] := ⟨by kernel_rfl⟩
instance : CT Try.prog 152 none := ⟨by kernel_rfl⟩
instance : SZ Try.prog 152 1 := ⟨by kernel_rfl⟩
instance : AL Try.prog 152 [.nilFunc] := ⟨by kernel_rfl⟩
instance : CT Try.prog 153 none := ⟨by kernel_rfl⟩
instance : SZ Try.prog 153 1 := ⟨by kernel_rfl⟩
theorem un153 : Try.prog.underlying 153 = some (.int .u64) := by kernel_rfl
instance : AL Try.prog 153 [.int .u64 0] := ⟨by kernel_rfl⟩
instance : CT Try.prog 154 none := ⟨by kernel_rfl⟩
instance : SZ Try.prog 154 1 := ⟨by kernel_rfl⟩
instance : AL Try.prog 154 [.nilFunc] := ⟨by kernel_rfl⟩
instance : CT Try.prog 155 none := ⟨by kernel_rfl⟩
instance : SZ Try.prog 155 1 := ⟨by kernel_rfl⟩
theorem un155 : Try.prog.underlying 155 = some (.int .i64) := by kernel_rfl
instance : AL Try.prog 155 [.int .i64 0] := ⟨by kernel_rfl⟩
instance : CT Try.prog 156 none := ⟨by kernel_rfl⟩
instance : SZ Try.prog 156 1 := ⟨by kernel_rfl⟩
instance : CT Try.prog 157 none := ⟨by kernel_rfl⟩
instance : SZ Try.prog 157 1 := ⟨by kernel_rfl⟩
instance : AL Try.prog 157 [.nilFunc] := ⟨by kernel_rfl⟩
instance : CT Try.prog 158 none := ⟨by kernel_rfl⟩
instance : SZ Try.prog 158 1 := ⟨by kernel_rfl⟩
instance : AL Try.prog 158 [.nilFunc] := ⟨by kernel_rfl⟩
instance : CT Try.prog 159 none := ⟨by kernel_rfl⟩
instance : SZ Try.prog 159 1 := ⟨by kernel_rfl⟩
instance : AL Try.prog 159 [.nilFunc] := ⟨by kernel_rfl⟩
instance : CT Try.prog 160 none := ⟨by kernel_rfl⟩
instance : SZ Try.prog 160 1 := ⟨by kernel_rfl⟩
instance : AL Try.prog 160 [.nilFunc] := ⟨by kernel_rfl⟩
instance : CT Try.prog 161 none := ⟨by kernel_rfl⟩
instance : SZ Try.prog 161 1 := ⟨by kernel_rfl⟩
instance : AL Try.prog 161 [.nilFunc] := ⟨by kernel_rfl⟩
instance : CT Try.prog 162 none := ⟨by kernel_rfl⟩
instance : SZ Try.prog 162 1 := ⟨by kernel_rfl⟩
instance : AL Try.prog 162 [.nilFunc] := ⟨by kernel_rfl⟩
instance : CT Try.prog 163 none := ⟨by kernel_rfl⟩
instance : SZ Try.prog 163 1 := ⟨by kernel_rfl⟩
instance : AL Try.prog 163 [.nilFunc] := ⟨by kernel_rfl⟩
instance : CT Try.prog 164 none := ⟨by kernel_rfl⟩
instance : SZ Try.prog 164 1 := ⟨by kernel_rfl⟩
theorem un164 : Try.prog.underlying 164 = some (.int .u64) := by kernel_rfl
instance : AL Try.prog 164 [.int .u64 0] := ⟨by kernel_rfl⟩
instance : CT Try.prog 165 none := ⟨by kernel_rfl⟩
instance : SZ Try.prog 165 1 := ⟨by kernel_rfl⟩
instance : AL Try.prog 165 [.nilFunc] := ⟨by kernel_rfl⟩
instance : CT Try.prog 166 none := ⟨by kernel_rfl⟩
instance : SZ Try.prog 166 1 := ⟨by kernel_rfl⟩
instance : AL Try.prog 166 [.nilFunc] := ⟨by kernel_rfl⟩
instance : CT Try.prog 167 none := ⟨by kernel_rfl⟩
instance : SZ Try.prog 167 1 := ⟨by kernel_rfl⟩
instance : AL Try.prog 167 [.nilFunc] := ⟨by kernel_rfl⟩
instance : CT Try.prog 168 none := ⟨by kernel_rfl⟩
instance : SZ Try.prog 168 1 := ⟨by kernel_rfl⟩
instance : AL Try.prog 168 [.pointer none] := ⟨by kernel_rfl⟩
instance : CT Try.prog 169 none := ⟨by kernel_rfl⟩
instance : SZ Try.prog 169 1 := ⟨by kernel_rfl⟩
instance : AL Try.prog 169 [.nilFunc] := ⟨by kernel_rfl⟩
instance : CT Try.prog 170 none := ⟨by kernel_rfl⟩
instance : SZ Try.prog 170 1 := ⟨by kernel_rfl⟩
instance : AL Try.prog 170 [.nilFunc] := ⟨by kernel_rfl⟩
instance : CT Try.prog 171 none := ⟨by kernel_rfl⟩
instance : SZ Try.prog 171 1 := ⟨by kernel_rfl⟩
instance : AL Try.prog 171 [.pointer none] := ⟨by kernel_rfl⟩
instance : CT Try.prog 172 none := ⟨by kernel_rfl⟩
instance : SZ Try.prog 172 1 := ⟨by kernel_rfl⟩
instance : CT Try.prog 173 none := ⟨by kernel_rfl⟩
instance : SZ Try.prog 173 1 := ⟨by kernel_rfl⟩
instance : AL Try.prog 173 [.nilFunc] := ⟨by kernel_rfl⟩
instance : CT Try.prog 174 none := ⟨by kernel_rfl⟩
instance : SZ Try.prog 174 1 := ⟨by kernel_rfl⟩
instance : AL Try.prog 174 [.nilFunc] := ⟨by kernel_rfl⟩
instance : CT Try.prog 175 (some 4) := ⟨by kernel_rfl⟩
instance : SZ Try.prog 175 4 := ⟨by kernel_rfl⟩
instance : FO Try.prog 175 0 0 := ⟨by kernel_rfl⟩
instance : FO Try.prog 175 1 1 := ⟨by kernel_rfl⟩
instance : FO Try.prog 175 2 2 := ⟨by kernel_rfl⟩
instance : FO Try.prog 175 3 3 := ⟨by kernel_rfl⟩
instance : ST Try.prog 175 [.pointer none, .pointer none, .pointer none, .string ⟨#[]⟩] [(0, 1), (1, 1), (2, 1), (3, 1)] := .of (z := .agg #[.pointer none, .pointer none, .pointer none, .string ⟨#[]⟩]) (fs := (match Try.prog.underlying 175 with | some (.struct fs) => fs | _ => #[])) (by kernel_rfl) (by kernel_rfl) (by kernel_rfl) (by kernel_rfl) (by kernel_rfl)
instance : AL Try.prog 175 [.pointer none, .pointer none, .pointer none, .string ⟨#[]⟩] := ⟨by kernel_rfl⟩
instance : CT Try.prog 176 (some 4) := ⟨by kernel_rfl⟩
instance : SZ Try.prog 176 4 := ⟨by kernel_rfl⟩
instance : FO Try.prog 176 0 0 := ⟨by kernel_rfl⟩
instance : FO Try.prog 176 1 1 := ⟨by kernel_rfl⟩
instance : FO Try.prog 176 2 2 := ⟨by kernel_rfl⟩
instance : FO Try.prog 176 3 3 := ⟨by kernel_rfl⟩
instance : ST Try.prog 176 [.pointer none, .pointer none, .pointer none, .string ⟨#[]⟩] [(0, 1), (1, 1), (2, 1), (3, 1)] := .of (z := .agg #[.pointer none, .pointer none, .pointer none, .string ⟨#[]⟩]) (fs := (match Try.prog.underlying 176 with | some (.struct fs) => fs | _ => #[])) (by kernel_rfl) (by kernel_rfl) (by kernel_rfl) (by kernel_rfl) (by kernel_rfl)
instance : AL Try.prog 176 [.pointer none, .pointer none, .pointer none, .string ⟨#[]⟩] := ⟨by kernel_rfl⟩
instance : CT Try.prog 177 (some 0) := ⟨by kernel_rfl⟩
instance : SZ Try.prog 177 0 := ⟨by kernel_rfl⟩
instance : EL Try.prog 177 (some 0, 1) := ⟨by kernel_rfl⟩
instance : AL Try.prog 177 [] := ⟨by kernel_rfl⟩
instance : CT Try.prog 178 (some 0) := ⟨by kernel_rfl⟩
instance : SZ Try.prog 178 0 := ⟨by kernel_rfl⟩
instance : ST Try.prog 178 [] [(0, 0)] := .of (z := .agg #[]) (fs := (match Try.prog.underlying 178 with | some (.struct fs) => fs | _ => #[])) (by kernel_rfl) (by kernel_rfl) (by kernel_rfl) (by kernel_rfl) (by kernel_rfl)
instance : AL Try.prog 178 [] := ⟨by kernel_rfl⟩
instance : CT Try.prog 179 (some 0) := ⟨by kernel_rfl⟩
instance : SZ Try.prog 179 0 := ⟨by kernel_rfl⟩
instance : ST Try.prog 179 [] [(0, 0)] := .of (z := .agg #[]) (fs := (match Try.prog.underlying 179 with | some (.struct fs) => fs | _ => #[])) (by kernel_rfl) (by kernel_rfl) (by kernel_rfl) (by kernel_rfl) (by kernel_rfl)
instance : AL Try.prog 179 [] := ⟨by kernel_rfl⟩
instance : CT Try.prog 180 none := ⟨by kernel_rfl⟩
instance : SZ Try.prog 180 1 := ⟨by kernel_rfl⟩
theorem un180 : Try.prog.underlying 180 = some (.int .u8) := by kernel_rfl
instance : AL Try.prog 180 [.int .u8 0] := ⟨by kernel_rfl⟩
instance : CT Try.prog 181 none := ⟨by kernel_rfl⟩
instance : SZ Try.prog 181 1 := ⟨by kernel_rfl⟩
theorem un181 : Try.prog.underlying 181 = some (.int .u8) := by kernel_rfl
instance : AL Try.prog 181 [.int .u8 0] := ⟨by kernel_rfl⟩
instance : CT Try.prog 182 none := ⟨by kernel_rfl⟩
instance : SZ Try.prog 182 1 := ⟨by kernel_rfl⟩
instance : AL Try.prog 182 [.nilFunc] := ⟨by kernel_rfl⟩
instance : CT Try.prog 183 none := ⟨by kernel_rfl⟩
instance : SZ Try.prog 183 1 := ⟨by kernel_rfl⟩
instance : AL Try.prog 183 [.pointer none] := ⟨by kernel_rfl⟩
instance : CT Try.prog 184 none := ⟨by kernel_rfl⟩
instance : SZ Try.prog 184 1 := ⟨by kernel_rfl⟩
theorem un184 : Try.prog.underlying 184 = some (.int .i32) := by kernel_rfl
instance : AL Try.prog 184 [.int .i32 0] := ⟨by kernel_rfl⟩
instance : CT Try.prog 185 none := ⟨by kernel_rfl⟩
instance : SZ Try.prog 185 1 := ⟨by kernel_rfl⟩
theorem un185 : Try.prog.underlying 185 = some (.int .i32) := by kernel_rfl
instance : AL Try.prog 185 [.int .i32 0] := ⟨by kernel_rfl⟩
instance : CT Try.prog 186 (some 11) := ⟨by kernel_rfl⟩
instance : SZ Try.prog 186 11 := ⟨by kernel_rfl⟩
instance : FO Try.prog 186 0 0 := ⟨by kernel_rfl⟩
instance : FO Try.prog 186 1 1 := ⟨by kernel_rfl⟩
instance : FO Try.prog 186 2 2 := ⟨by kernel_rfl⟩
instance : FO Try.prog 186 3 3 := ⟨by kernel_rfl⟩
instance : FO Try.prog 186 4 4 := ⟨by kernel_rfl⟩
instance : FO Try.prog 186 5 5 := ⟨by kernel_rfl⟩
instance : FO Try.prog 186 6 6 := ⟨by kernel_rfl⟩
instance : FO Try.prog 186 7 7 := ⟨by kernel_rfl⟩
instance : FO Try.prog 186 8 8 := ⟨by kernel_rfl⟩
instance : FO Try.prog 186 9 9 := ⟨by kernel_rfl⟩
instance : FO Try.prog 186 10 10 := ⟨by kernel_rfl⟩
instance : ST Try.prog 186 [.int .u64 0, .int .u64 0, .int .u32 0, .int .u8 0, .int .u8 0, .int .u8 0, .int .u8 0, .nilFunc, .pointer none, .int .i32 0, .int .i32 0] [(0, 1), (1, 1), (2, 1), (3, 1), (4, 1), (5, 1), (6, 1), (7, 1), (8, 1), (9, 1), (10, 1)] := .of (z := .agg #[.int .u64 0, .int .u64 0, .int .u32 0, .int .u8 0, .int .u8 0, .int .u8 0, .int .u8 0, .nilFunc, .pointer none, .int .i32 0, .int .i32 0]) (fs := (match Try.prog.underlying 186 with | some (.struct fs) => fs | _ => #[])) (by kernel_rfl) (by kernel_rfl) (by kernel_rfl) (by kernel_rfl) (by kernel_rfl)
instance : AL Try.prog 186 [.int .u64 0, .int .u64 0, .int .u32 0, .int .u8 0, .int .u8 0, .int .u8 0, .int .u8 0, .nilFunc, .pointer none, .int .i32 0, .int .i32 0] := ⟨by kernel_rfl⟩
instance : CT Try.prog 187 (some 11) := ⟨by kernel_rfl⟩
instance : SZ Try.prog 187 11 := ⟨by kernel_rfl⟩
instance : FO Try.prog 187 0 0 := ⟨by kernel_rfl⟩
instance : FO Try.prog 187 1 1 := ⟨by kernel_rfl⟩
instance : FO Try.prog 187 2 2 := ⟨by kernel_rfl⟩
instance : FO Try.prog 187 3 3 := ⟨by kernel_rfl⟩
instance : FO Try.prog 187 4 4 := ⟨by kernel_rfl⟩
instance : FO Try.prog 187 5 5 := ⟨by kernel_rfl⟩
instance : FO Try.prog 187 6 6 := ⟨by kernel_rfl⟩
instance : FO Try.prog 187 7 7 := ⟨by kernel_rfl⟩
instance : FO Try.prog 187 8 8 := ⟨by kernel_rfl⟩
instance : FO Try.prog 187 9 9 := ⟨by kernel_rfl⟩
instance : FO Try.prog 187 10 10 := ⟨by kernel_rfl⟩
instance : ST Try.prog 187 [.int .u64 0, .int .u64 0, .int .u32 0, .int .u8 0, .int .u8 0, .int .u8 0, .int .u8 0, .nilFunc, .pointer none, .int .i32 0, .int .i32 0] [(0, 1), (1, 1), (2, 1), (3, 1), (4, 1), (5, 1), (6, 1), (7, 1), (8, 1), (9, 1), (10, 1)] := .of (z := .agg #[.int .u64 0, .int .u64 0, .int .u32 0, .int .u8 0, .int .u8 0, .int .u8 0, .int .u8 0, .nilFunc, .pointer none, .int .i32 0, .int .i32 0]) (fs := (match Try.prog.underlying 187 with | some (.struct fs) => fs | _ => #[])) (by kernel_rfl) (by kernel_rfl) (by kernel_rfl) (by kernel_rfl) (by kernel_rfl)
instance : AL Try.prog 187 [.int .u64 0, .int .u64 0, .int .u32 0, .int .u8 0, .int .u8 0, .int .u8 0, .int .u8 0, .nilFunc, .pointer none, .int .i32 0, .int .i32 0] := ⟨by kernel_rfl⟩
instance : CT Try.prog 188 none := ⟨by kernel_rfl⟩
instance : SZ Try.prog 188 1 := ⟨by kernel_rfl⟩
instance : AL Try.prog 188 [.pointer none] := ⟨by kernel_rfl⟩
instance : IC Try.prog 2 2 .i64 := .of un2 un2
instance : IC Try.prog 2 3 .i64 := .of un2 un3
instance : IC Try.prog 2 5 .u8 := .of un2 un5
instance : IC Try.prog 2 6 .u8 := .of un2 un6
instance : IC Try.prog 2 12 .u64 := .of un2 un12
instance : IC Try.prog 2 21 .i32 := .of un2 un21
instance : IC Try.prog 2 44 .u64 := .of un2 un44
instance : IC Try.prog 2 51 .u8 := .of un2 un51
instance : IC Try.prog 2 59 .i64 := .of un2 un59
instance : IC Try.prog 2 82 .u32 := .of un2 un82
instance : IC Try.prog 2 105 .u16 := .of un2 un105
instance : IC Try.prog 2 153 .u64 := .of un2 un153
instance : IC Try.prog 2 155 .i64 := .of un2 un155
instance : IC Try.prog 2 164 .u64 := .of un2 un164
instance : IC Try.prog 2 180 .u8 := .of un2 un180
instance : IC Try.prog 2 181 .u8 := .of un2 un181
instance : IC Try.prog 2 184 .i32 := .of un2 un184
instance : IC Try.prog 2 185 .i32 := .of un2 un185
instance : IC Try.prog 3 2 .i64 := .of un3 un2
instance : IC Try.prog 3 3 .i64 := .of un3 un3
instance : IC Try.prog 3 5 .u8 := .of un3 un5
instance : IC Try.prog 3 6 .u8 := .of un3 un6
instance : IC Try.prog 3 12 .u64 := .of un3 un12
instance : IC Try.prog 3 21 .i32 := .of un3 un21
instance : IC Try.prog 3 44 .u64 := .of un3 un44
instance : IC Try.prog 3 51 .u8 := .of un3 un51
instance : IC Try.prog 3 59 .i64 := .of un3 un59
instance : IC Try.prog 3 82 .u32 := .of un3 un82
instance : IC Try.prog 3 105 .u16 := .of un3 un105
instance : IC Try.prog 3 153 .u64 := .of un3 un153
instance : IC Try.prog 3 155 .i64 := .of un3 un155
instance : IC Try.prog 3 164 .u64 := .of un3 un164
instance : IC Try.prog 3 180 .u8 := .of un3 un180
instance : IC Try.prog 3 181 .u8 := .of un3 un181
instance : IC Try.prog 3 184 .i32 := .of un3 un184
instance : IC Try.prog 3 185 .i32 := .of un3 un185
instance : IC Try.prog 5 2 .i64 := .of un5 un2
instance : IC Try.prog 5 3 .i64 := .of un5 un3
instance : IC Try.prog 5 5 .u8 := .of un5 un5
instance : IC Try.prog 5 6 .u8 := .of un5 un6
instance : IC Try.prog 5 12 .u64 := .of un5 un12
instance : IC Try.prog 5 21 .i32 := .of un5 un21
instance : IC Try.prog 5 44 .u64 := .of un5 un44
instance : IC Try.prog 5 51 .u8 := .of un5 un51
instance : IC Try.prog 5 59 .i64 := .of un5 un59
instance : IC Try.prog 5 82 .u32 := .of un5 un82
instance : IC Try.prog 5 105 .u16 := .of un5 un105
instance : IC Try.prog 5 153 .u64 := .of un5 un153
instance : IC Try.prog 5 155 .i64 := .of un5 un155
instance : IC Try.prog 5 164 .u64 := .of un5 un164
instance : IC Try.prog 5 180 .u8 := .of un5 un180
instance : IC Try.prog 5 181 .u8 := .of un5 un181
instance : IC Try.prog 5 184 .i32 := .of un5 un184
instance : IC Try.prog 5 185 .i32 := .of un5 un185
instance : IC Try.prog 6 2 .i64 := .of un6 un2
instance : IC Try.prog 6 3 .i64 := .of un6 un3
instance : IC Try.prog 6 5 .u8 := .of un6 un5
instance : IC Try.prog 6 6 .u8 := .of un6 un6
instance : IC Try.prog 6 12 .u64 := .of un6 un12
instance : IC Try.prog 6 21 .i32 := .of un6 un21
instance : IC Try.prog 6 44 .u64 := .of un6 un44
instance : IC Try.prog 6 51 .u8 := .of un6 un51
instance : IC Try.prog 6 59 .i64 := .of un6 un59
instance : IC Try.prog 6 82 .u32 := .of un6 un82
instance : IC Try.prog 6 105 .u16 := .of un6 un105
instance : IC Try.prog 6 153 .u64 := .of un6 un153
instance : IC Try.prog 6 155 .i64 := .of un6 un155
instance : IC Try.prog 6 164 .u64 := .of un6 un164
instance : IC Try.prog 6 180 .u8 := .of un6 un180
instance : IC Try.prog 6 181 .u8 := .of un6 un181
instance : IC Try.prog 6 184 .i32 := .of un6 un184
instance : IC Try.prog 6 185 .i32 := .of un6 un185
instance : IC Try.prog 12 2 .i64 := .of un12 un2
instance : IC Try.prog 12 3 .i64 := .of un12 un3
instance : IC Try.prog 12 5 .u8 := .of un12 un5
instance : IC Try.prog 12 6 .u8 := .of un12 un6
instance : IC Try.prog 12 12 .u64 := .of un12 un12
instance : IC Try.prog 12 21 .i32 := .of un12 un21
instance : IC Try.prog 12 44 .u64 := .of un12 un44
instance : IC Try.prog 12 51 .u8 := .of un12 un51
instance : IC Try.prog 12 59 .i64 := .of un12 un59
instance : IC Try.prog 12 82 .u32 := .of un12 un82
instance : IC Try.prog 12 105 .u16 := .of un12 un105
instance : IC Try.prog 12 153 .u64 := .of un12 un153
instance : IC Try.prog 12 155 .i64 := .of un12 un155
instance : IC Try.prog 12 164 .u64 := .of un12 un164
instance : IC Try.prog 12 180 .u8 := .of un12 un180
instance : IC Try.prog 12 181 .u8 := .of un12 un181
instance : IC Try.prog 12 184 .i32 := .of un12 un184
instance : IC Try.prog 12 185 .i32 := .of un12 un185
instance : IC Try.prog 21 2 .i64 := .of un21 un2
instance : IC Try.prog 21 3 .i64 := .of un21 un3
instance : IC Try.prog 21 5 .u8 := .of un21 un5
instance : IC Try.prog 21 6 .u8 := .of un21 un6
instance : IC Try.prog 21 12 .u64 := .of un21 un12
instance : IC Try.prog 21 21 .i32 := .of un21 un21
instance : IC Try.prog 21 44 .u64 := .of un21 un44
instance : IC Try.prog 21 51 .u8 := .of un21 un51
instance : IC Try.prog 21 59 .i64 := .of un21 un59
instance : IC Try.prog 21 82 .u32 := .of un21 un82
instance : IC Try.prog 21 105 .u16 := .of un21 un105
instance : IC Try.prog 21 153 .u64 := .of un21 un153
instance : IC Try.prog 21 155 .i64 := .of un21 un155
instance : IC Try.prog 21 164 .u64 := .of un21 un164
instance : IC Try.prog 21 180 .u8 := .of un21 un180
instance : IC Try.prog 21 181 .u8 := .of un21 un181
instance : IC Try.prog 21 184 .i32 := .of un21 un184
instance : IC Try.prog 21 185 .i32 := .of un21 un185
instance : IC Try.prog 44 2 .i64 := .of un44 un2
instance : IC Try.prog 44 3 .i64 := .of un44 un3
instance : IC Try.prog 44 5 .u8 := .of un44 un5
instance : IC Try.prog 44 6 .u8 := .of un44 un6
instance : IC Try.prog 44 12 .u64 := .of un44 un12
instance : IC Try.prog 44 21 .i32 := .of un44 un21
instance : IC Try.prog 44 44 .u64 := .of un44 un44
instance : IC Try.prog 44 51 .u8 := .of un44 un51
instance : IC Try.prog 44 59 .i64 := .of un44 un59
instance : IC Try.prog 44 82 .u32 := .of un44 un82
instance : IC Try.prog 44 105 .u16 := .of un44 un105
instance : IC Try.prog 44 153 .u64 := .of un44 un153
instance : IC Try.prog 44 155 .i64 := .of un44 un155
instance : IC Try.prog 44 164 .u64 := .of un44 un164
instance : IC Try.prog 44 180 .u8 := .of un44 un180
instance : IC Try.prog 44 181 .u8 := .of un44 un181
instance : IC Try.prog 44 184 .i32 := .of un44 un184
instance : IC Try.prog 44 185 .i32 := .of un44 un185
instance : IC Try.prog 51 2 .i64 := .of un51 un2
instance : IC Try.prog 51 3 .i64 := .of un51 un3
instance : IC Try.prog 51 5 .u8 := .of un51 un5
instance : IC Try.prog 51 6 .u8 := .of un51 un6
instance : IC Try.prog 51 12 .u64 := .of un51 un12
instance : IC Try.prog 51 21 .i32 := .of un51 un21
instance : IC Try.prog 51 44 .u64 := .of un51 un44
instance : IC Try.prog 51 51 .u8 := .of un51 un51
instance : IC Try.prog 51 59 .i64 := .of un51 un59
instance : IC Try.prog 51 82 .u32 := .of un51 un82
instance : IC Try.prog 51 105 .u16 := .of un51 un105
instance : IC Try.prog 51 153 .u64 := .of un51 un153
instance : IC Try.prog 51 155 .i64 := .of un51 un155
instance : IC Try.prog 51 164 .u64 := .of un51 un164
instance : IC Try.prog 51 180 .u8 := .of un51 un180
instance : IC Try.prog 51 181 .u8 := .of un51 un181
instance : IC Try.prog 51 184 .i32 := .of un51 un184
instance : IC Try.prog 51 185 .i32 := .of un51 un185
instance : IC Try.prog 59 2 .i64 := .of un59 un2
instance : IC Try.prog 59 3 .i64 := .of un59 un3
instance : IC Try.prog 59 5 .u8 := .of un59 un5
instance : IC Try.prog 59 6 .u8 := .of un59 un6
instance : IC Try.prog 59 12 .u64 := .of un59 un12
instance : IC Try.prog 59 21 .i32 := .of un59 un21
instance : IC Try.prog 59 44 .u64 := .of un59 un44
instance : IC Try.prog 59 51 .u8 := .of un59 un51
instance : IC Try.prog 59 59 .i64 := .of un59 un59
instance : IC Try.prog 59 82 .u32 := .of un59 un82
instance : IC Try.prog 59 105 .u16 := .of un59 un105
instance : IC Try.prog 59 153 .u64 := .of un59 un153
instance : IC Try.prog 59 155 .i64 := .of un59 un155
instance : IC Try.prog 59 164 .u64 := .of un59 un164
instance : IC Try.prog 59 180 .u8 := .of un59 un180
instance : IC Try.prog 59 181 .u8 := .of un59 un181
instance : IC Try.prog 59 184 .i32 := .of un59 un184
instance : IC Try.prog 59 185 .i32 := .of un59 un185
instance : IC Try.prog 82 2 .i64 := .of un82 un2
instance : IC Try.prog 82 3 .i64 := .of un82 un3
instance : IC Try.prog 82 5 .u8 := .of un82 un5
instance : IC Try.prog 82 6 .u8 := .of un82 un6
instance : IC Try.prog 82 12 .u64 := .of un82 un12
instance : IC Try.prog 82 21 .i32 := .of un82 un21
instance : IC Try.prog 82 44 .u64 := .of un82 un44
instance : IC Try.prog 82 51 .u8 := .of un82 un51
instance : IC Try.prog 82 59 .i64 := .of un82 un59
instance : IC Try.prog 82 82 .u32 := .of un82 un82
instance : IC Try.prog 82 105 .u16 := .of un82 un105
instance : IC Try.prog 82 153 .u64 := .of un82 un153
instance : IC Try.prog 82 155 .i64 := .of un82 un155
instance : IC Try.prog 82 164 .u64 := .of un82 un164
instance : IC Try.prog 82 180 .u8 := .of un82 un180
instance : IC Try.prog 82 181 .u8 := .of un82 un181
instance : IC Try.prog 82 184 .i32 := .of un82 un184
instance : IC Try.prog 82 185 .i32 := .of un82 un185
instance : IC Try.prog 105 2 .i64 := .of un105 un2
instance : IC Try.prog 105 3 .i64 := .of un105 un3
instance : IC Try.prog 105 5 .u8 := .of un105 un5
instance : IC Try.prog 105 6 .u8 := .of un105 un6
instance : IC Try.prog 105 12 .u64 := .of un105 un12
instance : IC Try.prog 105 21 .i32 := .of un105 un21
instance : IC Try.prog 105 44 .u64 := .of un105 un44
instance : IC Try.prog 105 51 .u8 := .of un105 un51
instance : IC Try.prog 105 59 .i64 := .of un105 un59
instance : IC Try.prog 105 82 .u32 := .of un105 un82
instance : IC Try.prog 105 105 .u16 := .of un105 un105
instance : IC Try.prog 105 153 .u64 := .of un105 un153
instance : IC Try.prog 105 155 .i64 := .of un105 un155
instance : IC Try.prog 105 164 .u64 := .of un105 un164
instance : IC Try.prog 105 180 .u8 := .of un105 un180
instance : IC Try.prog 105 181 .u8 := .of un105 un181
instance : IC Try.prog 105 184 .i32 := .of un105 un184
instance : IC Try.prog 105 185 .i32 := .of un105 un185
instance : IC Try.prog 153 2 .i64 := .of un153 un2
instance : IC Try.prog 153 3 .i64 := .of un153 un3
instance : IC Try.prog 153 5 .u8 := .of un153 un5
instance : IC Try.prog 153 6 .u8 := .of un153 un6
instance : IC Try.prog 153 12 .u64 := .of un153 un12
instance : IC Try.prog 153 21 .i32 := .of un153 un21
instance : IC Try.prog 153 44 .u64 := .of un153 un44
instance : IC Try.prog 153 51 .u8 := .of un153 un51
instance : IC Try.prog 153 59 .i64 := .of un153 un59
instance : IC Try.prog 153 82 .u32 := .of un153 un82
instance : IC Try.prog 153 105 .u16 := .of un153 un105
instance : IC Try.prog 153 153 .u64 := .of un153 un153
instance : IC Try.prog 153 155 .i64 := .of un153 un155
instance : IC Try.prog 153 164 .u64 := .of un153 un164
instance : IC Try.prog 153 180 .u8 := .of un153 un180
instance : IC Try.prog 153 181 .u8 := .of un153 un181
instance : IC Try.prog 153 184 .i32 := .of un153 un184
instance : IC Try.prog 153 185 .i32 := .of un153 un185
instance : IC Try.prog 155 2 .i64 := .of un155 un2
instance : IC Try.prog 155 3 .i64 := .of un155 un3
instance : IC Try.prog 155 5 .u8 := .of un155 un5
instance : IC Try.prog 155 6 .u8 := .of un155 un6
instance : IC Try.prog 155 12 .u64 := .of un155 un12
instance : IC Try.prog 155 21 .i32 := .of un155 un21
instance : IC Try.prog 155 44 .u64 := .of un155 un44
instance : IC Try.prog 155 51 .u8 := .of un155 un51
instance : IC Try.prog 155 59 .i64 := .of un155 un59
instance : IC Try.prog 155 82 .u32 := .of un155 un82
instance : IC Try.prog 155 105 .u16 := .of un155 un105
instance : IC Try.prog 155 153 .u64 := .of un155 un153
instance : IC Try.prog 155 155 .i64 := .of un155 un155
instance : IC Try.prog 155 164 .u64 := .of un155 un164
instance : IC Try.prog 155 180 .u8 := .of un155 un180
instance : IC Try.prog 155 181 .u8 := .of un155 un181
instance : IC Try.prog 155 184 .i32 := .of un155 un184
instance : IC Try.prog 155 185 .i32 := .of un155 un185
instance : IC Try.prog 164 2 .i64 := .of un164 un2
instance : IC Try.prog 164 3 .i64 := .of un164 un3
instance : IC Try.prog 164 5 .u8 := .of un164 un5
instance : IC Try.prog 164 6 .u8 := .of un164 un6
instance : IC Try.prog 164 12 .u64 := .of un164 un12
instance : IC Try.prog 164 21 .i32 := .of un164 un21
instance : IC Try.prog 164 44 .u64 := .of un164 un44
instance : IC Try.prog 164 51 .u8 := .of un164 un51
instance : IC Try.prog 164 59 .i64 := .of un164 un59
instance : IC Try.prog 164 82 .u32 := .of un164 un82
instance : IC Try.prog 164 105 .u16 := .of un164 un105
instance : IC Try.prog 164 153 .u64 := .of un164 un153
instance : IC Try.prog 164 155 .i64 := .of un164 un155
instance : IC Try.prog 164 164 .u64 := .of un164 un164
instance : IC Try.prog 164 180 .u8 := .of un164 un180
instance : IC Try.prog 164 181 .u8 := .of un164 un181
instance : IC Try.prog 164 184 .i32 := .of un164 un184
instance : IC Try.prog 164 185 .i32 := .of un164 un185
instance : IC Try.prog 180 2 .i64 := .of un180 un2
instance : IC Try.prog 180 3 .i64 := .of un180 un3
instance : IC Try.prog 180 5 .u8 := .of un180 un5
instance : IC Try.prog 180 6 .u8 := .of un180 un6
instance : IC Try.prog 180 12 .u64 := .of un180 un12
instance : IC Try.prog 180 21 .i32 := .of un180 un21
instance : IC Try.prog 180 44 .u64 := .of un180 un44
instance : IC Try.prog 180 51 .u8 := .of un180 un51
instance : IC Try.prog 180 59 .i64 := .of un180 un59
instance : IC Try.prog 180 82 .u32 := .of un180 un82
instance : IC Try.prog 180 105 .u16 := .of un180 un105
instance : IC Try.prog 180 153 .u64 := .of un180 un153
instance : IC Try.prog 180 155 .i64 := .of un180 un155
instance : IC Try.prog 180 164 .u64 := .of un180 un164
instance : IC Try.prog 180 180 .u8 := .of un180 un180
instance : IC Try.prog 180 181 .u8 := .of un180 un181
instance : IC Try.prog 180 184 .i32 := .of un180 un184
instance : IC Try.prog 180 185 .i32 := .of un180 un185
instance : IC Try.prog 181 2 .i64 := .of un181 un2
instance : IC Try.prog 181 3 .i64 := .of un181 un3
instance : IC Try.prog 181 5 .u8 := .of un181 un5
instance : IC Try.prog 181 6 .u8 := .of un181 un6
instance : IC Try.prog 181 12 .u64 := .of un181 un12
instance : IC Try.prog 181 21 .i32 := .of un181 un21
instance : IC Try.prog 181 44 .u64 := .of un181 un44
instance : IC Try.prog 181 51 .u8 := .of un181 un51
instance : IC Try.prog 181 59 .i64 := .of un181 un59
instance : IC Try.prog 181 82 .u32 := .of un181 un82
instance : IC Try.prog 181 105 .u16 := .of un181 un105
instance : IC Try.prog 181 153 .u64 := .of un181 un153
instance : IC Try.prog 181 155 .i64 := .of un181 un155
instance : IC Try.prog 181 164 .u64 := .of un181 un164
instance : IC Try.prog 181 180 .u8 := .of un181 un180
instance : IC Try.prog 181 181 .u8 := .of un181 un181
instance : IC Try.prog 181 184 .i32 := .of un181 un184
instance : IC Try.prog 181 185 .i32 := .of un181 un185
instance : IC Try.prog 184 2 .i64 := .of un184 un2
instance : IC Try.prog 184 3 .i64 := .of un184 un3
instance : IC Try.prog 184 5 .u8 := .of un184 un5
instance : IC Try.prog 184 6 .u8 := .of un184 un6
instance : IC Try.prog 184 12 .u64 := .of un184 un12
instance : IC Try.prog 184 21 .i32 := .of un184 un21
instance : IC Try.prog 184 44 .u64 := .of un184 un44
instance : IC Try.prog 184 51 .u8 := .of un184 un51
instance : IC Try.prog 184 59 .i64 := .of un184 un59
instance : IC Try.prog 184 82 .u32 := .of un184 un82
instance : IC Try.prog 184 105 .u16 := .of un184 un105
instance : IC Try.prog 184 153 .u64 := .of un184 un153
instance : IC Try.prog 184 155 .i64 := .of un184 un155
instance : IC Try.prog 184 164 .u64 := .of un184 un164
instance : IC Try.prog 184 180 .u8 := .of un184 un180
instance : IC Try.prog 184 181 .u8 := .of un184 un181
instance : IC Try.prog 184 184 .i32 := .of un184 un184
instance : IC Try.prog 184 185 .i32 := .of un184 un185
instance : IC Try.prog 185 2 .i64 := .of un185 un2
instance : IC Try.prog 185 3 .i64 := .of un185 un3
instance : IC Try.prog 185 5 .u8 := .of un185 un5
instance : IC Try.prog 185 6 .u8 := .of un185 un6
instance : IC Try.prog 185 12 .u64 := .of un185 un12
instance : IC Try.prog 185 21 .i32 := .of un185 un21
instance : IC Try.prog 185 44 .u64 := .of un185 un44
instance : IC Try.prog 185 51 .u8 := .of un185 un51
instance : IC Try.prog 185 59 .i64 := .of un185 un59
instance : IC Try.prog 185 82 .u32 := .of un185 un82
instance : IC Try.prog 185 105 .u16 := .of un185 un105
instance : IC Try.prog 185 153 .u64 := .of un185 un153
instance : IC Try.prog 185 155 .i64 := .of un185 un155
instance : IC Try.prog 185 164 .u64 := .of un185 un164
instance : IC Try.prog 185 180 .u8 := .of un185 un180
instance : IC Try.prog 185 181 .u8 := .of un185 un181
instance : IC Try.prog 185 184 .i32 := .of un185 un184
instance : IC Try.prog 185 185 .i32 := .of un185 un185
instance : BY Try.prog 49 9 := ⟨⟨5, by kernel_rfl, by kernel_rfl⟩, by kernel_rfl⟩
instance : BY Try.prog 49 10 := ⟨⟨5, by kernel_rfl, by kernel_rfl⟩, by kernel_rfl⟩
instance : BY Try.prog 49 11 := ⟨⟨5, by kernel_rfl, by kernel_rfl⟩, by kernel_rfl⟩
theorem noGlobals : Try.prog.globals.size = 0 := by kernel_rfl
end Go.Proofs.Ytacfneokhmnkbaa

/- Histories in memory; find, has. No conditions. -/
namespace Go.Proofs.Ytacfneokhmnkbaa
set_option linter.unusedVariables false
set_option maxRecDepth 100000
attribute [local irreducible] Go GoR GoL
instance miSpan : MI Try.prog 125 .i64 (.agg #[.int .i64 0, .int .i64 0]) := ⟨3, 131, by kernel_rfl, by kernel_rfl, by kernel_rfl, rfl, fun em n => by kernel_rfl⟩
instance miInt : MI Try.prog 147 .i64 (.int .i64 0) := ⟨3, 3, by kernel_rfl, by kernel_rfl, by kernel_rfl, rfl, fun em n => by kernel_rfl⟩
theorem boolU : Try.prog.underlying 4 = some .bool := by kernel_rfl
def evC (x : HEv) : List Value := [.int .i64 x.1, .bool x.2]
def evs (l : List HEv) : List Value := (l.map evC).flatten
def ptC (x : Int × Int) : List Value := [.int .i64 x.1, .int .i64 x.2]
def pts (l : List (Int × Int)) : List Value := (l.map ptC).flatten
def ints (l : List Int) : List Value := l.map (.int .i64 ·)
section
variable {α : Type} {f : α → List Value} (hf : ∀ x, (f x).length = 2)
include hf
theorem two_len (l : List α) : ((l.map f).flatten).length = l.length * 2 := by
  induction l with
  | nil => rfl
  | cons x l ih => simp only [List.map_cons, List.flatten_cons, List.length_append, hf, ih, List.length_cons]; omega
theorem two_get {l : List α} {i : Nat} (hi : i < l.length) : (((l.map f).flatten).drop (i * 2)).take 2 = f l[i] := by
  induction l generalizing i with
  | nil => simp at hi
  | cons x l ih =>
    cases i with
    | zero => simp only [List.map_cons, List.flatten_cons, Nat.zero_mul, List.drop_zero, List.getElem_cons_zero]; exact List.take_left' (hf x)
    | succ i =>
      rw [List.map_cons, List.flatten_cons, show (i + 1) * 2 = (f x).length + i * 2 from by rw [hf]; omega, ← List.drop_drop, List.drop_left' rfl]
      simpa using ih (by simpa using hi)
theorem two_at {l : List α} {i j : Nat} (hi : i < l.length) (hj : j < 2) : ((l.map f).flatten)[i * 2 + j]? = (f l[i])[j]? := by
  rw [← two_get hf hi, List.getElem?_take_of_lt hj, List.getElem?_drop]
end
theorem evs_len (l : List HEv) : (evs l).length = l.length * 2 := two_len (fun _ => rfl) l
theorem evs_get {l : List HEv} {i : Nat} (hi : i < l.length) : ((evs l).drop (i * 2)).take 2 = [.int .i64 l[i].1, .bool l[i].2] := two_get (f := evC) (fun _ => rfl) hi
theorem evs_0 {l : List HEv} {i : Nat} (hi : i < l.length) : (evs l)[i * 2]? = some (.int .i64 l[i].1) := two_at (f := evC) (j := 0) (fun _ => rfl) hi (by decide)
theorem evs_1 {l : List HEv} {i : Nat} (hi : i < l.length) : (evs l)[i * 2 + 1]? = some (.bool l[i].2) := two_at (f := evC) (j := 1) (fun _ => rfl) hi (by decide)
theorem evs_snoc (l : List HEv) (x : HEv) : evs (l ++ [x]) = evs l ++ evC x := by simp [evs]
theorem pts_len (l : List (Int × Int)) : (pts l).length = l.length * 2 := two_len (fun _ => rfl) l
theorem pts_get {l : List (Int × Int)} {i : Nat} (hi : i < l.length) : ((pts l).drop (i * 2)).take 2 = [.int .i64 l[i].1, .int .i64 l[i].2] := two_get (f := ptC) (fun _ => rfl) hi
theorem pts_0 {l : List (Int × Int)} {i : Nat} (hi : i < l.length) : (pts l)[i * 2]? = some (.int .i64 l[i].1) := two_at (f := ptC) (j := 0) (fun _ => rfl) hi (by decide)
theorem pts_1 {l : List (Int × Int)} {i : Nat} (hi : i < l.length) : (pts l)[i * 2 + 1]? = some (.int .i64 l[i].2) := two_at (f := ptC) (j := 1) (fun _ => rfl) hi (by decide)
theorem pts_snoc (l : List (Int × Int)) (x : Int × Int) : pts (l ++ [x]) = pts l ++ ptC x := by simp [pts]
theorem ints_len (l : List Int) : (ints l).length = l.length := by simp [ints]
theorem ints_get {l : List Int} {i : Nat} (hi : i < l.length) : (ints l)[i]? = some (.int .i64 l[i]) := by simp [ints, hi]
theorem ints_snoc (l : List Int) (x : Int) : ints (l ++ [x]) = ints l ++ [.int .i64 x] := by simp [ints]
theorem Same.ownO {n : Nat} {a : Option Addr} {h₀ h h' : AHeap} (s : Same h₀ h) (k : Keeps (blk a) h h') (o : Own n a) (hn : h₀.n ≤ n) : Same h₀ h' := s.own k fun i hi => Nat.le_trans hn (o i hi)
theorem Keeps.trans {wr : List Nat} {a b c : AHeap} (h : Keeps wr a b) (k : Keeps wr b c) : Keeps wr a c := ⟨Nat.le_trans h.1 k.1, fun i hi hn => (k.2 i (by have := h.1; omega) hn).trans (h.2 i hi hn)⟩
theorem Keeps.rfl (wr : List Nat) (h : AHeap) : Keeps wr h h := ⟨Nat.le_refl _, fun _ _ _ => Eq.refl _⟩
theorem Keeps.put {wr : List Nat} {h h' : AHeap} (k : Keeps wr h h') {b : Nat} (hb : b ∈ wr) (o : Option AObj) : Keeps wr h (h'.put b o) := ⟨k.1, fun i hi hn => by rw [AHeap.get_put_ne _ _ (fun e => hn (by rw [← e]; exact hb))]; exact k.2 i hi hn⟩
/-- The place of an event, or -1. -/
def fdI (l : List HEv) (c : Int) (r : Bool) : Int := match fd l c r with
  | some i => i
  | none => -1
theorem fd_drop (l : List HEv) (n : Nat) (c : Int) (r : Bool) (hn : fd (l.take n) c r = none) : fd l c r = (fd (l.drop n) c r).map (· + n) := by
  induction l generalizing n with
  | nil => simp [fd]
  | cons y l ih =>
    cases n with
    | zero => simp
    | succ n =>
      simp only [List.take_succ_cons, fd, List.drop_succ_cons] at hn ⊢
      split at hn
      · cases hn
      · rename_i h
        have : fd (l.take n) c r = none := by simpa using hn
        rw [if_neg h, ih n this, Option.map_map]
        congr 1
theorem fd_found {l : List HEv} {i : Nat} (hi : i < l.length) {c : Int} {r : Bool} (hn : fd (l.take i) c r = none) (h1 : l[i].1 = c) (h2 : l[i].2 = r) : fd l c r = some i := by
  have e : l[i] = (c, r) := by rw [← h1, ← h2]
  rw [fd_drop l i c r hn, List.drop_eq_getElem_cons hi]
  simp [fd, e]
theorem fd_next {l : List HEv} {i : Nat} (hi : i < l.length) {c : Int} {r : Bool} (hn : fd (l.take i) c r = none) (h1 : ¬ (l[i].1 = c ∧ l[i].2 = r)) : fd (l.take (i + 1)) c r = none := by
  have e : l.take (i + 1) = l.take i ++ [l[i]] := by rw [List.take_add_one, List.getElem?_eq_getElem hi]; rfl
  rw [e, fd_snoc, hn]
  simp only
  rw [if_neg]
  intro e2
  exact h1 ⟨by rw [e2], by rw [e2]⟩
set_option maxHeartbeats 4000000 in
theorem find_spec (l : List HEv) (hl : l.length ≤ 1000000) (a : Option Addr) (cap : Nat) (c : Int) (r : Bool) (h : AHeap) (hz : Rv Try.prog h 2 a l.length cap (evs l)) : CallS Try.prog [] 73 [.slice a l.length cap, .int .i64 c, .bool r] h fun v h' => v = .int .i64 (fdI l c r) ∧ h' = h := by
  (refine CallS.of3 Try.func73 rfl Try.ntmps73 Try.results73 rfl ?_)
  (refine Go.run (g:=?_))
  refine Go.loop (α := Nat) (fun i => [(7, .int .i64 i), (0, .slice a l.length cap), (1, .int .i64 c), (2, .bool r)]) (fun _ => []) (fun _ => h) (fun i => i ≤ l.length ∧ fd (l.take i) c r = none) (fun i => l.length - i) 0 ?_ ?_ rfl rfl ?_
  · exact ⟨Nat.zero_le _, rfl⟩
  · exact ⟨rfl, rfl, rfl, rfl, trivial⟩
  rintro i ⟨hi, hn⟩
  rcases Nat.lt_or_ge i l.length with i0 | i0
  · have c0 := evs_0 i0
    have c1 := evs_1 i0
    have hb : i * 2 < (evs l).length := by rw [evs_len]; omega
    have k1 := fd_found i0 hn
    have k2 := fd_next i0 hn
    generalize l[i].1 = ec at *
    generalize l[i].2 = er at *
    by_cases e1 : ec = c
    · (refine Go.run (g:=?_))
      refine GoR.boolEq rfl rfl rfl rfl rfl rfl boolU ?_
      by_cases e2 : er = r
      · rw [show (er == r) = true from by simp [e2]]
        (refine Go.run (g:=?_))
        (first|refine Go.finT (by first|exact .inr rfl|exact .inl rfl) rfl ?_|refine Go.fin1 (by first|exact .inr rfl|exact .inl rfl) rfl (hq:=?_))
        exact ⟨by simp [retV, fdI, k1 e1 e2], rfl⟩
      · rw [show (er == r) = false from by simp [e2]]
        (refine Go.run (g:=?_))
        exact Go.again (i + 1) ⟨by omega, k2 fun x => e2 x.2⟩ (by omega) ⟨rfl, rfl, rfl, rfl, trivial⟩ rfl rfl
    · (refine Go.run (g:=?_))
      exact Go.again (i + 1) ⟨by omega, k2 fun x => e1 x.1⟩ (by omega) ⟨rfl, rfl, rfl, rfl, trivial⟩ rfl rfl
  · (refine Go.run (g:=?_))
    (first|refine Go.finT (by first|exact .inr rfl|exact .inl rfl) rfl ?_|refine Go.fin1 (by first|exact .inr rfl|exact .inl rfl) rfl (hq:=?_))
    rw [List.take_of_length_le i0] at hn
    exact ⟨by simp [retV, fdI, hn], rfl⟩
set_option maxHeartbeats 4000000 in
theorem has_spec (l : List Int) (hl : l.length ≤ 1000000) (a : Option Addr) (cap : Nat) (c : Int) (h : AHeap) (hz : Rv Try.prog h 1 a l.length cap (ints l)) : CallS Try.prog [] 83 [.slice a l.length cap, .int .i64 c] h fun v h' => v = .bool (l.contains c) ∧ h' = h := by
  (refine CallS.of2 Try.func83 rfl Try.ntmps83 Try.results83 rfl ?_)
  (refine Go.run (g:=?_))
  refine Go.loop (α := Nat) (fun i => [(5, .int .i64 i), (0, .slice a l.length cap), (1, .int .i64 c)]) (fun _ => []) (fun _ => h) (fun i => i ≤ l.length ∧ c ∉ l.take i) (fun i => l.length - i) 0 ?_ ?_ rfl rfl ?_
  · exact ⟨Nat.zero_le _, by simp⟩
  · exact ⟨rfl, rfl, rfl, trivial⟩
  rintro i ⟨hi, hn⟩
  rcases Nat.lt_or_ge i l.length with i0 | i0
  · have c0 := ints_get i0
    have k1 : c ∈ l.take (i + 1) ↔ c = l[i] := by
      rw [List.take_add_one, List.getElem?_eq_getElem i0, List.mem_append]
      exact ⟨fun x => by simpa using x.resolve_left hn, fun x => .inr (by simp [x])⟩
    have k2 : l[i] ∈ l := List.getElem_mem i0
    generalize l[i] = ec at *
    by_cases e1 : ec = c
    · (refine Go.run (g:=?_))
      (first|refine Go.finT (by first|exact .inr rfl|exact .inl rfl) rfl ?_|refine Go.fin1 (by first|exact .inr rfl|exact .inl rfl) rfl (hq:=?_))
      exact ⟨by simp [retV, ← e1, k2], rfl⟩
    · (refine Go.run (g:=?_))
      exact Go.again (i + 1) ⟨by omega, fun x => e1 (k1.1 x).symm⟩ (by omega) ⟨rfl, rfl, rfl, trivial⟩ rfl rfl
  · (refine Go.run (g:=?_))
    (first|refine Go.finT (by first|exact .inr rfl|exact .inl rfl) rfl ?_|refine Go.fin1 (by first|exact .inr rfl|exact .inl rfl) rfl (hq:=?_))
    rw [List.take_of_length_le i0] at hn
    exact ⟨by simp [retV, hn], rfl⟩
end Go.Proofs.Ytacfneokhmnkbaa

/- hist.spans: its contract. No conditions. -/
namespace Go.Proofs.Ytacfneokhmnkbaa
set_option linter.unusedVariables false
set_option maxRecDepth 100000
attribute [local irreducible] Go GoR GoL
def encS (p : Nat × Nat) : Value := .agg #[.int .i64 p.1, .int .i64 p.2]
theorem Same.ownW {h h' h'' : AHeap} {r : Nat} (s : Same h h') (k : Keeps [r] h' h'') (hr : h.n ≤ r) : Same h h'' := ⟨Nat.le_trans s.1 k.1, fun i hi => (k.2 i (by have := s.1; omega) (by simp; omega)).trans (s.2 i hi)⟩
/-- The map of a history. -/
def SMap (h : AHeap) (r : Nat) (L : Nat) (p : List HEv) : Prop := ∃ f, IMap h r .i64 f ∧ ∀ c, al f c = (spanOf L p c).map encS
theorem SMap.same {h h' : AHeap} {r L : Nat} {p : List HEv} (m : SMap h r L p) (s : Same h h') : SMap h' r L p := by
  obtain ⟨f, a, b⟩ := m
  exact ⟨f, a.same s, b⟩
theorem take_snoc {α : Type} {l : List α} {i : Nat} (hi : i < l.length) : l.take (i + 1) = l.take i ++ [l[i]] := by rw [List.take_add_one, List.getElem?_eq_getElem hi]; rfl
set_option maxHeartbeats 8000000 in
theorem spans_spec (l : List HEv) (hl : l.length ≤ 1000000) (a : Option Addr) (cap : Nat) (h : AHeap) (hz : Rv Try.prog h 2 a l.length cap (evs l)) : CallS Try.prog [] 72 [.slice a l.length cap] h fun v h' => match check l with
    | some n => v = .tuple #[.map none, .int .i64 n, .int .i64 6]
    | none => ∃ r, v = .tuple #[.map (some r), .int .i64 0, .int .i64 0] ∧ h.n ≤ r ∧ SMap h' r l.length l := by
  (refine CallS.of1 Try.func72 rfl Try.ntmps72 Try.results72 rfl ?_)
  (refine Go.run (g:=?_))
  refine GoR.makeMap rfl rfl rfl rfl ?_
  intro h1 hm1 s1 n1
  (refine Go.run (g:=?_))
  refine Go.loop (α := Nat × List (Int × Value) × AHeap) (fun x => [(13, .int .i64 x.1), (12, .int .i64 l.length), (11, .slice a l.length cap), (5, .map (some h.n)), (0, .slice a l.length cap)]) (fun _ => []) (fun x => x.2.2) (fun x => x.1 ≤ l.length ∧ HWf (l.take x.1) ∧ check l = chk (l.take x.1) (l.drop x.1) ∧ Same h x.2.2 ∧ IMap x.2.2 h.n .i64 x.2.1 ∧ ∀ c, al x.2.1 c = (spanOf l.length (l.take x.1) c).map encS) (fun x => l.length - x.1) (0, [], h1) ?_ ?_ rfl rfl ?_
  · exact ⟨Nat.zero_le _, HWf.nil, rfl, s1, hm1 _, fun c => rfl⟩
  · exact ⟨rfl, rfl, rfl, rfl, rfl, trivial⟩
  rintro ⟨i, f, h2⟩ ⟨hi, hw, hc, s2, hm, hf⟩
  simp only at hi hw hc s2 hm hf ⊢
  have m2 := s2.1
  have hz2 := hz.same s2
  have hlt := hm.lt
  rcases Nat.lt_or_ge i l.length with i0 | i0
  · have c0 := evs_get i0
    have hb : i * 2 + 2 ≤ (evs l).length := by rw [evs_len]; omega
    have tk := take_snoc i0
    rw [List.drop_eq_getElem_cons i0] at hc
    rcases hle : l[i] with ⟨ec, er⟩
    rw [hle] at hc c0 tk
    simp only at c0
    simp only [chk] at hc
    have hll : (l.take i).length = i := by simp; omega
    rw [hll] at hc
    have hfe := hf ec
    (refine Go.run (g:=?_))
    refine GoR.name ?_
    intro h3 e3
    have s3 : Same h2 h3 := by subst e3; exact ((Same.refl h2).push _).put (Nat.le_refl _) _
    have g7 : h3.get h2.n = some (.cells [.int .i64 ec, .bool er] 123) := by subst e3; exact AHeap.get_put_same _ (by simp) _
    have n3 : h3.n = h2.n + 1 := by subst e3; rfl
    clear e3
    refine GoR.lookup2 rfl rfl rfl rfl rfl rfl (hm.same s3) ?_
    rcases hsp : spanOf l.length (l.take i) ec with _ | ⟨b, t⟩
    · rw [show (al f ec).getD (.agg #[.int .i64 0, .int .i64 0]) = .agg #[.int .i64 (0 : Nat), .int .i64 (0 : Nat)] from by rw [hfe, hsp]; rfl, show (al f ec).isSome = false from by rw [hfe, hsp]; rfl]
      have hfn : fd (l.take i) ec false = none := by
        simp only [spanOf, Option.map_eq_none_iff] at hsp; exact hsp
      cases er
      · have hbd : badAt (l.take i) (ec, false) = false := by simp [badAt, hfn]
        rw [hbd] at hc
        (refine Go.run (g:=?_))
        refine GoR.boolNe rfl rfl rfl rfl rfl rfl boolU ?_
        rw [show (!(false == false)) = false from rfl]
        (refine Go.run (g:=?_))
        refine GoR.name ?_
        intro h4 e4
        have s4 : Same h3 h4 := by subst e4; exact (((Same.refl h3).push _).put (Nat.le_refl _) _).put (Nat.le_refl _) _
        have n4 : h4.n = h3.n + 1 := by subst e4; rfl
        clear e4
        refine GoR.mapUpdate (.inl rfl) rfl rfl rfl rfl rfl ((hm.same s3).same s4) (.inr (Nat.le_refl _)) ?_
        intro h5 hm5 k5 n5
        have m5 := k5.1
        (refine Go.run (g:=?_))
        refine Go.again (i + 1, _, h5) ⟨by simp only; omega, ?_, ?_, ((s2.trans s3).trans s4).ownW k5 (Nat.le_refl _), hm5, fun c => ?_⟩ (by simp only; omega) ⟨rfl, rfl, rfl, rfl, rfl, trivial⟩ rfl rfl
        · simp only; rw [tk]; exact hw.snoc hbd
        · simp only; rw [tk]; simpa using hc
        · simp only
          rw [tk, al_aset, spanOf_snoc_call _ _ _ _ hbd hw, hf]
          split
          · rw [hll]; rfl
          · rfl
      · have hbd : badAt (l.take i) (ec, true) = true := by simp [badAt, hfn]
        rw [hbd] at hc
        (refine Go.run (g:=?_))
        refine GoR.boolNe rfl rfl rfl rfl rfl rfl boolU ?_
        rw [show (!(false == true)) = true from rfl]
        (refine Go.run (g:=?_))
        (first|refine Go.finT (by first|exact .inr rfl|exact .inl rfl) rfl ?_|refine Go.fin1 (by first|exact .inr rfl|exact .inl rfl) rfl (hq:=?_))
        rw [hc]
        rfl
    · rw [show (al f ec).getD (.agg #[.int .i64 0, .int .i64 0]) = .agg #[.int .i64 b, .int .i64 t] from by rw [hfe, hsp]; rfl, show (al f ec).isSome = true from by rw [hfe, hsp]; rfl]
      obtain ⟨hfb, hft⟩ : fd (l.take i) ec false = some b ∧ t = (fd (l.take i) ec true).getD (l.length + 1) := by
        simp only [spanOf, Option.map_eq_some_iff, Prod.mk.injEq] at hsp
        obtain ⟨j, h1, h2, h3⟩ := hsp
        exact ⟨by rw [h1, h2], h3.symm⟩
      have hbl := (fd_lt hfb).1
      cases er
      · have hbd : badAt (l.take i) (ec, false) = true := by simp [badAt, hfb]
        rw [hbd] at hc
        (refine Go.run (g:=?_))
        refine GoR.boolNe rfl rfl rfl rfl rfl rfl boolU ?_
        rw [show (!(true == false)) = true from rfl]
        (refine Go.run (g:=?_))
        (first|refine Go.finT (by first|exact .inr rfl|exact .inl rfl) rfl ?_|refine Go.fin1 (by first|exact .inr rfl|exact .inl rfl) rfl (hq:=?_))
        rw [hc]
        rfl
      · rcases hq : fd (l.take i) ec true with _ | u
        · rw [hq, Option.getD_none] at hft
          subst hft
          have hbd : badAt (l.take i) (ec, true) = false := by simp [badAt, hfb, hq]
          rw [hbd] at hc
          (refine Go.run (g:=?_))
          refine GoR.boolNe rfl rfl rfl rfl rfl rfl boolU ?_
          rw [show (!(true == true)) = false from rfl]
          (refine Go.run (g:=?_))
          refine GoR.name ?_
          intro h4 e4
          have s4 : Same h3 h4 := by subst e4; exact (((Same.refl h3).push _).put (Nat.le_refl _) _).put (Nat.le_refl _) _
          have n4 : h4.n = h3.n + 1 := by subst e4; rfl
          clear e4
          refine GoR.mapUpdate (.inl rfl) rfl rfl rfl rfl rfl ((hm.same s3).same s4) (.inr (Nat.le_refl _)) ?_
          intro h5 hm5 k5 n5
          have m5 := k5.1
          (refine Go.run (g:=?_))
          refine Go.again (i + 1, _, h5) ⟨by simp only; omega, ?_, ?_, ((s2.trans s3).trans s4).ownW k5 (Nat.le_refl _), hm5, fun c => ?_⟩ (by simp only; omega) ⟨rfl, rfl, rfl, rfl, rfl, trivial⟩ rfl rfl
          · simp only; rw [tk]; exact hw.snoc hbd
          · simp only; rw [tk]; simpa using hc
          · simp only
            obtain ⟨j, h1, h2⟩ := spanOf_snoc_ret l.length _ ec c hbd
            rw [hfb] at h1; cases h1
            rw [tk, al_aset, h2, hf]
            split
            · rw [hll]; rfl
            · rfl
        · rw [hq, Option.getD_some] at hft
          subst hft
          have hul := (fd_lt hq).1
          have hbd : badAt (l.take i) (ec, true) = true := by simp [badAt, hq]
          rw [hbd] at hc
          rw [hll] at hul
          (refine Go.run (g:=?_))
          refine GoR.boolNe rfl rfl rfl rfl rfl rfl boolU ?_
          rw [show (!(true == true)) = false from rfl]
          (refine Go.run (g:=?_))
          (first|refine Go.finT (by first|exact .inr rfl|exact .inl rfl) rfl ?_|refine Go.fin1 (by first|exact .inr rfl|exact .inl rfl) rfl (hq:=?_))
          rw [hc]
          rfl
  · (refine Go.run (g:=?_))
    (first|refine Go.finT (by first|exact .inr rfl|exact .inl rfl) rfl ?_|refine Go.fin1 (by first|exact .inr rfl|exact .inl rfl) rfl (hq:=?_))
    have : l.take i = l := List.take_of_length_le i0
    rw [List.drop_eq_nil_of_le i0] at hc
    rw [hc, show chk (l.take i) [] = none from rfl]
    rw [this] at hf
    exact ⟨h.n, rfl, Nat.le_refl _, f, hm, hf⟩
end Go.Proofs.Ytacfneokhmnkbaa

/- hist: Check, Open, Before. No conditions. -/
namespace Go.Proofs.Ytacfneokhmnkbaa
set_option linter.unusedVariables false
set_option maxRecDepth 100000
attribute [local irreducible] Go GoR GoL
theorem before_eq {l : List HEv} (hw : HWf l) (a b : Int) : before l a b = match spanOf l.length l a, spanOf l.length l b with | some s, some t => decide (s.2 < t.1) | _, _ => false := by
  simp only [before, spanOf]
  cases ha : fd l a true with
  | some i =>
    obtain ⟨j, h1, -⟩ := hw.ret ha
    rw [h1]
    cases fd l b false <;> rfl
  | none =>
    cases fd l a false with
    | none => rfl
    | some j =>
      cases hb : fd l b false with
      | none => rfl
      | some k =>
        have := (fd_lt hb).1
        simp; omega
def checkV (l : List HEv) : Value := match check l with
  | some n => .tuple #[.int .i64 n, .int .i64 6]
  | none => .tuple #[.int .i64 0, .int .i64 0]
def openR (l : List HEv) : List Int := if check l = none then openP l else []
def beforeR (l : List HEv) (a b : Int) : Bool := (check l).isNone && before l a b
theorem hcheck_spec (l : List HEv) (hl : l.length ≤ 1000000) (a : Option Addr) (cap : Nat) (h : AHeap) (hz : Rv Try.prog h 2 a l.length cap (evs l)) : CallS Try.prog [] 32 [.slice a l.length cap] h fun v h' => v = checkV l := by
  (refine CallS.of1 Try.func32 rfl Try.ntmps32 Try.results32 rfl ?_)
  (refine Go.run (g:=?_))
  refine GoR.call rfl rfl rfl rfl rfl rfl rfl (((spans_spec l hl a cap _ hz).args (by first | rfl | (simp; fail_if_success focus skip) | (simp; omega) | (congr 2; omega))).mono ?_)
  intro v h1 hv s1
  unfold checkV
  cases hc : check l with
  | some n =>
    rw [hc] at hv
    simp only at hv
    subst hv
    (refine Go.run (g:=?_))
    (first|refine Go.finT (by first|exact .inr rfl|exact .inl rfl) rfl ?_|refine Go.fin1 (by first|exact .inr rfl|exact .inl rfl) rfl (hq:=?_))
    rfl
  | none =>
    rw [hc] at hv
    obtain ⟨r, rfl, -, -⟩ := hv
    (refine Go.run (g:=?_))
    (first|refine Go.finT (by first|exact .inr rfl|exact .inl rfl) rfl ?_|refine Go.fin1 (by first|exact .inr rfl|exact .inl rfl) rfl (hq:=?_))
    rfl
set_option maxHeartbeats 4000000 in
theorem hopen_spec (l : List HEv) (hl : l.length ≤ 1000000) (a : Option Addr) (cap : Nat) (h : AHeap) (hz : Rv Try.prog h 2 a l.length cap (evs l)) : CallS Try.prog [] 35 [.slice a l.length cap] h fun v h' => ∃ b c, v = .slice b (openR l).length c ∧ Sv h' 3 1 b (openR l).length c (ints (openR l)) ∧ Own h.n b := by
  (refine CallS.of1 Try.func35 rfl Try.ntmps35 Try.results35 rfl ?_)
  (refine Go.run (g:=?_))
  refine GoR.call rfl rfl rfl rfl rfl rfl rfl (((spans_spec l hl a cap _ hz).args (by first | rfl | (simp; fail_if_success focus skip) | (simp; omega) | (congr 2; omega))).mono ?_)
  intro v h1 hv s1
  unfold openR
  cases hc : check l with
  | some n =>
    rw [hc] at hv
    simp only at hv
    subst hv
    (refine Go.run (g:=?_))
    (first|refine Go.finT (by first|exact .inr rfl|exact .inl rfl) rfl ?_|refine Go.fin1 (by first|exact .inr rfl|exact .inl rfl) rfl (hq:=?_))
    exact ⟨none, 0, rfl, .nil, Own.nil _⟩
  | none =>
    rw [hc] at hv
    obtain ⟨r, rfl, hr, f, hm, hf⟩ := hv
    have n1 := s1.1
    (refine Go.run (g:=?_))
    refine Go.loop (α := Nat × Option Addr × Nat × AHeap) (fun x => [(19, .int .i64 x.1), (18, .int .i64 l.length), (17, .slice a l.length cap), (6, .slice x.2.1 (((l.take x.1).filter fun x => !x.2 && (fd l x.1 true).isNone).map (·.1)).length x.2.2.1), (3, .map (some r)), (0, .slice a l.length cap)]) (fun _ => []) (fun x => x.2.2.2) (fun x => x.1 ≤ l.length ∧ Same h1 x.2.2.2 ∧ Sv x.2.2.2 3 1 x.2.1 (((l.take x.1).filter fun x => !x.2 && (fd l x.1 true).isNone).map (·.1)).length x.2.2.1 (ints (((l.take x.1).filter fun x => !x.2 && (fd l x.1 true).isNone).map (·.1))) ∧ Own h1.n x.2.1) (fun x => l.length - x.1) (0, none, 0, h1) ?_ ?_ rfl rfl ?_
    · exact ⟨Nat.zero_le _, Same.refl _, .nil, Own.nil _⟩
    · exact ⟨rfl, rfl, rfl, rfl, rfl, rfl, trivial⟩
    rintro ⟨i, b, c, h2⟩ ⟨hi, s2, hb, ob⟩
    simp only at hi s2 hb ob ⊢
    have m2 := s2.1
    have hz2 := hz.same (s1.trans s2)
    rcases Nat.lt_or_ge i l.length with i0 | i0
    · have c0 := evs_get i0
      have hbe : i * 2 + 2 ≤ (evs l).length := by rw [evs_len]; omega
      have tk := take_snoc i0
      have hfl : (((l.take i).filter fun x => !x.2 && (fd l x.1 true).isNone).map (·.1)).length ≤ i := by
        rw [List.length_map]
        exact Nat.le_trans (List.length_filter_le _ _) (by simp; omega)
      rcases hle : l[i] with ⟨ec, er⟩
      rw [hle] at c0 tk
      simp only at c0
      have hmem : (ec, er) ∈ l := by rw [← hle]; exact List.getElem_mem i0
      have e1 : ((l.take (i + 1)).filter fun x => !x.2 && (fd l x.1 true).isNone).map (·.1) = ((l.take i).filter fun x => !x.2 && (fd l x.1 true).isNone).map (·.1) ++ (if (!er && (fd l ec true).isNone) = true then [ec] else []) := by
        rw [tk, List.filter_append, List.map_append]
        congr 1
        by_cases hh : (!er && (fd l ec true).isNone) = true
        · simp [hh]
        · simp [hh]
      generalize ((l.take i).filter fun x => !x.2 && (fd l x.1 true).isNone).map (·.1) = out at *
      cases er
      · obtain ⟨u, hu⟩ := Option.isSome_iff_exists.1 (fd_mem hmem)
        have hfe : al f ec = some (encS (u, (fd l ec true).getD (l.length + 1))) := by rw [hf, spanOf, hu]; rfl
        (refine Go.run (g:=?_))
        refine GoR.name ?_
        intro h3 e3
        have s3 : Same h2 h3 := by subst e3; exact ((Same.refl h2).push _).put (Nat.le_refl _) _
        have g8 : h3.get h2.n = some (.cells [.int .i64 ec, .bool false] 123) := by subst e3; exact AHeap.get_put_same _ (by simp) _
        have n3 : h3.n = h2.n + 1 := by subst e3; rfl
        clear e3
        refine GoR.lookup rfl rfl rfl rfl rfl rfl ((hm.same s2).same s3) ?_
        have hb3 := hb.same s3
        cases hq : fd l ec true with
        | none =>
          rw [hq] at e1
          simp only [Bool.not_false, Bool.true_and, Option.isNone_none, if_true] at e1
          rw [show (al f ec).getD (.agg #[.int .i64 0, .int .i64 0]) = .agg #[.int .i64 u, .int .i64 (l.length + 1 : Nat)] from by rw [hfe, hq]; rfl]
          (refine Go.run (g:=?_))
          refine GoR.field (v := .int .i64 (l.length + 1 : Nat)) rfl rfl rfl rfl rfl (by rfl) ?_
          (refine Go.run (g:=?_))
          refine GoR.buildRo (c := [.int .i64 ec]) rfl rfl rfl rfl rfl (by decide) (by rfl) (by rfl) ?_
          intro b8 h8 hb8 rb8 ob8 s8 n8
          refine GoR.appendV rfl rfl rfl rfl rfl rfl (hb3.same s8) hb8 (Own.ok ob (by omega)) (by omega) (by omega) (by rfl) ?_
          intro b9 c9 h9 hs9 k9 o9
          have m9 := k9.1
          have hs9' : Sv h9 3 1 b9 (out ++ [ec]).length c9 (ints (out ++ [ec])) := by rw [ints_snoc, List.length_append]; exact hs9
          (refine Go.run (g:=?_))
          refine Go.again (i + 1, b9, c9, h9) ⟨by simp only; omega, ?_, by simp only; rw [e1]; exact hs9', ?_⟩ (by simp only; omega) ⟨rfl, rfl, rfl, by simp only; rw [e1, List.length_append]; rfl, rfl, rfl, trivial⟩ rfl rfl
          · exact ((s2.trans s3).trans s8).ownO k9 ob (Nat.le_refl _)
          · intro j hj
            rcases o9 j hj with x | x
            · exact ob j x
            · omega
        | some t =>
          have ht := (fd_lt hq).1
          rw [hq] at e1
          simp only [Bool.not_false, Bool.true_and, Option.isNone_some, Bool.false_eq_true, if_false, List.append_nil] at e1
          rw [show (al f ec).getD (.agg #[.int .i64 0, .int .i64 0]) = .agg #[.int .i64 u, .int .i64 t] from by rw [hfe, hq]; rfl]
          (refine Go.run (g:=?_))
          refine GoR.field (v := .int .i64 t) rfl rfl rfl rfl rfl (by rfl) ?_
          (refine Go.run (g:=?_))
          refine Go.again (i + 1, b, c, h3) ⟨by simp only; omega, s2.trans s3, by simp only; rw [e1]; exact hb3, ob⟩ (by simp only; omega) ⟨rfl, rfl, rfl, by simp only; rw [e1]; rfl, rfl, rfl, trivial⟩ rfl rfl
      · simp only [Bool.not_true, Bool.false_and, Bool.false_eq_true, if_false, List.append_nil] at e1
        (refine Go.run (g:=?_))
        refine Go.again (i + 1, b, c, _) ⟨by simp only; omega, ?_, ?_, ob⟩ (by simp only; omega) ⟨rfl, rfl, rfl, by simp only; rw [e1]; rfl, rfl, rfl, trivial⟩ rfl rfl
        · exact s2.trans (((Same.refl h2).push _).put (Nat.le_refl _) _)
        · simp only; rw [e1]; exact hb.same (((Same.refl h2).push _).put (Nat.le_refl _) _)
    · (refine Go.run (g:=?_))
      (first|refine Go.finT (by first|exact .inr rfl|exact .inl rfl) rfl ?_|refine Go.fin1 (by first|exact .inr rfl|exact .inl rfl) rfl (hq:=?_))
      have : l.take i = l := List.take_of_length_le i0
      rw [this] at hb ⊢
      exact ⟨b, c, rfl, hb, ob.mono n1⟩
set_option maxHeartbeats 4000000 in
theorem hbefore_spec (l : List HEv) (hl : l.length ≤ 1000000) (a : Option Addr) (cap : Nat) (x y : Int) (h : AHeap) (hz : Rv Try.prog h 2 a l.length cap (evs l)) : CallS Try.prog [] 36 [.slice a l.length cap, .int .i64 x, .int .i64 y] h fun v h' => v = .bool (beforeR l x y) := by
  (refine CallS.of3 Try.func36 rfl Try.ntmps36 Try.results36 rfl ?_)
  (refine Go.run (g:=?_))
  refine GoR.call rfl rfl rfl rfl rfl rfl rfl (((spans_spec l hl a cap _ hz).args (by first | rfl | (simp; fail_if_success focus skip) | (simp; omega) | (congr 2; omega))).mono ?_)
  intro v h1 hv s1
  unfold beforeR
  cases hc : check l with
  | some n =>
    rw [hc] at hv
    simp only at hv
    subst hv
    (refine Go.run (g:=?_))
    (first|refine Go.finT (by first|exact .inr rfl|exact .inl rfl) rfl ?_|refine Go.fin1 (by first|exact .inr rfl|exact .inl rfl) rfl (hq:=?_))
    rfl
  | none =>
    rw [hc] at hv
    obtain ⟨r, rfl, hr, f, hm, hf⟩ := hv
    have n1 := s1.1
    have hfx := hf x
    have hfy := hf y
    rw [before_eq (check_wf hc)]
    (refine Go.run (g:=?_))
    refine GoR.lookup2 rfl rfl rfl rfl rfl rfl hm ?_
    rcases hax : spanOf l.length l x with _ | ⟨bx, tx⟩
    · rw [show (al f x).getD (.agg #[.int .i64 0, .int .i64 0]) = .agg #[.int .i64 (0 : Nat), .int .i64 (0 : Nat)] from by rw [hfx, hax]; rfl, show (al f x).isSome = false from by rw [hfx, hax]; rfl]
      (refine Go.run (g:=?_))
      refine GoR.name ?_
      intro h2 e2
      have s2 : Same h1 h2 := by subst e2; exact ((Same.refl h1).push _).put (Nat.le_refl _) _
      have n2 : h2.n = h1.n + 1 := by subst e2; rfl
      clear e2
      refine GoR.lookup2 rfl rfl rfl rfl rfl rfl (hm.same s2) ?_
      rcases hay : spanOf l.length l y with _ | ⟨ey, ty⟩
      · rw [show (al f y).getD (.agg #[.int .i64 0, .int .i64 0]) = .agg #[.int .i64 (0 : Nat), .int .i64 (0 : Nat)] from by rw [hfy, hay]; rfl, show (al f y).isSome = false from by rw [hfy, hay]; rfl]
        (refine Go.run (g:=?_))
        (first|refine Go.finT (by first|exact .inr rfl|exact .inl rfl) rfl ?_|refine Go.fin1 (by first|exact .inr rfl|exact .inl rfl) rfl (hq:=?_))
        rfl
      · rw [show (al f y).getD (.agg #[.int .i64 0, .int .i64 0]) = .agg #[.int .i64 ey, .int .i64 ty] from by rw [hfy, hay]; rfl, show (al f y).isSome = true from by rw [hfy, hay]; rfl]
        (refine Go.run (g:=?_))
        (first|refine Go.finT (by first|exact .inr rfl|exact .inl rfl) rfl ?_|refine Go.fin1 (by first|exact .inr rfl|exact .inl rfl) rfl (hq:=?_))
        rfl
    · rw [show (al f x).getD (.agg #[.int .i64 0, .int .i64 0]) = .agg #[.int .i64 bx, .int .i64 tx] from by rw [hfx, hax]; rfl, show (al f x).isSome = true from by rw [hfx, hax]; rfl]
      (refine Go.run (g:=?_))
      refine GoR.name ?_
      intro h2 e2
      have s2 : Same h1 h2 := by subst e2; exact ((Same.refl h1).push _).put (Nat.le_refl _) _
      have g2 : h2.get h1.n = some (.cells [.int .i64 bx, .int .i64 tx] 131) := by subst e2; exact AHeap.get_put_same _ (by simp) _
      have n2 : h2.n = h1.n + 1 := by subst e2; rfl
      clear e2
      refine GoR.lookup2 rfl rfl rfl rfl rfl rfl (hm.same s2) ?_
      rcases hay : spanOf l.length l y with _ | ⟨ey, ty⟩
      · rw [show (al f y).getD (.agg #[.int .i64 0, .int .i64 0]) = .agg #[.int .i64 (0 : Nat), .int .i64 (0 : Nat)] from by rw [hfy, hay]; rfl, show (al f y).isSome = false from by rw [hfy, hay]; rfl]
        (refine Go.run (g:=?_))
        (first|refine Go.finT (by first|exact .inr rfl|exact .inl rfl) rfl ?_|refine Go.fin1 (by first|exact .inr rfl|exact .inl rfl) rfl (hq:=?_))
        rfl
      · rw [show (al f y).getD (.agg #[.int .i64 0, .int .i64 0]) = .agg #[.int .i64 ey, .int .i64 ty] from by rw [hfy, hay]; rfl, show (al f y).isSome = true from by rw [hfy, hay]; rfl]
        (refine Go.run (g:=?_))
        (first|refine Go.finT (by first|exact .inr rfl|exact .inl rfl) rfl ?_|refine Go.fin1 (by first|exact .inr rfl|exact .inl rfl) rfl (hq:=?_))
        simp [retV]
end Go.Proofs.Ytacfneokhmnkbaa

/- hist.all: its contract. No conditions. -/
namespace Go.Proofs.Ytacfneokhmnkbaa
set_option linter.unusedVariables false
set_option maxRecDepth 100000
attribute [local irreducible] Go GoR GoL
theorem dupP_snoc (l : List Int) (c : Int) : dupP (l ++ [c]) = (dupP l || l.contains c) := by
  induction l with
  | nil => rfl
  | cons x r ih =>
    simp only [List.cons_append, dupP, ih, List.contains_cons, List.contains_eq_mem, List.mem_append, List.mem_singleton]
    rcases Decidable.em (c = x) with rfl | h2
    · by_cases h1 : c ∈ r <;> cases dupP r <;> simp_all
    · have h2' : ¬ x = c := fun e => h2 e.symm
      by_cases h1 : x ∈ r <;> by_cases h3 : c ∈ r <;> cases dupP r <;> simp_all
theorem SMap.at {h : AHeap} {r L : Nat} {p : List HEv} {f : List (Int × Value)} (hf : ∀ c, al f c = (spanOf L p c).map encS) (c : Int) : (al f c).isSome = (fd p c false).isSome := by
  rw [hf, spanOf]; cases fd p c false <;> rfl
/-- Without what stands in a slot: a slot is written over. -/
theorem dup_all {cs : List Int} {i : Nat} (hi : i < cs.length) (h : dupP (cs.take i) = false) (hc : cs[i] ∈ cs.take i) : dupP cs = true := by
  have e : cs = cs.take i ++ [cs[i]] ++ cs.drop (i + 1) := by
    rw [List.append_assoc, List.singleton_append, ← List.drop_eq_getElem_cons hi, List.take_append_drop]
  have mono : ∀ (a b : List Int), dupP a = true → dupP (a ++ b) = true := by
    intro a b
    induction a with
    | nil => intro h; cases h
    | cons x a ih =>
      simp only [List.cons_append, dupP, Bool.or_eq_true]
      rintro (h | h)
      · exact .inl (by simp at h ⊢; exact .inl h)
      · exact .inr (ih h)
  rw [e]
  refine mono _ _ ?_
  rw [dupP_snoc]
  simp [hc]
set_option maxHeartbeats 8000000 in
theorem all1_spec (l : List HEv) (hl : l.length ≤ 1000000) (a : Option Addr) (cap : Nat) (cs : List Int) (hcl : cs.length ≤ 1000000) (ca : Option Addr) (ccap : Nat) (r r2 bc bm bs bl : Nat) (f : List (Int × Value)) (h : AHeap)
    (hz : Rv Try.prog h 2 a l.length cap (evs l)) (hy : Rv Try.prog h 1 ca cs.length ccap (ints cs)) (hm : IMap h r .i64 f) (hf : ∀ c, al f c = (spanOf l.length l c).map encS) (hs : IMap h r2 .i64 [])
    (g1 : h.get bc = some (.cells [.slice ca cs.length ccap] 27)) (g2 : h.get bm = some (.cells [.map (some r)] 125)) (g3 : h.get bs = some (.cells [.map (some r2)] 147)) (g4 : h.get bl = some (.cells [.slice a l.length cap] 58))
    (d1 : ∀ i ∈ blk a, i ≠ r2) (d2 : ∀ i ∈ blk ca, i ≠ r2) (d3 : r ≠ r2) :
    CallS Try.prog [r2] 84 [.pointer (some ⟨bc, 0, none⟩), .pointer (some ⟨bm, 0, none⟩), .pointer (some ⟨bs, 0, none⟩), .pointer (some ⟨bl, 0, none⟩)] h fun v h' => v = .int .i64 (allP l cs) := by
  have e1 := AHeap.lt g1
  have e2 := AHeap.lt g2
  have e3 := AHeap.lt g3
  have e4 := AHeap.lt g4
  have lm := hm.lt
  have ls := hs.lt
  have x1 : bc ≠ r2 := by rintro rfl; obtain ⟨_, _, q, _⟩ := hs; rw [g1] at q; cases q
  have x2 : bm ≠ r2 := by rintro rfl; obtain ⟨_, _, q, _⟩ := hs; rw [g2] at q; cases q
  have x3 : bs ≠ r2 := by rintro rfl; obtain ⟨_, _, q, _⟩ := hs; rw [g3] at q; cases q
  have x4 : bl ≠ r2 := by rintro rfl; obtain ⟨_, _, q, _⟩ := hs; rw [g4] at q; cases q
  (refine CallS.of4 Try.func84 rfl Try.ntmps84 Try.results84 rfl ?_)
  (refine Go.run (g:=?_))
  refine Go.loop (α := Nat × AHeap) (fun x => [(15, .int .i64 x.1), (14, .int .i64 cs.length), (13, .slice ca cs.length ccap), (0, .pointer (some ⟨bc, 0, none⟩)), (1, .pointer (some ⟨bm, 0, none⟩)), (2, .pointer (some ⟨bs, 0, none⟩)), (3, .pointer (some ⟨bl, 0, none⟩))]) (fun _ => []) (fun x => x.2) (fun x => x.1 ≤ cs.length ∧ Same h x.2 ∧ ∀ c ∈ cs.take x.1, (fd l c false).isSome = true) (fun x => cs.length - x.1) (0, h) ?_ ?_ rfl rfl ?_
  · exact ⟨Nat.zero_le _, Same.refl h, fun c hc => by simp at hc⟩
  · exact ⟨rfl, rfl, rfl, rfl, rfl, rfl, rfl, trivial⟩
  rintro ⟨i, h1⟩ ⟨hi, s1, hA⟩
  simp only at hi s1 hA ⊢
  have m1 := s1.1
  have hy1 := hy.same s1
  have hm1 := hm.same s1
  have g11 := s1.get g1
  have g12 := s1.get g2
  have g13 := s1.get g3
  have g14 := s1.get g4
  rcases Nat.lt_or_ge i cs.length with i0 | i0
  · have c0 := ints_get i0
    have tk := take_snoc i0
    have hmem := List.getElem_mem i0
    generalize cs[i] = c at *
    have hfc := hf c
    (refine Go.run (g:=?_))
    refine GoR.lookup2 rfl rfl rfl rfl rfl rfl hm1 ?_
    cases hq : fd l c false with
    | none =>
      have hsp : spanOf l.length l c = none := by rw [spanOf, hq]; rfl
      rw [show (al f c).getD (.agg #[.int .i64 0, .int .i64 0]) = .agg #[.int .i64 (0 : Nat), .int .i64 (0 : Nat)] from by rw [hfc, hsp]; rfl, show (al f c).isSome = false from by rw [hfc, hsp]; rfl]
      (refine Go.run (g:=?_))
      (first|refine Go.finT (by first|exact .inr rfl|exact .inl rfl) rfl ?_|refine Go.fin1 (by first|exact .inr rfl|exact .inl rfl) rfl (hq:=?_))
      have : cs.any (fun c => (fd l c false).isNone) = true := List.any_eq_true.2 ⟨c, hmem, by rw [hq]; rfl⟩
      simp only [allP, this, if_true]
      rfl
    | some u =>
      have hsp : spanOf l.length l c = some (u, (fd l c true).getD (l.length + 1)) := by rw [spanOf, hq]; rfl
      rw [show (al f c).getD (.agg #[.int .i64 0, .int .i64 0]) = .agg #[.int .i64 u, .int .i64 ((fd l c true).getD (l.length + 1) : Nat)] from by rw [hfc, hsp]; rfl, show (al f c).isSome = true from by rw [hfc, hsp]; rfl]
      (refine Go.run (g:=?_))
      refine Go.again (i + 1, _) ⟨by simp only; omega, s1.trans (((Same.refl h1).push _).put (Nat.le_refl _) _), ?_⟩ (by simp only; omega) ⟨rfl, rfl, rfl, rfl, rfl, rfl, rfl, trivial⟩ rfl rfl
      simp only
      rw [tk]
      intro x hx
      rcases List.mem_append.1 hx with hx | hx
      · exact hA x hx
      · rw [List.mem_singleton.1 hx, hq]; rfl
  rw [List.take_of_length_le i0] at hA
  have hany : cs.any (fun c => (fd l c false).isNone) = false := by
    rw [List.any_eq_false]
    intro c hc
    have := hA c hc
    cases hq : fd l c false with
    | none => rw [hq] at this; cases this
    | some u => simp
  (refine Go.run (g:=?_))
  refine Go.loop (α := Nat × List (Int × Value) × AHeap) (fun x => [(30, .int .i64 x.1), (29, .int .i64 cs.length), (28, .slice ca cs.length ccap), (0, .pointer (some ⟨bc, 0, none⟩)), (1, .pointer (some ⟨bm, 0, none⟩)), (2, .pointer (some ⟨bs, 0, none⟩)), (3, .pointer (some ⟨bl, 0, none⟩))]) (fun _ => []) (fun x => x.2.2) (fun x => x.1 ≤ cs.length ∧ Keeps [r2] h x.2.2 ∧ IMap x.2.2 r2 .i64 x.2.1 ∧ (∀ c, al x.2.1 c = if c ∈ cs.take x.1 then some (.int .i64 1) else none) ∧ dupP (cs.take x.1) = false) (fun x => cs.length - x.1) (0, [], h1) ?_ ?_ rfl rfl ?_
  · exact ⟨Nat.zero_le _, ⟨s1.1, fun i hi _ => s1.2 i hi⟩, hs.same s1, fun c => by simp [al], rfl⟩
  · exact ⟨rfl, rfl, rfl, rfl, rfl, rfl, rfl, trivial⟩
  clear hy1 hm1 g11 g12 g13 g14 s1 m1 i0 hi i
  rintro ⟨i, g, h2⟩ ⟨hi, s2, hms, hgs, hdup⟩
  simp only at hi s2 hms hgs hdup ⊢
  have m2 := s2.1
  have hy2 := hy.keeps s2 (fun j hj hm => d2 j hj (List.mem_singleton.1 hm))
  have g23 := s2.get g3 (by simpa using x3)
  have g24 := s2.get g4 (by simpa using x4)
  rcases Nat.lt_or_ge i cs.length with i0 | i0
  · have c0 := ints_get i0
    have tk := take_snoc i0
    have dup := dup_all i0 hdup
    have hmem := List.getElem_mem i0
    generalize cs[i] = c at *
    have hgc := hgs c
    have lms := hms.lt
    (refine Go.run (g:=?_))
    refine GoR.lookup rfl rfl rfl rfl rfl rfl hms ?_
    by_cases hin : c ∈ cs.take i
    · rw [if_pos hin] at hgc
      rw [hgc, Option.getD_some]
      (refine Go.run (g:=?_))
      refine GoR.mapUpdate (u := .int .i64 2) (.inl rfl) rfl rfl rfl rfl rfl hms (.inl (List.mem_singleton.2 rfl)) ?_
      intro h3 hm3 k3 n3
      have g33 := k3.get g23 (by simpa using x3)
      (refine Go.run (g:=?_))
      refine GoR.lookup rfl rfl rfl rfl rfl rfl hm3 ?_
      rw [al_aset, if_pos rfl, Option.getD_some]
      (refine Go.run (g:=?_))
      (first|refine Go.finT (by first|exact .inr rfl|exact .inl rfl) rfl ?_|refine Go.fin1 (by first|exact .inr rfl|exact .inl rfl) rfl (hq:=?_))
      simp only [allP, hany, dup hin, if_true]
      rfl
    · rw [if_neg hin] at hgc
      rw [hgc, Option.getD_none]
      (refine Go.run (g:=?_))
      refine GoR.mapUpdate (u := .int .i64 1) (.inl rfl) rfl rfl rfl rfl rfl hms (.inl (List.mem_singleton.2 rfl)) ?_
      intro h3 hm3 k3 n3
      have g33 := k3.get g23 (by simpa using x3)
      (refine Go.run (g:=?_))
      refine GoR.lookup rfl rfl rfl rfl rfl rfl hm3 ?_
      rw [al_aset, if_pos rfl, Option.getD_some]
      (refine Go.run (g:=?_))
      refine Go.again (i + 1, _, h3) ⟨by simp only; omega, s2.trans k3, hm3, fun x => ?_, ?_⟩ (by simp only; omega) ⟨rfl, rfl, rfl, rfl, rfl, rfl, rfl, trivial⟩ rfl rfl
      · simp only
        rw [al_aset, tk, hgs]
        by_cases hx : c = x
        · subst hx; simp
        · have hx' : ¬ x = c := fun e => hx e.symm
          simp [hx, hx']
      · simp only
        rw [tk, dupP_snoc, hdup]
        simpa using hin
  rw [List.take_of_length_le i0] at hgs hdup
  (refine Go.run (g:=?_))
  refine Go.loop (α := Nat × AHeap) (fun x => [(45, .int .i64 x.1), (44, .int .i64 l.length), (43, .slice a l.length cap), (0, .pointer (some ⟨bc, 0, none⟩)), (1, .pointer (some ⟨bm, 0, none⟩)), (2, .pointer (some ⟨bs, 0, none⟩)), (3, .pointer (some ⟨bl, 0, none⟩))]) (fun _ => []) (fun x => x.2) (fun x => x.1 ≤ l.length ∧ Same h2 x.2 ∧ ∀ y ∈ l.take x.1, (y.2 && !cs.contains y.1) = false) (fun x => l.length - x.1) (0, h2) ?_ ?_ rfl rfl ?_
  · exact ⟨Nat.zero_le _, Same.refl h2, fun c hc => by simp at hc⟩
  · exact ⟨rfl, rfl, rfl, rfl, rfl, rfl, rfl, trivial⟩
  clear i0 hi i
  rintro ⟨i, h3⟩ ⟨hi, s3, hR⟩
  simp only at hi s3 hR ⊢
  have m3 := s3.1
  have hz3 := (hz.keeps s2 (fun j hj hm => d1 j hj (List.mem_singleton.1 hm))).same s3
  have g33 := s3.get g23
  have hm3 := hms.same s3
  rcases Nat.lt_or_ge i l.length with i0 | i0
  · have c0 := evs_get i0
    have hbe : i * 2 + 2 ≤ (evs l).length := by rw [evs_len]; omega
    have tk := take_snoc i0
    have hmem := List.getElem_mem i0
    rcases hle : l[i] with ⟨ec, er⟩
    rw [hle] at c0 tk hmem
    simp only at c0
    have hgc := hgs ec
    have fin : (er && !cs.contains ec) = false → ∀ y ∈ l.take (i + 1), (y.2 && !cs.contains y.1) = false := fun e => by
      rw [tk]
      intro x hx
      rcases List.mem_append.1 hx with hx | hx
      · exact hR x hx
      · rw [List.mem_singleton.1 hx]; exact e
    cases er
    · (refine Go.run (g:=?_))
      refine Go.again (i + 1, _) ⟨by simp only; omega, s3.trans (((Same.refl h3).push _).put (Nat.le_refl _) _), fin rfl⟩ (by simp only; omega) ⟨rfl, rfl, rfl, rfl, rfl, rfl, rfl, trivial⟩ rfl rfl
    · (refine Go.run (g:=?_))
      refine GoR.name ?_
      intro h4 e4
      have s4 : Same h3 h4 := by subst e4; exact ((Same.refl h3).push _).put (Nat.le_refl _) _
      clear e4
      refine GoR.lookup rfl rfl rfl rfl rfl rfl (hm3.same s4) ?_
      by_cases hin : ec ∈ cs
      · rw [if_pos hin] at hgc
        rw [hgc, Option.getD_some]
        (refine Go.run (g:=?_))
        refine Go.again (i + 1, h4) ⟨by simp only; omega, s3.trans s4, fin (by simpa using hin)⟩ (by simp only; omega) ⟨rfl, rfl, rfl, rfl, rfl, rfl, rfl, trivial⟩ rfl rfl
      · rw [if_neg hin] at hgc
        rw [hgc, Option.getD_none]
        (refine Go.run (g:=?_))
        (first|refine Go.finT (by first|exact .inr rfl|exact .inl rfl) rfl ?_|refine Go.fin1 (by first|exact .inr rfl|exact .inl rfl) rfl (hq:=?_))
        have : l.any (fun x => x.2 && !cs.contains x.1) = true := List.any_eq_true.2 ⟨_, hmem, by simpa using hin⟩
        simp only [allP, hany, hdup, this, if_true]
        rfl
  rw [List.take_of_length_le i0] at hR
  (refine Go.run (g:=?_))
  (first|refine Go.finT (by first|exact .inr rfl|exact .inl rfl) rfl ?_|refine Go.fin1 (by first|exact .inr rfl|exact .inl rfl) rfl (hq:=?_))
  have : l.any (fun x => x.2 && !cs.contains x.1) = false := by
    rw [List.any_eq_false]
    intro x hx
    rw [hR x hx]; decide
  simp only [allP, hany, hdup, this]
  rfl
end Go.Proofs.Ytacfneokhmnkbaa

/- hist.all, Place, Orders, Commits: contracts. No conditions. -/
namespace Go.Proofs.Ytacfneokhmnkbaa
set_option linter.unusedVariables false
set_option maxRecDepth 100000
attribute [local irreducible] Go GoR GoL
set_option maxHeartbeats 4000000 in
theorem hall_spec (l : List HEv) (hl : l.length ≤ 1000000) (a : Option Addr) (cap : Nat) (cs : List Int) (hcl : cs.length ≤ 1000000) (ca : Option Addr) (ccap : Nat) (r : Nat) (h : AHeap)
    (hz : Rv Try.prog h 2 a l.length cap (evs l)) (hy : Rv Try.prog h 1 ca cs.length ccap (ints cs)) (hm : SMap h r l.length l) : CallS Try.prog [] 75 [.slice a l.length cap, .map (some r), .slice ca cs.length ccap] h fun v h' => v = .int .i64 (allP l cs) := by
  obtain ⟨f, hm, hf⟩ := hm
  have lm := hm.lt
  have ltA : ∀ i ∈ blk a, i < h.n := hz.lt
  have ltC : ∀ i ∈ blk ca, i < h.n := hy.lt
  (refine CallS.of3 Try.func75 rfl Try.ntmps75 Try.results75 rfl ?_)
  (refine Go.run (g:=?_))
  refine GoR.name ?_
  intro h1 e1
  have s1 : Same h h1 := by subst e1; exact (((Same.refl h).push _).push _).push _
  have g4 : h1.get h.n = some (.cells [.slice a l.length cap] 58) := by subst e1; (first | assumption | exact AHeap.get_push_same _ _ | ((repeat first | exact AHeap.get_push_same _ _ | assumption | refine get_push_lt ?_ | exact AHeap.get_put_same _ (by first | omega | (simp only [AHeap.n_push, AHeap.n_put]; omega)) _ | exact get_put_self (by assumption) | apply get_put_self | refine get_put_other (by first | omega | (simp only [AHeap.n_push, AHeap.n_put]; omega)) ?_ | refine Same.get (by assumption) ?_ | refine Keeps.get (by assumption) ?_ (fun hi => by have hx := Own.out (by assumption) hi; omega)) ; fail_if_success focus skip) | fail)
  have g2 : h1.get (h.n + 1) = some (.cells [.map (some r)] 125) := by subst e1; (first | assumption | exact AHeap.get_push_same _ _ | ((repeat first | exact AHeap.get_push_same _ _ | assumption | refine get_push_lt ?_ | exact AHeap.get_put_same _ (by first | omega | (simp only [AHeap.n_push, AHeap.n_put]; omega)) _ | exact get_put_self (by assumption) | apply get_put_self | refine get_put_other (by first | omega | (simp only [AHeap.n_push, AHeap.n_put]; omega)) ?_ | refine Same.get (by assumption) ?_ | refine Keeps.get (by assumption) ?_ (fun hi => by have hx := Own.out (by assumption) hi; omega)) ; fail_if_success focus skip) | fail)
  have g1 : h1.get (h.n + 2) = some (.cells [.slice ca cs.length ccap] 27) := by subst e1; (first | assumption | exact AHeap.get_push_same _ _ | ((repeat first | exact AHeap.get_push_same _ _ | assumption | refine get_push_lt ?_ | exact AHeap.get_put_same _ (by first | omega | (simp only [AHeap.n_push, AHeap.n_put]; omega)) _ | exact get_put_self (by assumption) | apply get_put_self | refine get_put_other (by first | omega | (simp only [AHeap.n_push, AHeap.n_put]; omega)) ?_ | refine Same.get (by assumption) ?_ | refine Keeps.get (by assumption) ?_ (fun hi => by have hx := Own.out (by assumption) hi; omega)) ; fail_if_success focus skip) | fail)
  have n1 : h1.n = h.n + 3 := by subst e1; rfl
  clear e1
  refine GoR.makeMap rfl rfl rfl rfl ?_
  intro h2 hm2 s2 n2
  (refine Go.run (g:=?_))
  refine GoR.name ?_
  intro h3 e3
  have s3 : Same h2 h3 := by subst e3; exact ((Same.refl h2).push _).put (Nat.le_refl _) _
  have g3 : h3.get h2.n = some (.cells [.map (some h1.n)] 147) := by subst e3; exact AHeap.get_put_same _ (by simp) _
  have n3 : h3.n = h2.n + 1 := by subst e3; rfl
  clear e3
  have S := s1.trans (s2.trans s3)
  refine GoR.callW rfl rfl rfl rfl rfl rfl rfl (((all1_spec l hl a cap cs hcl ca ccap r h1.n (h.n + 2) (h.n + 1) h2.n h.n f h3 (hz.same S) (hy.same S) (hm.same S) hf ((hm2 .i64).same s3) (s3.get (s2.get g1)) (s3.get (s2.get g2)) g3 (s3.get (s2.get g4)) (fun i hi => by have := ltA i hi; omega) (fun i hi => by have := ltC i hi; omega) (by omega)).args rfl).mono ?_)
  rintro _ h4 rfl k4
  refine ⟨fun i hi => .inr (by simp only [List.mem_singleton] at hi; omega), ?_⟩
  (refine Go.run (g:=?_))
  (first|refine Go.finT (by first|exact .inr rfl|exact .inl rfl) rfl ?_|refine Go.fin1 (by first|exact .inr rfl|exact .inl rfl) rfl (hq:=?_))
  rfl
def placeR (l : List HEv) (o : List Int) : List (Int × Int) := if ordersP l o = 0 then ((place l o 0).getD []).map (fun p => (p.1, (p.2 : Int))) else []
theorem allP_mem {l : List HEv} {cs : List Int} (h : allP l cs = 0) : ∀ c ∈ cs, (fd l c false).isSome = true := by
  unfold allP at h
  split at h
  · cases h
  · rename_i hh
    intro c hc
    cases hq : fd l c false with
    | some u => rfl
    | none => exact absurd (List.any_eq_true.2 ⟨c, hc, by rw [hq]; rfl⟩) hh
set_option maxHeartbeats 8000000 in
theorem place_spec (l : List HEv) (hl : l.length ≤ 1000000) (a : Option Addr) (cap : Nat) (cs : List Int) (hcl : cs.length ≤ 1000000) (ca : Option Addr) (ccap : Nat) (h : AHeap)
    (hz : Rv Try.prog h 2 a l.length cap (evs l)) (hy : Rv Try.prog h 1 ca cs.length ccap (ints cs)) : CallS Try.prog [] 45 [.slice a l.length cap, .slice ca cs.length ccap] h fun v h' => ∃ b c, v = .tuple #[.slice b (placeR l cs).length c, .int .i64 (ordersP l cs)] ∧ Sv h' 80 2 b (placeR l cs).length c (pts (placeR l cs)) ∧ Own h.n b := by
  (refine CallS.of2 Try.func45 rfl Try.ntmps45 Try.results45 rfl ?_)
  (refine Go.run (g:=?_))
  refine GoR.call rfl rfl rfl rfl rfl rfl rfl (((spans_spec l hl a cap _ hz).args (by first | rfl | (simp; fail_if_success focus skip) | (simp; omega) | (congr 2; omega))).mono ?_)
  intro v h1 hv s1
  have m1 := s1.1
  unfold placeR ordersP
  cases hc : check l with
  | some n =>
    rw [hc] at hv
    simp only at hv
    subst hv
    (refine Go.run (g:=?_))
    (first|refine Go.finT (by first|exact .inr rfl|exact .inl rfl) rfl ?_|refine Go.fin1 (by first|exact .inr rfl|exact .inl rfl) rfl (hq:=?_))
    exact ⟨none, 0, rfl, .nil, Own.nil _⟩
  | none =>
    rw [hc] at hv
    obtain ⟨r, rfl, hr, hm⟩ := hv
    have hz1 := hz.same s1
    have hy1 := hy.same s1
    (refine Go.run (g:=?_))
    refine GoR.call rfl rfl rfl rfl rfl rfl rfl (((hall_spec l hl a cap cs hcl ca ccap r _ hz1 hy1 hm).args (by first | rfl | (simp; fail_if_success focus skip) | (simp; omega) | (congr 2; omega))).mono ?_)
    rintro _ h2 rfl s2
    have m2 := s2.1
    by_cases hap : allP l cs = 0
    case neg =>
      have hap2 : ¬ ((allP l cs : Nat) : Int) = 0 := by omega
      (refine Go.run (g:=?_))
      (first|refine Go.finT (by first|exact .inr rfl|exact .inl rfl) rfl ?_|refine Go.fin1 (by first|exact .inr rfl|exact .inl rfl) rfl (hq:=?_))
      simp only [ne_eq, hap, not_false_eq_true, if_true, if_false]
      exact ⟨none, 0, rfl, .nil, Own.nil _⟩
    simp only [hap, ne_eq, not_true_eq_false, if_false]
    have hmem := allP_mem hap
    have hy2 := hy1.same s2
    obtain ⟨f, hm2, hf⟩ := hm.same s2
    (refine Go.run (g:=?_))
    refine Go.loop (α := Nat × Nat × List (Int × Nat) × Option Addr × Nat × AHeap) (fun x => [(32, .int .i64 x.1), (31, .int .i64 cs.length), (30, .slice ca cs.length ccap), (10, .int .i64 x.2.1), (11, .slice x.2.2.2.1 x.2.2.1.length x.2.2.2.2.1), (6, .map (some r)), (0, .slice a l.length cap), (1, .slice ca cs.length ccap)]) (fun _ => []) (fun x => x.2.2.2.2.2) (fun x => x.1 ≤ cs.length ∧ x.2.1 ≤ l.length + 1 ∧ x.2.2.1.length = x.1 ∧ Same h2 x.2.2.2.2.2 ∧ Sv x.2.2.2.2.2 80 2 x.2.2.2.1 x.2.2.1.length x.2.2.2.2.1 (pts (x.2.2.1.map fun p => (p.1, (p.2 : Int)))) ∧ Own h2.n x.2.2.2.1 ∧ place l cs 0 = (place l (cs.drop x.1) x.2.1).map (x.2.2.1 ++ ·)) (fun x => cs.length - x.1) (0, 0, [], none, 0, h2) ?_ ?_ rfl rfl ?_
    · exact ⟨Nat.zero_le _, Nat.zero_le _, rfl, Same.refl _, .nil, Own.nil _, by simp⟩
    · exact ⟨rfl, rfl, rfl, rfl, rfl, rfl, rfl, rfl, trivial⟩
    rintro ⟨i, at_, done_, b, c, h3⟩ ⟨hi, hat, hdl, s3, hb, ob, hp⟩
    simp only at hi hat hdl s3 hb ob hp ⊢
    have m3 := s3.1
    have hy3 := hy2.same s3
    have hm3 := hm2.same s3
    rcases Nat.lt_or_ge i cs.length with i0 | i0
    · have c0 := ints_get i0
      have hme := hmem _ (List.getElem_mem i0)
      rw [List.drop_eq_getElem_cons i0] at hp
      generalize cs[i] = e at *
      obtain ⟨u, hu⟩ := Option.isSome_iff_exists.1 hme
      have hul := (fd_lt hu).1
      have hsp : spanOf l.length l e = some (u, (fd l e true).getD (l.length + 1)) := by rw [spanOf, hu]; rfl
      have hfe := hf e
      simp only [place, hsp, Option.getD_some] at hp
      rw [hsp] at hfe
      generalize (fd l e true).getD (l.length + 1) = t at *
      have hge : (al f e).getD (.agg #[.int .i64 0, .int .i64 0]) = .agg #[.int .i64 u, .int .i64 t] := by rw [hfe]; rfl
      (refine Go.run (g:=?_))
      refine GoR.lookup rfl rfl rfl rfl rfl rfl hm3 ?_
      rw [hge]
      refine GoR.field (v := .int .i64 u) rfl rfl rfl rfl rfl (by rfl) ?_
      (refine Go.run (g:=?_))
      refine GoR.maxI rfl rfl rfl rfl rfl rfl ?_
      rw [show (if ((u + 1 : Nat) : Int) > (at_ : Int) then ((u + 1 : Nat) : Int) else (at_ : Int)) = ((max at_ (u + 1) : Nat) : Int) from by split <;> omega]
      have hmx : max at_ (u + 1) ≤ l.length + 1 := by omega
      generalize max at_ (u + 1) = at2 at *
      (refine Go.run (g:=?_))
      refine GoR.lookup rfl rfl rfl rfl rfl rfl hm3 ?_
      rw [hge]
      refine GoR.field (v := .int .i64 t) rfl rfl rfl rfl rfl (by rfl) ?_
      rcases Nat.lt_or_ge t at2 with ht | ht
      · rw [if_pos ht, Option.map_none] at hp
        (refine Go.run (g:=?_))
        (first|refine Go.finT (by first|exact .inr rfl|exact .inl rfl) rfl ?_|refine Go.fin1 (by first|exact .inr rfl|exact .inl rfl) rfl (hq:=?_))
        simp only [hp]
        exact ⟨none, 0, rfl, .nil, Own.nil _⟩
      · rw [if_neg (by omega)] at hp
        (refine Go.run (g:=?_))
        refine GoR.buildRo (c := [.int .i64 e, .int .i64 at2]) rfl rfl rfl rfl rfl (by decide) (by rfl) (by rfl) ?_
        intro b8 h8 hb8 rb8 ob8 s8 n8
        refine GoR.appendV rfl rfl rfl rfl rfl rfl (hb.same s8) hb8 (Own.ok ob (by omega)) (by omega) (by omega) (by rfl) ?_
        intro b9 c9 h9 hs9 k9 o9
        have m9 := k9.1
        have hs9' : Sv h9 80 2 b9 (done_ ++ [(e, at2)]).length c9 (pts ((done_ ++ [(e, at2)]).map fun p => (p.1, (p.2 : Int)))) := by rw [List.map_append, List.map_singleton, pts_snoc, List.length_append]; exact hs9
        (refine Go.run (g:=?_))
        refine Go.again (i + 1, at2, done_ ++ [(e, at2)], b9, c9, h9) ⟨by simp only; omega, hmx, by simp only [List.length_append, List.length_singleton]; omega, ?_, hs9', ?_, ?_⟩ (by simp only; omega) ⟨rfl, rfl, rfl, rfl, by simp only [List.length_append]; rfl, rfl, rfl, rfl, trivial⟩ rfl rfl
        · exact (s3.trans s8).ownO k9 ob (Nat.le_refl _)
        · intro j hj
          rcases o9 j hj with x | x
          · exact ob j x
          · omega
        · simp only
          rw [hp, Option.map_map]
          congr 1
          funext x
          simp
    · have hie : i = cs.length := by omega
      subst hie
      rw [List.drop_length] at hp
      simp only [place, Option.map_some, List.append_nil] at hp
      (refine Go.run (g:=?_))
      (first|refine Go.finT (by first|exact .inr rfl|exact .inl rfl) rfl ?_|refine Go.fin1 (by first|exact .inr rfl|exact .inl rfl) rfl (hq:=?_))
      simp only [hp, if_true, Option.getD_some, List.length_map]
      exact ⟨b, c, rfl, hb, ob.mono (by omega)⟩
theorem horders_spec (l : List HEv) (hl : l.length ≤ 1000000) (a : Option Addr) (cap : Nat) (cs : List Int) (hcl : cs.length ≤ 1000000) (ca : Option Addr) (ccap : Nat) (h : AHeap)
    (hz : Rv Try.prog h 2 a l.length cap (evs l)) (hy : Rv Try.prog h 1 ca cs.length ccap (ints cs)) : CallS Try.prog [] 40 [.slice a l.length cap, .slice ca cs.length ccap] h fun v h' => v = .int .i64 (ordersP l cs) := by
  (refine CallS.of2 Try.func40 rfl Try.ntmps40 Try.results40 rfl ?_)
  (refine Go.run (g:=?_))
  refine GoR.call rfl rfl rfl rfl rfl rfl rfl (((place_spec l hl a cap cs hcl ca ccap _ hz hy).args (by first | rfl | (simp; fail_if_success focus skip) | (simp; omega) | (congr 2; omega))).mono ?_)
  rintro _ h1 ⟨b, c, rfl, -, -⟩ s1
  (refine Go.run (g:=?_))
  (first|refine Go.finT (by first|exact .inr rfl|exact .inl rfl) rfl ?_|refine Go.fin1 (by first|exact .inr rfl|exact .inl rfl) rfl (hq:=?_))
  rfl
end Go.Proofs.Ytacfneokhmnkbaa

/- hist.Commits; lanyardref29: Check, Open, Before, all. No conditions. -/
namespace Go.Proofs.Ytacfneokhmnkbaa
set_option linter.unusedVariables false
set_option maxRecDepth 100000
attribute [local irreducible] Go GoR GoL
theorem map_snoc {α β : Type} (f : α → β) {l : List α} {i : Nat} (hi : i < l.length) : (l.take (i + 1)).map f = (l.take i).map f ++ [f l[i]] := by rw [take_snoc hi, List.map_append]; rfl
set_option maxHeartbeats 8000000 in
theorem hcommits_spec (l : List HEv) (hl : l.length ≤ 1000000) (a : Option Addr) (cap : Nat) (cs : List (Int × Int)) (hcl : cs.length ≤ 1000000) (ca : Option Addr) (ccap : Nat) (h : AHeap)
    (hz : Rv Try.prog h 2 a l.length cap (evs l)) (hy : Rv Try.prog h 2 ca cs.length ccap (pts cs)) : CallS Try.prog [] 42 [.slice a l.length cap, .slice ca cs.length ccap] h fun v h' => v = .int .i64 (commitsP l cs) := by
  (refine CallS.of2 Try.func42 rfl Try.ntmps42 Try.results42 rfl ?_)
  (refine Go.run (g:=?_))
  refine GoR.call rfl rfl rfl rfl rfl rfl rfl (((spans_spec l hl a cap _ hz).args (by first | rfl | (simp; fail_if_success focus skip) | (simp; omega) | (congr 2; omega))).mono ?_)
  intro v h1 hv s1
  have m1 := s1.1
  unfold commitsP
  cases hc : check l with
  | some n =>
    rw [hc] at hv
    simp only at hv
    subst hv
    (refine Go.run (g:=?_))
    (first|refine Go.finT (by first|exact .inr rfl|exact .inl rfl) rfl ?_|refine Go.fin1 (by first|exact .inr rfl|exact .inl rfl) rfl (hq:=?_))
    rfl
  | none =>
    rw [hc] at hv
    obtain ⟨r, rfl, hr, hm⟩ := hv
    have hz1 := hz.same s1
    have hy1 := hy.same s1
    (refine Go.run (g:=?_))
    refine Go.loop (α := Nat × Option Addr × Nat × AHeap) (fun x => [(27, .int .i64 x.1), (26, .int .i64 cs.length), (25, .slice ca cs.length ccap), (8, .slice x.2.1 x.1 x.2.2.1), (5, .map (some r)), (0, .slice a l.length cap), (1, .slice ca cs.length ccap)]) (fun _ => []) (fun x => x.2.2.2) (fun x => x.1 ≤ cs.length ∧ Same h1 x.2.2.2 ∧ Sv x.2.2.2 3 1 x.2.1 x.1 x.2.2.1 (ints ((cs.take x.1).map (·.1))) ∧ Own h1.n x.2.1) (fun x => cs.length - x.1) (0, none, 0, h1) ?_ ?_ rfl rfl ?_
    · exact ⟨Nat.zero_le _, Same.refl _, .nil, Own.nil _⟩
    · exact ⟨rfl, rfl, rfl, rfl, rfl, rfl, rfl, trivial⟩
    rintro ⟨i, b, c, h2⟩ ⟨hi, s2, hb, ob⟩
    simp only at hi s2 hb ob ⊢
    have m2 := s2.1
    have hy2 := hy1.same s2
    rcases Nat.lt_or_ge i cs.length with i0 | i0
    · have c0 := pts_get i0
      have hbe : i * 2 + 2 ≤ (pts cs).length := by rw [pts_len]; omega
      have e1 := map_snoc (·.1) i0
      generalize cs[i].1 = ec at *
      generalize cs[i].2 = ea at *
      (refine Go.run (g:=?_))
      refine GoR.buildRo (c := [.int .i64 ec]) rfl rfl rfl rfl rfl (by decide) (by rfl) (by rfl) ?_
      intro b8 h8 hb8 rb8 ob8 s8 n8
      have n8' := s8.1
      simp only [AHeap.n_push, AHeap.n_put] at n8'
      refine GoR.appendV rfl rfl rfl rfl rfl rfl ((hb.same (((Same.refl h2).push _).put (Nat.le_refl _) _)).same s8) hb8 (Own.ok ob (by omega)) (by omega) (by omega) (by rfl) ?_
      intro b9 c9 h9 hs9 k9 o9
      have m9 := k9.1
      have hs9' : Sv h9 3 1 b9 (i + 1) c9 (ints ((cs.take (i + 1)).map (·.1))) := by rw [e1, ints_snoc]; exact hs9
      (refine Go.run (g:=?_))
      refine Go.again (i + 1, b9, c9, h9) ⟨by simp only; omega, ?_, hs9', ?_⟩ (by simp only; omega) ⟨rfl, rfl, rfl, rfl, rfl, rfl, rfl, trivial⟩ rfl rfl
      · exact ((s2.trans (((Same.refl h2).push _).put (Nat.le_refl _) _)).trans s8).ownO k9 ob (Nat.le_refl _)
      · intro j hj
        rcases o9 j hj with x | x
        · exact ob j x
        · omega
    have hie : i = cs.length := by omega
    subst hie
    rw [List.take_of_length_le (Nat.le_refl _)] at hb
    have hz2 := hz1.same s2
    have hm2 := hm.same s2
    (refine Go.run (g:=?_))
    refine GoR.call rfl rfl rfl rfl rfl rfl rfl (((hall_spec l hl a cap (cs.map (·.1)) (by rw [List.length_map]; exact hcl) b c r _ hz2 (by rw [List.length_map]; exact Sv.rv hb) hm2).args (by first | rfl | (simp; fail_if_success focus skip) | (simp; omega) | (congr 2; omega))).mono ?_)
    rintro _ h3 rfl s3
    have m3 := s3.1
    by_cases hap : allP l (cs.map (·.1)) = 0
    case neg =>
      have hap2 : ¬ ((allP l (cs.map (·.1)) : Nat) : Int) = 0 := by omega
      (refine Go.run (g:=?_))
      (first|refine Go.finT (by first|exact .inr rfl|exact .inl rfl) rfl ?_|refine Go.fin1 (by first|exact .inr rfl|exact .inl rfl) rfl (hq:=?_))
      simp only [ne_eq, hap, not_false_eq_true, if_true]
      rfl
    simp only [hap, ne_eq, not_true_eq_false, if_false]
    have hmem := allP_mem hap
    have hy3 := (hy1.same s2).same s3
    obtain ⟨f, hm3, hf⟩ := hm2.same s3
    clear hb hm2 hz2 hm
    (refine Go.run (g:=?_))
    refine Go.loop (α := Nat × Int × AHeap) (fun x => [(46, .int .i64 x.1), (45, .int .i64 cs.length), (44, .slice ca cs.length ccap), (12, .int .i64 x.2.1), (5, .map (some r)), (0, .slice a l.length cap)]) (fun _ => []) (fun x => x.2.2) (fun x => x.1 ≤ cs.length ∧ Same h3 x.2.2 ∧ comGo l cs 0 = comGo l (cs.drop x.1) x.2.1) (fun x => cs.length - x.1) (0, 0, h3) ?_ ?_ rfl rfl ?_
    · exact ⟨Nat.zero_le _, Same.refl _, rfl⟩
    · exact ⟨rfl, rfl, rfl, rfl, rfl, rfl, trivial⟩
    rintro ⟨i, last, h4⟩ ⟨hi, s4, hco⟩
    simp only at hi s4 hco ⊢
    have m4 := s4.1
    have hy4 := hy3.same s4
    have hm4 := hm3.same s4
    rcases Nat.lt_or_ge i cs.length with i0 | i0
    · have c0 := pts_get i0
      have hbe : i * 2 + 2 ≤ (pts cs).length := by rw [pts_len]; omega
      have hme := hmem _ (List.mem_map_of_mem (List.getElem_mem i0))
      rw [List.drop_eq_getElem_cons i0] at hco
      simp only [comGo] at hco
      generalize cs[i].1 = ec at *
      generalize cs[i].2 = ea at *
      obtain ⟨u, hu⟩ := Option.isSome_iff_exists.1 hme
      have hsp : spanOf l.length l ec = some (u, (fd l ec true).getD (l.length + 1)) := by rw [spanOf, hu]; rfl
      have hfe := hf ec
      simp only [hsp, Option.getD_some] at hco
      rw [hsp] at hfe
      generalize (fd l ec true).getD (l.length + 1) = t at *
      have hge : (al f ec).getD (.agg #[.int .i64 0, .int .i64 0]) = .agg #[.int .i64 u, .int .i64 t] := by rw [hfe]; rfl
      (refine Go.run (g:=?_))
      refine GoR.name ?_
      intro h5 e5
      have s5 : Same h4 h5 := by subst e5; exact ((Same.refl h4).push _).put (Nat.le_refl _) _
      have g5 : h5.get h4.n = some (.cells [.int .i64 ec, .int .i64 ea] 80) := by subst e5; exact AHeap.get_put_same _ (by simp) _
      have n5 : h5.n = h4.n + 1 := by subst e5; rfl
      clear e5
      refine GoR.lookup rfl rfl rfl rfl rfl rfl (hm4.same s5) ?_
      rw [hge]
      have bad : (ea < last ∨ ea ≤ (u : Int) ∨ (t : Int) < ea ∨ (l.length : Int) < ea) → comGo l cs 0 = false := fun hh => by rw [hco, if_pos hh]
      by_cases q1 : ea < last
      · (refine Go.run (g:=?_))
        (first|refine Go.finT (by first|exact .inr rfl|exact .inl rfl) rfl ?_|refine Go.fin1 (by first|exact .inr rfl|exact .inl rfl) rfl (hq:=?_))
        rw [bad (.inl q1)]; rfl
      by_cases q2 : ea ≤ (u : Int)
      · (refine Go.run (g:=?_))
        (first|refine Go.finT (by first|exact .inr rfl|exact .inl rfl) rfl ?_|refine Go.fin1 (by first|exact .inr rfl|exact .inl rfl) rfl (hq:=?_))
        rw [bad (.inr (.inl q2))]; rfl
      by_cases q3 : (t : Int) < ea
      · (refine Go.run (g:=?_))
        (first|refine Go.finT (by first|exact .inr rfl|exact .inl rfl) rfl ?_|refine Go.fin1 (by first|exact .inr rfl|exact .inl rfl) rfl (hq:=?_))
        rw [bad (.inr (.inr (.inl q3)))]; rfl
      by_cases q4 : (l.length : Int) < ea
      · (refine Go.run (g:=?_))
        (first|refine Go.finT (by first|exact .inr rfl|exact .inl rfl) rfl ?_|refine Go.fin1 (by first|exact .inr rfl|exact .inl rfl) rfl (hq:=?_))
        rw [bad (.inr (.inr (.inr q4)))]; rfl
      rw [if_neg (by omega)] at hco
      (refine Go.run (g:=?_))
      refine Go.again (i + 1, ea, _) ⟨by simp only; omega, (s4.trans s5).trans (((Same.refl h5).push _).put (Nat.le_refl _) _), hco⟩ (by simp only; omega) ⟨rfl, rfl, rfl, rfl, rfl, rfl, trivial⟩ rfl rfl
    · rw [List.drop_eq_nil_of_le i0] at hco
      (refine Go.run (g:=?_))
      (first|refine Go.finT (by first|exact .inr rfl|exact .inl rfl) rfl ?_|refine Go.fin1 (by first|exact .inr rfl|exact .inl rfl) rfl (hq:=?_))
      rw [hco]; rfl
end Go.Proofs.Ytacfneokhmnkbaa

/- lanyardref29: Check, Open, Before, all. No conditions. -/
namespace Go.Proofs.Ytacfneokhmnkbaa
set_option linter.unusedVariables false
set_option maxRecDepth 100000
attribute [local irreducible] Go GoR GoL
theorem fdI_neg {l : List HEv} {c : Int} {r : Bool} (h : fd l c r = none) : fdI l c r = -1 := by rw [fdI, h]
theorem fdI_pos {l : List HEv} {c : Int} {r : Bool} {i : Nat} (h : fd l c r = some i) : fdI l c r = i := by rw [fdI, h]
theorem evs_take (l : List HEv) (n : Nat) : (evs l).take (n * 2) = evs (l.take n) := by
  induction l generalizing n with
  | nil => simp [evs]
  | cons x l ih =>
    cases n with
    | zero => simp [evs]
    | succ n =>
      have : (n + 1) * 2 = n * 2 + 2 := by omega
      rw [this]
      have := ih n
      simp only [evs] at this ⊢
      simp only [List.map_cons, List.flatten_cons, evC, List.cons_append, List.nil_append, List.take_succ_cons, this]
set_option maxHeartbeats 4000000 in
theorem rcheck_spec (l : List HEv) (hl : l.length ≤ 1000000) (a : Option Addr) (cap : Nat) (h : AHeap) (hz : Rv Try.prog h 2 a l.length cap (evs l)) : CallS Try.prog [] 33 [.slice a l.length cap] h fun v h' => v = checkV l ∧ h' = h := by
  have hle := hz.le
  (refine CallS.of1 Try.func33 rfl Try.ntmps33 Try.results33 rfl ?_)
  (refine Go.run (g:=?_))
  refine Go.loop (α := Nat) (fun i => [(4, .int .i64 i), (0, .slice a l.length cap)]) (fun _ => []) (fun _ => h) (fun i => i ≤ l.length ∧ check l = chk (l.take i) (l.drop i)) (fun i => l.length - i) 0 ?_ ?_ rfl rfl ?_
  · exact ⟨Nat.zero_le _, rfl⟩
  · exact ⟨rfl, rfl, trivial⟩
  rintro i ⟨hi, hc⟩
  rcases Nat.lt_or_ge i l.length with i0 | i0
  · have c0 := evs_0 i0
    have c1 := evs_1 i0
    have hb : i * 2 < (evs l).length := by rw [evs_len]; omega
    have hll : (l.take i).length = i := by simp; omega
    rw [List.drop_eq_getElem_cons i0] at hc
    simp only [chk, hll, badAt] at hc
    rw [← take_snoc i0] at hc
    rcases hle' : l[i] with ⟨ec, er⟩
    rw [hle'] at hc c0 c1
    simp only at c0 c1 hc
    have hlt : (l.take i).length ≤ 1000000 := by omega
    (refine Go.run (g:=?_))
    refine GoR.cHi rfl rfl rfl rfl rfl rfl hz hi ?_
    rintro a1 hz1 -
    rw [evs_take] at hz1
    have hz1' : Rv Try.prog h 2 a1 (l.take i).length cap (evs (l.take i)) := by rw [hll]; exact hz1
    have hfind := fun c r => find_spec (l.take i) hlt a1 cap c r h hz1'
    rw [hll] at hfind
    (refine Go.run (g:=?_))
    refine GoR.call rfl rfl rfl rfl rfl rfl rfl (((hfind ec er).args (by first | rfl | (simp; fail_if_success focus skip) | (simp; omega) | (congr 2; omega))).mono ?_)
    rintro _ h ⟨rfl, rfl⟩ -
    cases hq : fd (l.take i) ec er with
    | some u =>
      rw [fdI_pos hq]
      rw [hq] at hc
      (refine Go.run (g:=?_))
      (first|refine Go.finT (by first|exact .inr rfl|exact .inl rfl) rfl ?_|refine Go.fin1 (by first|exact .inr rfl|exact .inl rfl) rfl (hq:=?_))
      rw [checkV, hc]
      exact ⟨rfl, rfl⟩
    | none =>
      rw [fdI_neg hq]
      rw [hq] at hc
      cases er
      · (refine Go.run (g:=?_))
        exact Go.again (i + 1) ⟨by omega, hc⟩ (by omega) ⟨rfl, rfl, trivial⟩ rfl rfl
      · (refine Go.run (g:=?_))
        refine GoR.cHi rfl rfl rfl rfl rfl rfl hz hi ?_
        rintro a2 hz2 -
        rw [evs_take] at hz2
        have hz2' : Rv Try.prog h 2 a2 (l.take i).length cap (evs (l.take i)) := by rw [hll]; exact hz2
        have hfind2 := find_spec (l.take i) hlt a2 cap ec false h hz2'
        rw [hll] at hfind2
        (refine Go.run (g:=?_))
        refine GoR.call rfl rfl rfl rfl rfl rfl rfl (((hfind2).args (by first | rfl | (simp; fail_if_success focus skip) | (simp; omega) | (congr 2; omega))).mono ?_)
        rintro _ h ⟨rfl, rfl⟩ -
        cases hq2 : fd (l.take i) ec false with
        | some u =>
          rw [fdI_pos hq2]
          rw [hq2] at hc
          (refine Go.run (g:=?_))
          exact Go.again (i + 1) ⟨by omega, hc⟩ (by omega) ⟨rfl, rfl, trivial⟩ rfl rfl
        | none =>
          rw [fdI_neg hq2]
          rw [hq2] at hc
          (refine Go.run (g:=?_))
          (first|refine Go.finT (by first|exact .inr rfl|exact .inl rfl) rfl ?_|refine Go.fin1 (by first|exact .inr rfl|exact .inl rfl) rfl (hq:=?_))
          rw [checkV, hc]
          exact ⟨rfl, rfl⟩
  · rw [List.drop_eq_nil_of_le i0] at hc
    (refine Go.run (g:=?_))
    (first|refine Go.finT (by first|exact .inr rfl|exact .inl rfl) rfl ?_|refine Go.fin1 (by first|exact .inr rfl|exact .inl rfl) rfl (hq:=?_))
    rw [checkV, hc]
    exact ⟨rfl, rfl⟩
end Go.Proofs.Ytacfneokhmnkbaa

/- lanyardref29: Open, Before, all, Orders, Commits. No conditions. -/
namespace Go.Proofs.Ytacfneokhmnkbaa
set_option linter.unusedVariables false
set_option maxRecDepth 100000
attribute [local irreducible] Go GoR GoL
set_option maxHeartbeats 4000000 in
theorem ropen_spec (l : List HEv) (hl : l.length ≤ 1000000) (a : Option Addr) (cap : Nat) (h : AHeap) (hz : Rv Try.prog h 2 a l.length cap (evs l)) : CallS Try.prog [] 38 [.slice a l.length cap] h fun v h' => ∃ b c, v = .slice b (openP l).length c ∧ Sv h' 3 1 b (openP l).length c (ints (openP l)) ∧ Own h.n b := by
  (refine CallS.of1 Try.func38 rfl Try.ntmps38 Try.results38 rfl ?_)
  (refine Go.run (g:=?_))
  refine Go.loop (α := Nat × Option Addr × Nat × AHeap) (fun x => [(4, .int .i64 x.1), (3, .slice x.2.1 (((l.take x.1).filter fun x => !x.2 && (fd l x.1 true).isNone).map (·.1)).length x.2.2.1), (0, .slice a l.length cap)]) (fun _ => []) (fun x => x.2.2.2) (fun x => x.1 ≤ l.length ∧ Same h x.2.2.2 ∧ Sv x.2.2.2 3 1 x.2.1 (((l.take x.1).filter fun x => !x.2 && (fd l x.1 true).isNone).map (·.1)).length x.2.2.1 (ints (((l.take x.1).filter fun x => !x.2 && (fd l x.1 true).isNone).map (·.1))) ∧ Own h.n x.2.1) (fun x => l.length - x.1) (0, none, 0, h) ?_ ?_ rfl rfl ?_
  · exact ⟨Nat.zero_le _, Same.refl _, .nil, Own.nil _⟩
  · exact ⟨rfl, rfl, rfl, trivial⟩
  rintro ⟨i, b, c, h2⟩ ⟨hi, s2, hb, ob⟩
  simp only at hi s2 hb ob ⊢
  have m2 := s2.1
  have hz2 := hz.same s2
  rcases Nat.lt_or_ge i l.length with i0 | i0
  · have c0 := evs_0 i0
    have c1 := evs_1 i0
    have hbe : i * 2 < (evs l).length := by rw [evs_len]; omega
    have tk := take_snoc i0
    have hfl : (((l.take i).filter fun x => !x.2 && (fd l x.1 true).isNone).map (·.1)).length ≤ i := by
      rw [List.length_map]
      exact Nat.le_trans (List.length_filter_le _ _) (by simp; omega)
    rcases hle : l[i] with ⟨ec, er⟩
    rw [hle] at c0 c1 tk
    simp only at c0 c1
    have e1 : ((l.take (i + 1)).filter fun x => !x.2 && (fd l x.1 true).isNone).map (·.1) = ((l.take i).filter fun x => !x.2 && (fd l x.1 true).isNone).map (·.1) ++ (if (!er && (fd l ec true).isNone) = true then [ec] else []) := by
      rw [tk, List.filter_append, List.map_append]
      congr 1
      by_cases hh : (!er && (fd l ec true).isNone) = true
      · simp [hh]
      · simp [hh]
    generalize ((l.take i).filter fun x => !x.2 && (fd l x.1 true).isNone).map (·.1) = out at *
    cases er
    · (refine Go.run (g:=?_))
      refine GoR.call rfl rfl rfl rfl rfl rfl rfl (((find_spec l hl a cap ec true _ hz2).args (by first | rfl | (simp; fail_if_success focus skip) | (simp; omega) | (congr 2; omega))).mono ?_)
      rintro _ h2 ⟨rfl, rfl⟩ -
      cases hq : fd l ec true with
      | none =>
        rw [hq] at e1
        simp only [Bool.not_false, Bool.true_and, Option.isNone_none, if_true] at e1
        rw [fdI_neg hq]
        (refine Go.run (g:=?_))
        refine GoR.buildRo (c := [.int .i64 ec]) rfl rfl rfl rfl rfl (by decide) (by rfl) (by rfl) ?_
        intro b8 h8 hb8 rb8 ob8 s8 n8
        refine GoR.appendV rfl rfl rfl rfl rfl rfl (hb.same s8) hb8 (Own.ok ob (by omega)) (by omega) (by omega) (by rfl) ?_
        intro b9 c9 h9 hs9 k9 o9
        have m9 := k9.1
        have hs9' : Sv h9 3 1 b9 (out ++ [ec]).length c9 (ints (out ++ [ec])) := by rw [ints_snoc, List.length_append]; exact hs9
        (refine Go.run (g:=?_))
        refine Go.again (i + 1, b9, c9, h9) ⟨by simp only; omega, ?_, by simp only; rw [e1]; exact hs9', ?_⟩ (by simp only; omega) ⟨rfl, by simp only; rw [e1, List.length_append]; rfl, rfl, trivial⟩ rfl rfl
        · exact (s2.trans s8).ownO k9 ob (Nat.le_refl _)
        · intro j hj
          rcases o9 j hj with x | x
          · exact ob j x
          · omega
      | some t =>
        rw [hq] at e1
        simp only [Bool.not_false, Bool.true_and, Option.isNone_some, Bool.false_eq_true, if_false, List.append_nil] at e1
        rw [fdI_pos hq]
        (refine Go.run (g:=?_))
        refine Go.again (i + 1, b, c, h2) ⟨by simp only; omega, s2, by simp only; rw [e1]; exact hb, ob⟩ (by simp only; omega) ⟨rfl, by simp only; rw [e1]; rfl, rfl, trivial⟩ rfl rfl
    · simp only [Bool.not_true, Bool.false_and, Bool.false_eq_true, if_false, List.append_nil] at e1
      (refine Go.run (g:=?_))
      refine Go.again (i + 1, b, c, h2) ⟨by simp only; omega, s2, by simp only; rw [e1]; exact hb, ob⟩ (by simp only; omega) ⟨rfl, by simp only; rw [e1]; rfl, rfl, trivial⟩ rfl rfl
  · (refine Go.run (g:=?_))
    (first|refine Go.finT (by first|exact .inr rfl|exact .inl rfl) rfl ?_|refine Go.fin1 (by first|exact .inr rfl|exact .inl rfl) rfl (hq:=?_))
    have : l.take i = l := List.take_of_length_le i0
    rw [this] at hb ⊢
    exact ⟨b, c, rfl, hb, ob⟩
set_option maxHeartbeats 4000000 in
theorem rbefore_spec (l : List HEv) (hl : l.length ≤ 1000000) (a : Option Addr) (cap : Nat) (x y : Int) (h : AHeap) (hz : Rv Try.prog h 2 a l.length cap (evs l)) : CallS Try.prog [] 39 [.slice a l.length cap, .int .i64 x, .int .i64 y] h fun v h' => v = .bool (before l x y) ∧ h' = h := by
  (refine CallS.of3 Try.func39 rfl Try.ntmps39 Try.results39 rfl ?_)
  (refine Go.run (g:=?_))
  refine GoR.call rfl rfl rfl rfl rfl rfl rfl (((find_spec l hl a cap x true _ hz).args (by first | rfl | (simp; fail_if_success focus skip) | (simp; omega) | (congr 2; omega))).mono ?_)
  rintro _ h ⟨rfl, rfl⟩ -
  (refine Go.run (g:=?_))
  refine GoR.call rfl rfl rfl rfl rfl rfl rfl (((find_spec l hl a cap y false _ hz).args (by first | rfl | (simp; fail_if_success focus skip) | (simp; omega) | (congr 2; omega))).mono ?_)
  rintro _ h ⟨rfl, rfl⟩ -
  unfold before
  cases hx : fd l x true with
  | none =>
    rw [fdI_neg hx]
    cases hy : fd l y false with
    | none =>
      rw [fdI_neg hy]
      (refine Go.run (g:=?_))
      (first|refine Go.finT (by first|exact .inr rfl|exact .inl rfl) rfl ?_|refine Go.fin1 (by first|exact .inr rfl|exact .inl rfl) rfl (hq:=?_))
      exact ⟨rfl, rfl⟩
    | some j =>
      rw [fdI_pos hy]
      (refine Go.run (g:=?_))
      (first|refine Go.finT (by first|exact .inr rfl|exact .inl rfl) rfl ?_|refine Go.fin1 (by first|exact .inr rfl|exact .inl rfl) rfl (hq:=?_))
      exact ⟨rfl, rfl⟩
  | some i =>
    rw [fdI_pos hx]
    cases hy : fd l y false with
    | none =>
      rw [fdI_neg hy]
      (refine Go.run (g:=?_))
      (first|refine Go.finT (by first|exact .inr rfl|exact .inl rfl) rfl ?_|refine Go.fin1 (by first|exact .inr rfl|exact .inl rfl) rfl (hq:=?_))
      exact ⟨rfl, rfl⟩
    | some j =>
      rw [fdI_pos hy]
      (refine Go.run (g:=?_))
      (first|refine Go.finT (by first|exact .inr rfl|exact .inl rfl) rfl ?_|refine Go.fin1 (by first|exact .inr rfl|exact .inl rfl) rfl (hq:=?_))
      exact ⟨by simp [retV], rfl⟩
set_option maxHeartbeats 8000000 in
theorem rall_spec (l : List HEv) (hl : l.length ≤ 1000000) (a : Option Addr) (cap : Nat) (cs : List Int) (hcl : cs.length ≤ 1000000) (ca : Option Addr) (ccap : Nat) (h : AHeap)
    (hz : Rv Try.prog h 2 a l.length cap (evs l)) (hy : Rv Try.prog h 1 ca cs.length ccap (ints cs)) : CallS Try.prog [] 74 [.slice a l.length cap, .slice ca cs.length ccap] h fun v h' => v = .int .i64 (allP l cs) ∧ h' = h := by
  (refine CallS.of2 Try.func74 rfl Try.ntmps74 Try.results74 rfl ?_)
  (refine Go.run (g:=?_))
  refine Go.loop (α := Nat) (fun i => [(5, .int .i64 i), (0, .slice a l.length cap), (1, .slice ca cs.length ccap)]) (fun _ => []) (fun _ => h) (fun i => i ≤ cs.length ∧ ∀ c ∈ cs.take i, (fd l c false).isSome = true) (fun i => cs.length - i) 0 ?_ ?_ rfl rfl ?_
  · exact ⟨Nat.zero_le _, fun c hc => by simp at hc⟩
  · exact ⟨rfl, rfl, rfl, trivial⟩
  rintro i ⟨hi, hA⟩
  rcases Nat.lt_or_ge i cs.length with i0 | i0
  · have c0 := ints_get i0
    have tk := take_snoc i0
    have hmem := List.getElem_mem i0
    generalize cs[i] = c at *
    (refine Go.run (g:=?_))
    refine GoR.call rfl rfl rfl rfl rfl rfl rfl (((find_spec l hl a cap c false _ hz).args (by first | rfl | (simp; fail_if_success focus skip) | (simp; omega) | (congr 2; omega))).mono ?_)
    rintro _ h ⟨rfl, rfl⟩ -
    cases hq : fd l c false with
    | none =>
      rw [fdI_neg hq]
      (refine Go.run (g:=?_))
      (first|refine Go.finT (by first|exact .inr rfl|exact .inl rfl) rfl ?_|refine Go.fin1 (by first|exact .inr rfl|exact .inl rfl) rfl (hq:=?_))
      have : cs.any (fun c => (fd l c false).isNone) = true := List.any_eq_true.2 ⟨c, hmem, by rw [hq]; rfl⟩
      simp only [allP, this, if_true]
      exact ⟨rfl, trivial⟩
    | some u =>
      rw [fdI_pos hq]
      (refine Go.run (g:=?_))
      refine Go.again (i + 1) ⟨by omega, ?_⟩ (by omega) ⟨rfl, rfl, rfl, trivial⟩ rfl rfl
      rw [tk]
      intro x hx
      rcases List.mem_append.1 hx with hx | hx
      · exact hA x hx
      · rw [List.mem_singleton.1 hx, hq]; rfl
  rw [List.take_of_length_le i0] at hA
  have hany : cs.any (fun c => (fd l c false).isNone) = false := by
    rw [List.any_eq_false]
    intro c hc
    have := hA c hc
    cases hq : fd l c false with
    | none => rw [hq] at this; cases this
    | some u => simp
  (refine Go.run (g:=?_))
  clear i0 hi hA
  refine Go.loop (α := Nat) (fun i => [(6, .int .i64 i), (0, .slice a l.length cap), (1, .slice ca cs.length ccap)]) (fun _ => []) (fun _ => h) (fun i => i ≤ cs.length ∧ dupP (cs.take i) = false) (fun i => cs.length - i) 0 ?_ ?_ rfl rfl ?_
  · exact ⟨Nat.zero_le _, rfl⟩
  · exact ⟨rfl, rfl, rfl, trivial⟩
  clear i
  rintro i ⟨hi, hdup⟩
  rcases Nat.lt_or_ge i cs.length with i0 | i0
  · have c0 := ints_get i0
    have tk := take_snoc i0
    have dup := dup_all i0 hdup
    have hll : (cs.take i).length = i := by simp; omega
    generalize cs[i] = c at *
    (refine Go.run (g:=?_))
    refine GoR.cHi rfl rfl rfl rfl rfl rfl hy hi ?_
    rintro a1 hz1 -
    rw [Nat.mul_one, show (ints cs).take i = ints (cs.take i) from by simp [ints, List.map_take]] at hz1
    have hz1' : Rv Try.prog h 1 a1 (cs.take i).length ccap (ints (cs.take i)) := by rw [hll]; exact hz1
    have hhas := has_spec (cs.take i) (by omega) a1 ccap c h hz1'
    rw [hll] at hhas
    (refine Go.run (g:=?_))
    refine GoR.call rfl rfl rfl rfl rfl rfl rfl (((hhas).args (by first | rfl | (simp; fail_if_success focus skip) | (simp; omega) | (congr 2; omega))).mono ?_)
    rintro _ h ⟨rfl, rfl⟩ -
    by_cases hin : c ∈ cs.take i
    · rw [show (cs.take i).contains c = true from by simpa using hin]
      (refine Go.run (g:=?_))
      (first|refine Go.finT (by first|exact .inr rfl|exact .inl rfl) rfl ?_|refine Go.fin1 (by first|exact .inr rfl|exact .inl rfl) rfl (hq:=?_))
      simp only [allP, hany, dup hin, if_true]
      exact ⟨rfl, trivial⟩
    · rw [show (cs.take i).contains c = false from by simpa using hin]
      (refine Go.run (g:=?_))
      refine Go.again (i + 1) ⟨by omega, ?_⟩ (by omega) ⟨rfl, rfl, rfl, trivial⟩ rfl rfl
      rw [tk, dupP_snoc, hdup]
      simpa using hin
  rw [List.take_of_length_le i0] at hdup
  (refine Go.run (g:=?_))
  clear i0 hi
  refine Go.loop (α := Nat) (fun i => [(7, .int .i64 i), (0, .slice a l.length cap), (1, .slice ca cs.length ccap)]) (fun _ => []) (fun _ => h) (fun i => i ≤ l.length ∧ ∀ y ∈ l.take i, (y.2 && !cs.contains y.1) = false) (fun i => l.length - i) 0 ?_ ?_ rfl rfl ?_
  · exact ⟨Nat.zero_le _, fun c hc => by simp at hc⟩
  · exact ⟨rfl, rfl, rfl, trivial⟩
  clear i
  rintro i ⟨hi, hR⟩
  rcases Nat.lt_or_ge i l.length with i0 | i0
  · have c0 := evs_0 i0
    have c1 := evs_1 i0
    have hbe : i * 2 < (evs l).length := by rw [evs_len]; omega
    have tk := take_snoc i0
    have hmem := List.getElem_mem i0
    rcases hle : l[i] with ⟨ec, er⟩
    rw [hle] at c0 c1 tk hmem
    simp only at c0 c1
    have fin : (er && !cs.contains ec) = false → ∀ y ∈ l.take (i + 1), (y.2 && !cs.contains y.1) = false := fun e => by
      rw [tk]
      intro x hx
      rcases List.mem_append.1 hx with hx | hx
      · exact hR x hx
      · rw [List.mem_singleton.1 hx]; exact e
    cases er
    · (refine Go.run (g:=?_))
      exact Go.again (i + 1) ⟨by omega, fin rfl⟩ (by omega) ⟨rfl, rfl, rfl, trivial⟩ rfl rfl
    · (refine Go.run (g:=?_))
      refine GoR.call rfl rfl rfl rfl rfl rfl rfl (((has_spec cs hcl ca ccap ec _ hy).args (by first | rfl | (simp; fail_if_success focus skip) | (simp; omega) | (congr 2; omega))).mono ?_)
      rintro _ h ⟨rfl, rfl⟩ -
      by_cases hin : ec ∈ cs
      · rw [show cs.contains ec = true from by simpa using hin]
        (refine Go.run (g:=?_))
        exact Go.again (i + 1) ⟨by omega, fin (by simpa using hin)⟩ (by omega) ⟨rfl, rfl, rfl, trivial⟩ rfl rfl
      · rw [show cs.contains ec = false from by simpa using hin]
        (refine Go.run (g:=?_))
        (first|refine Go.finT (by first|exact .inr rfl|exact .inl rfl) rfl ?_|refine Go.fin1 (by first|exact .inr rfl|exact .inl rfl) rfl (hq:=?_))
        have : l.any (fun x => x.2 && !cs.contains x.1) = true := List.any_eq_true.2 ⟨_, hmem, by simpa using hin⟩
        simp only [allP, hany, hdup, this, if_true]
        exact ⟨rfl, trivial⟩
  rw [List.take_of_length_le i0] at hR
  (refine Go.run (g:=?_))
  (first|refine Go.finT (by first|exact .inr rfl|exact .inl rfl) rfl ?_|refine Go.fin1 (by first|exact .inr rfl|exact .inl rfl) rfl (hq:=?_))
  have : l.any (fun x => x.2 && !cs.contains x.1) = false := by
    rw [List.any_eq_false]
    intro x hx
    rw [hR x hx]; decide
  simp only [allP, hany, hdup, this]
  exact ⟨rfl, trivial⟩
end Go.Proofs.Ytacfneokhmnkbaa

/- lanyardref29: Orders, Commits. No conditions. -/
namespace Go.Proofs.Ytacfneokhmnkbaa
set_option linter.unusedVariables false
set_option maxRecDepth 100000
attribute [local irreducible] Go GoR GoL
/-- Is one of an order ahead of one that stands in front of it? -/
def badPair (l : List HEv) : List Int → List Int → Bool
  | _, [] => false
  | p, c :: r => p.any (fun x => before l c x) || badPair l (p ++ [c]) r
def rordersP (l : List HEv) (o : List Int) : Nat := match check l with
  | some _ => 6
  | none => if allP l o ≠ 0 then allP l o else if badPair l [] o then 5 else 0
set_option maxHeartbeats 8000000 in
theorem rorders_spec (l : List HEv) (hl : l.length ≤ 1000000) (a : Option Addr) (cap : Nat) (cs : List Int) (hcl : cs.length ≤ 1000000) (ca : Option Addr) (ccap : Nat) (h : AHeap)
    (hz : Rv Try.prog h 2 a l.length cap (evs l)) (hy : Rv Try.prog h 1 ca cs.length ccap (ints cs)) : CallS Try.prog [] 41 [.slice a l.length cap, .slice ca cs.length ccap] h fun v h' => v = .int .i64 (rordersP l cs) := by
  (refine CallS.of2 Try.func41 rfl Try.ntmps41 Try.results41 rfl ?_)
  (refine Go.run (g:=?_))
  refine GoR.call rfl rfl rfl rfl rfl rfl rfl (((rcheck_spec l hl a cap _ hz).args (by first | rfl | (simp; fail_if_success focus skip) | (simp; omega) | (congr 2; omega))).mono ?_)
  rintro _ h ⟨rfl, rfl⟩ -
  unfold rordersP checkV
  cases hc : check l with
  | some n =>
    simp only
    (refine Go.run (g:=?_))
    (first|refine Go.finT (by first|exact .inr rfl|exact .inl rfl) rfl ?_|refine Go.fin1 (by first|exact .inr rfl|exact .inl rfl) rfl (hq:=?_))
    rfl
  | none =>
    simp only
    (refine Go.run (g:=?_))
    refine GoR.call rfl rfl rfl rfl rfl rfl rfl (((rall_spec l hl a cap cs hcl ca ccap _ hz hy).args (by first | rfl | (simp; fail_if_success focus skip) | (simp; omega) | (congr 2; omega))).mono ?_)
    rintro _ h ⟨rfl, rfl⟩ -
    by_cases hap : allP l cs = 0
    case neg =>
      have hap2 : ¬ ((allP l cs : Nat) : Int) = 0 := by omega
      (refine Go.run (g:=?_))
      (first|refine Go.finT (by first|exact .inr rfl|exact .inl rfl) rfl ?_|refine Go.fin1 (by first|exact .inr rfl|exact .inl rfl) rfl (hq:=?_))
      simp only [ne_eq, hap, not_false_eq_true, if_true]
      rfl
    simp only [hap, ne_eq, not_true_eq_false, if_false]
    (refine Go.run (g:=?_))
    refine Go.loop (α := Nat) (fun i => [(7, .int .i64 i), (0, .slice a l.length cap), (1, .slice ca cs.length ccap)]) (fun _ => []) (fun _ => h) (fun i => i ≤ cs.length ∧ badPair l [] cs = badPair l (cs.take i) (cs.drop i)) (fun i => cs.length - i) 0 ?_ ?_ rfl rfl ?_
    · exact ⟨Nat.zero_le _, rfl⟩
    · exact ⟨rfl, rfl, rfl, trivial⟩
    rintro i ⟨hi, hB⟩
    rcases Nat.lt_or_ge i cs.length with i0 | i0
    · have c0 := ints_get i0
      have tk := take_snoc i0
      rw [List.drop_eq_getElem_cons i0] at hB
      simp only [badPair] at hB
      rw [← tk] at hB
      clear tk
      generalize cs[i] = c at *
      (refine Go.run (g:=?_))
      refine Go.loop (α := Nat) (fun k => [(8, .int .i64 k), (7, .int .i64 i), (0, .slice a l.length cap), (1, .slice ca cs.length ccap)]) (fun _ => []) (fun _ => h) (fun k => k ≤ i ∧ ∀ x ∈ cs.take k, before l c x = false) (fun k => i - k) 0 ?_ ?_ rfl rfl ?_
      · exact ⟨Nat.zero_le _, fun x hx => by simp at hx⟩
      · exact ⟨rfl, rfl, rfl, rfl, trivial⟩
      rintro k ⟨hk, hN⟩
      rcases Nat.lt_or_ge k i with k0 | k0
      · have kl : k < cs.length := by omega
        have d0 := ints_get kl
        have tk := take_snoc kl
        have hmem : cs[k] ∈ cs.take i := by
          have e : cs[k] = (cs.take i)[k]'(by simp; omega) := by simp
          rw [e]; exact List.getElem_mem _
        generalize cs[k] = e at *
        (refine Go.run (g:=?_))
        refine GoR.call rfl rfl rfl rfl rfl rfl rfl (((rbefore_spec l hl a cap c e _ hz).args (by first | rfl | (simp; fail_if_success focus skip) | (simp; omega) | (congr 2; omega))).mono ?_)
        rintro _ h ⟨rfl, rfl⟩ -
        cases hb : before l c e
        · (refine Go.run (g:=?_))
          refine Go.again (k + 1) ⟨by omega, ?_⟩ (by omega) ⟨rfl, rfl, rfl, rfl, trivial⟩ rfl rfl
          rw [tk]
          intro x hx
          rcases List.mem_append.1 hx with hx | hx
          · exact hN x hx
          · rw [List.mem_singleton.1 hx]; exact hb
        · (refine Go.run (g:=?_))
          (first|refine Go.finT (by first|exact .inr rfl|exact .inl rfl) rfl ?_|refine Go.fin1 (by first|exact .inr rfl|exact .inl rfl) rfl (hq:=?_))
          have : (cs.take i).any (fun x => before l c x) = true := List.any_eq_true.2 ⟨e, hmem, hb⟩
          rw [hB, this]
          rfl
      · have hki : k = i := by omega
        subst hki
        (refine Go.run (g:=?_))
        have : (cs.take k).any (fun x => before l c x) = false := by
          rw [List.any_eq_false]
          intro x hx
          rw [hN x hx]; decide
        rw [this, Bool.false_or] at hB
        exact Go.again (k + 1) ⟨by omega, hB⟩ (by omega) ⟨rfl, rfl, rfl, trivial⟩ rfl rfl
    · rw [List.drop_eq_nil_of_le i0] at hB
      (refine Go.run (g:=?_))
      (first|refine Go.finT (by first|exact .inr rfl|exact .inl rfl) rfl ?_|refine Go.fin1 (by first|exact .inr rfl|exact .inl rfl) rfl (hq:=?_))
      rw [hB]
      rfl
set_option maxHeartbeats 8000000 in
theorem rcommits_spec (l : List HEv) (hl : l.length ≤ 1000000) (a : Option Addr) (cap : Nat) (cs : List (Int × Int)) (hcl : cs.length ≤ 1000000) (ca : Option Addr) (ccap : Nat) (h : AHeap)
    (hz : Rv Try.prog h 2 a l.length cap (evs l)) (hy : Rv Try.prog h 2 ca cs.length ccap (pts cs)) : CallS Try.prog [] 43 [.slice a l.length cap, .slice ca cs.length ccap] h fun v h' => v = .int .i64 (commitsP l cs) := by
  (refine CallS.of2 Try.func43 rfl Try.ntmps43 Try.results43 rfl ?_)
  (refine Go.run (g:=?_))
  refine Go.loop (α := Nat × Option Addr × Nat × AHeap) (fun x => [(6, .int .i64 x.1), (5, .slice x.2.1 x.1 x.2.2.1), (0, .slice a l.length cap), (1, .slice ca cs.length ccap)]) (fun _ => []) (fun x => x.2.2.2) (fun x => x.1 ≤ cs.length ∧ Same h x.2.2.2 ∧ Sv x.2.2.2 3 1 x.2.1 x.1 x.2.2.1 (ints ((cs.take x.1).map (·.1))) ∧ Own h.n x.2.1) (fun x => cs.length - x.1) (0, none, 0, h) ?_ ?_ rfl rfl ?_
  · exact ⟨Nat.zero_le _, Same.refl _, .nil, Own.nil _⟩
  · exact ⟨rfl, rfl, rfl, rfl, trivial⟩
  rintro ⟨i, b, c, h2⟩ ⟨hi, s2, hb, ob⟩
  simp only at hi s2 hb ob ⊢
  have m2 := s2.1
  have hy2 := hy.same s2
  rcases Nat.lt_or_ge i cs.length with i0 | i0
  · have c0 := pts_0 i0
    have hbe : i * 2 < (pts cs).length := by rw [pts_len]; omega
    have e1 := map_snoc (·.1) i0
    generalize cs[i].1 = ec at *
    (refine Go.run (g:=?_))
    refine GoR.buildRo (c := [.int .i64 ec]) rfl rfl rfl rfl rfl (by decide) (by rfl) (by rfl) ?_
    intro b8 h8 hb8 rb8 ob8 s8 n8
    refine GoR.appendV rfl rfl rfl rfl rfl rfl (hb.same s8) hb8 (Own.ok ob (by omega)) (by omega) (by omega) (by rfl) ?_
    intro b9 c9 h9 hs9 k9 o9
    have m9 := k9.1
    have hs9' : Sv h9 3 1 b9 (i + 1) c9 (ints ((cs.take (i + 1)).map (·.1))) := by rw [e1, ints_snoc]; exact hs9
    (refine Go.run (g:=?_))
    refine Go.again (i + 1, b9, c9, h9) ⟨by simp only; omega, ?_, hs9', ?_⟩ (by simp only; omega) ⟨rfl, rfl, rfl, rfl, trivial⟩ rfl rfl
    · exact (s2.trans s8).ownO k9 ob (Nat.le_refl _)
    · intro j hj
      rcases o9 j hj with x | x
      · exact ob j x
      · omega
  have hie : i = cs.length := by omega
  subst hie
  rw [List.take_of_length_le (Nat.le_refl _)] at hb
  have hz2 := hz.same s2
  (refine Go.run (g:=?_))
  refine GoR.call rfl rfl rfl rfl rfl rfl rfl (((rcheck_spec l hl a cap _ hz2).args (by first | rfl | (simp; fail_if_success focus skip) | (simp; omega) | (congr 2; omega))).mono ?_)
  rintro _ h2 ⟨rfl, rfl⟩ -
  unfold commitsP checkV
  cases hc : check l with
  | some n =>
    simp only
    (refine Go.run (g:=?_))
    (first|refine Go.finT (by first|exact .inr rfl|exact .inl rfl) rfl ?_|refine Go.fin1 (by first|exact .inr rfl|exact .inl rfl) rfl (hq:=?_))
    rfl
  | none =>
    simp only
    (refine Go.run (g:=?_))
    refine GoR.call rfl rfl rfl rfl rfl rfl rfl (((rall_spec l hl a cap (cs.map (·.1)) (by rw [List.length_map]; exact hcl) b c _ hz2 (by rw [List.length_map]; exact Sv.rv hb)).args (by first | rfl | (simp; fail_if_success focus skip) | (simp; omega) | (congr 2; omega))).mono ?_)
    rintro _ h2 ⟨rfl, rfl⟩ -
    by_cases hap : allP l (cs.map (·.1)) = 0
    case neg =>
      have hap2 : ¬ ((allP l (cs.map (·.1)) : Nat) : Int) = 0 := by omega
      (refine Go.run (g:=?_))
      (first|refine Go.finT (by first|exact .inr rfl|exact .inl rfl) rfl ?_|refine Go.fin1 (by first|exact .inr rfl|exact .inl rfl) rfl (hq:=?_))
      simp only [ne_eq, hap, not_false_eq_true, if_true]
      rfl
    simp only [hap, ne_eq, not_true_eq_false, if_false]
    have hmem := allP_mem hap
    have hle := hz2.le
    clear hb i0 hi
    (refine Go.run (g:=?_))
    refine Go.loop (α := Nat × Int) (fun x => [(9, .int .i64 x.1), (0, .slice a l.length cap), (1, .slice ca cs.length ccap)]) (fun _ => []) (fun _ => h2) (fun x => x.1 ≤ cs.length ∧ 0 ≤ x.2 ∧ (x.1 = 0 → x.2 = 0) ∧ (0 < x.1 → (pts cs)[(x.1 - 1) * 2 + 1]? = some (.int .i64 x.2)) ∧ comGo l cs 0 = comGo l (cs.drop x.1) x.2) (fun x => cs.length - x.1) (0, 0) ?_ ?_ rfl rfl ?_
    · exact ⟨Nat.zero_le _, Int.le_refl _, fun _ => rfl, fun x => absurd x (by decide), rfl⟩
    · exact ⟨rfl, rfl, rfl, trivial⟩
    rintro ⟨i, last⟩ ⟨hi, hl0, hl1, hl2, hco⟩
    simp only at hi hl0 hl1 hl2 hco ⊢
    rcases Nat.lt_or_ge i cs.length with i0 | i0
    · have c0 := pts_0 i0
      have c1 := pts_1 i0
      have hbe : i * 2 < (pts cs).length := by rw [pts_len]; omega
      have hbe2 : (i - 1) * 2 < (pts cs).length := by rw [pts_len]; omega
      have hme := hmem _ (List.mem_map_of_mem (List.getElem_mem i0))
      rw [List.drop_eq_getElem_cons i0] at hco
      simp only [comGo] at hco
      generalize cs[i].1 = ec at *
      generalize cs[i].2 = ea at *
      obtain ⟨u, hu⟩ := Option.isSome_iff_exists.1 hme
      have hsp : spanOf l.length l ec = some (u, (fd l ec true).getD (l.length + 1)) := by rw [spanOf, hu]; rfl
      simp only [hsp, Option.getD_some] at hco
      have bad : (ea < last ∨ ea ≤ (u : Int) ∨ (((fd l ec true).getD (l.length + 1) : Nat) : Int) < ea ∨ (l.length : Int) < ea) → comGo l cs 0 = false := fun hh => by rw [hco, if_pos hh]
      by_cases q0 : ea < 0
      · (refine Go.run (g:=?_))
        (first|refine Go.finT (by first|exact .inr rfl|exact .inl rfl) rfl ?_|refine Go.fin1 (by first|exact .inr rfl|exact .inl rfl) rfl (hq:=?_))
        rw [bad (.inl (by omega))]; rfl
      by_cases q4 : (l.length : Int) < ea
      · (refine Go.run (g:=?_))
        (first|refine Go.finT (by first|exact .inr rfl|exact .inl rfl) rfl ?_|refine Go.fin1 (by first|exact .inr rfl|exact .inl rfl) rfl (hq:=?_))
        rw [bad (.inr (.inr (.inr q4)))]; rfl
      obtain ⟨n, rfl⟩ : ∃ n : Nat, ea = n := ⟨ea.toNat, by omega⟩
      have hn : n ≤ l.length := by omega
      have htl : (l.take n).length = n := by simp; omega
      have f1 : fd (l.take n) ec false = if u < n then some u else none := by rw [fd_take, hu]
      have f2 := fd_take l n ec true
      by_cases q1 : (n : Int) < last
      · have ip : 0 < i := by
          rcases Nat.eq_zero_or_pos i with x | x
          · have := hl1 x; omega
          · exact x
        have p1 := hl2 ip
        (refine Go.run (g:=?_))
        (first|refine Go.finT (by first|exact .inr rfl|exact .inl rfl) rfl ?_|refine Go.fin1 (by first|exact .inr rfl|exact .inl rfl) rfl (hq:=?_))
        rw [bad (.inl q1)]; rfl
      have next : ¬ (n : Int) ≤ u → ¬ (((fd l ec true).getD (l.length + 1) : Nat) : Int) < n → comGo l cs 0 = comGo l (cs.drop (i + 1)) n := fun x y => by rw [hco, if_neg (by omega)]
      have nx2 : (pts cs)[(i + 1 - 1) * 2 + 1]? = some (.int .i64 (n : Int)) := by simpa using c1
      clear hco
      rcases Nat.eq_zero_or_pos i with iz | ip
      case' inl => subst iz
      case' inr => have p1 := hl2 ip
      all_goals
        (refine Go.run (g:=?_))
        refine GoR.cHi (r := n) rfl rfl rfl rfl rfl rfl hz2 hn ?_
        rintro a1 hz3 -
        rw [evs_take] at hz3
        have hz3' : Rv Try.prog h2 2 a1 (l.take n).length cap (evs (l.take n)) := by rw [htl]; exact hz3
        have hfind := find_spec (l.take n) (by omega) a1 cap ec false h2 hz3'
        rw [htl] at hfind
        (refine Go.run (g:=?_))
        refine GoR.call rfl rfl rfl rfl rfl rfl rfl (((hfind).args (by first | rfl | (simp; fail_if_success focus skip) | (simp; omega) | (congr 2; omega))).mono ?_)
        rintro _ h2 ⟨rfl, rfl⟩ -
        by_cases q2 : u < n
        · rw [if_pos q2] at f1
          rw [fdI_pos f1]
          (refine Go.run (g:=?_))
          refine GoR.cHi (r := n) rfl rfl rfl rfl rfl rfl hz2 hn ?_
          rintro a2 hz4 -
          rw [evs_take] at hz4
          have hz4' : Rv Try.prog h2 2 a2 (l.take n).length cap (evs (l.take n)) := by rw [htl]; exact hz4
          have hfind2 := find_spec (l.take n) (by omega) a2 cap ec true h2 hz4'
          rw [htl] at hfind2
          (refine Go.run (g:=?_))
          refine GoR.call rfl rfl rfl rfl rfl rfl rfl (((hfind2).args (by first | rfl | (simp; fail_if_success focus skip) | (simp; omega) | (congr 2; omega))).mono ?_)
          rintro _ h2 ⟨rfl, rfl⟩ -
          cases hq : fd l ec true with
          | none =>
            rw [hq] at f2 next
            simp only [Option.getD_none] at f2 next
            rw [fdI_neg f2]
            (refine Go.run (g:=?_))
            refine Go.again (_, (n : Int)) ⟨?_, by simp only; omega, ?_, fun _ => nx2, next (by omega) (by omega)⟩ (by simp only; omega) ⟨rfl, rfl, rfl, trivial⟩ rfl rfl
            · simp only; omega
            · simp only; omega
          | some t =>
            rw [hq] at f2 next bad
            simp only [Option.getD_some] at f2 next bad
            by_cases q3 : t < n
            · rw [if_pos q3] at f2
              rw [fdI_pos f2]
              (refine Go.run (g:=?_))
              (first|refine Go.finT (by first|exact .inr rfl|exact .inl rfl) rfl ?_|refine Go.fin1 (by first|exact .inr rfl|exact .inl rfl) rfl (hq:=?_))
              rw [bad (.inr (.inr (.inl (by omega))))]; rfl
            · rw [if_neg q3] at f2
              rw [fdI_neg f2]
              (refine Go.run (g:=?_))
              refine Go.again (_, (n : Int)) ⟨?_, by simp only; omega, ?_, fun _ => nx2, next (by omega) (by omega)⟩ (by simp only; omega) ⟨rfl, rfl, rfl, trivial⟩ rfl rfl
              · simp only; omega
              · simp only; omega
        · rw [if_neg q2] at f1
          rw [fdI_neg f1]
          (refine Go.run (g:=?_))
          (first|refine Go.finT (by first|exact .inr rfl|exact .inl rfl) rfl ?_|refine Go.fin1 (by first|exact .inr rfl|exact .inl rfl) rfl (hq:=?_))
          rw [bad (.inr (.inl (by omega)))]; rfl
    · rw [List.drop_eq_nil_of_le i0] at hco
      (refine Go.run (g:=?_))
      (first|refine Go.finT (by first|exact .inr rfl|exact .inl rfl) rfl ?_|refine Go.fin1 (by first|exact .inr rfl|exact .inl rfl) rfl (hq:=?_))
      rw [hco]; rfl
end Go.Proofs.Ytacfneokhmnkbaa

/- Histories: the plain laws. No conditions. -/
namespace Go.Proofs.Ytacfneokhmnkbaa
set_option linter.unusedVariables false
theorem span_of {l : List HEv} {c : Int} {u : Nat} (hu : fd l c false = some u) : (spanOf l.length l c).getD (0, 0) = (u, (fd l c true).getD (l.length + 1)) := by rw [spanOf, hu]; rfl
theorem HWf.span {l : List HEv} (hw : HWf l) {c : Int} {u : Nat} (hu : fd l c false = some u) : u < l.length ∧ u < (fd l c true).getD (l.length + 1) := by
  have h1 := (fd_lt hu).1
  refine ⟨h1, ?_⟩
  cases hq : fd l c true with
  | none => simp; omega
  | some t =>
    obtain ⟨i, h2, h3⟩ := hw.ret hq
    rw [hu] at h2; cases h2
    exact h3
theorem before_iff {l : List HEv} {c x : Int} {u j : Nat} (hu : fd l c false = some u) (hj : fd l x false = some j) : before l c x = decide ((fd l c true).getD (l.length + 1) ≤ j) := by
  have h1 := fd_lt hj
  cases hq : fd l c true with
  | none =>
    simp only [before, hq, Option.getD_none]
    have := h1.1
    symm
    simp; omega
  | some t =>
    have h2 := fd_lt hq
    have hne : t ≠ j := by
      rintro rfl
      have := h1.2.symm.trans h2.2
      cases this
    simp only [before, hq, hj, Option.getD_some]
    by_cases h : t < j
    · simp [h]; omega
    · simp [h]; omega
theorem place_bad {l : List HEv} (hw : HWf l) : ∀ (r p : List Int) (at_ : Nat), (∀ c ∈ p ++ r, (fd l c false).isSome = true) → (∀ t, t < at_ ↔ ∃ x ∈ p, t ≤ (fd l x false).getD 0) → ((place l r at_).isNone = badPair l p r)
  | [], p, at_, _, _ => rfl
  | c :: r, p, at_, hc, ha => by
    obtain ⟨u, hu⟩ := Option.isSome_iff_exists.1 (hc c (by simp))
    have hs := hw.span hu
    simp only [place, badPair, span_of hu]
    have hn : (fd l c true).getD (l.length + 1) < max at_ (u + 1) ↔ (fd l c true).getD (l.length + 1) < at_ := by omega
    have hb : (p.any fun x => before l c x) = decide ((fd l c true).getD (l.length + 1) < at_) := by
      rw [Bool.eq_iff_iff, List.any_eq_true, decide_eq_true_iff, ha]
      constructor
      · rintro ⟨x, hx, h⟩
        obtain ⟨j, hj⟩ := Option.isSome_iff_exists.1 (hc x (by simp [hx]))
        rw [before_iff hu hj] at h
        exact ⟨x, hx, by rw [hj]; simpa using h⟩
      · rintro ⟨x, hx, h⟩
        obtain ⟨j, hj⟩ := Option.isSome_iff_exists.1 (hc x (by simp [hx]))
        rw [hj] at h
        exact ⟨x, hx, by rw [before_iff hu hj]; simpa using h⟩
    rw [hb]
    by_cases ht : (fd l c true).getD (l.length + 1) < at_
    · rw [if_pos (hn.2 ht)]
      simp [ht]
    · rw [if_neg (fun x => ht (hn.1 x))]
      simp only [ht, decide_false, Bool.false_or, Option.isNone_map]
      refine place_bad hw r (p ++ [c]) _ (by simpa using hc) fun t => ?_
      constructor
      · intro h
        by_cases h2 : t < at_
        · obtain ⟨x, hx, h3⟩ := (ha t).1 h2
          exact ⟨x, by simp [hx], h3⟩
        · exact ⟨c, by simp, by rw [hu]; simp only [Option.getD_some]; omega⟩
      · rintro ⟨x, hx, h3⟩
        rcases List.mem_append.1 hx with hx | hx
        · have := (ha t).2 ⟨x, hx, h3⟩; omega
        · rw [List.mem_singleton.1 hx, hu] at h3
          simp only [Option.getD_some] at h3
          omega
theorem orders_eq (l : List HEv) (cs : List Int) : ordersP l cs = rordersP l cs := by
  unfold ordersP rordersP
  cases hc : check l with
  | some n => rfl
  | none =>
    simp only
    by_cases hap : allP l cs = 0
    · simp only [hap, ne_eq, not_true_eq_false, if_false]
      have := place_bad (check_wf hc) cs [] 0 (by simpa using allP_mem hap) (fun t => by simp)
      rw [← this]
      cases place l cs 0 <;> rfl
    · simp only [ne_eq, hap, not_false_eq_true, if_true]
def castP (ps : List (Int × Nat)) : List (Int × Int) := ps.map fun p => (p.1, (p.2 : Int))
theorem castP_fst (ps : List (Int × Nat)) : (castP ps).map (·.1) = ps.map (·.1) := by simp [castP]
theorem place_ok {l : List HEv} (hw : HWf l) : ∀ (r : List Int) (at_ : Nat) (ps : List (Int × Nat)), (∀ c ∈ r, (fd l c false).isSome = true) → at_ ≤ l.length → place l r at_ = some ps → ps.map (·.1) = r ∧ comGo l (castP ps) at_ = true
  | [], at_, ps, _, _, h => by simp only [place, Option.some.injEq] at h; subst h; exact ⟨rfl, rfl⟩
  | c :: r, at_, ps, hc, ha, h => by
    obtain ⟨u, hu⟩ := Option.isSome_iff_exists.1 (hc c (by simp))
    have hs := hw.span hu
    simp only [place, span_of hu] at h
    split at h
    · cases h
    · rename_i hn
      obtain ⟨qs, hq, rfl⟩ := Option.map_eq_some_iff.1 h
      obtain ⟨h1, h2⟩ := place_ok hw r _ qs (fun x hx => hc x (by simp [hx])) (by omega) hq
      refine ⟨by simp [h1], ?_⟩
      simp only [castP, List.map_cons, comGo, span_of hu]
      rw [if_neg (by omega)]
      exact h2
theorem place_early {l : List HEv} (hw : HWf l) : ∀ (r : List Int) (at_ : Nat) (ps : List (Int × Nat)) (i : Nat) (hi : i < ps.length), (∀ c ∈ r, (fd l c false).isSome = true) → place l r at_ = some ps → comGo l ((castP ps).set i (ps[i].1, (ps[i].2 : Int) - 1)) at_ = false
  | [], at_, ps, i, hi, _, h => by simp only [place, Option.some.injEq] at h; subst h; simp at hi
  | c :: r, at_, ps, i, hi, hc, h => by
    obtain ⟨u, hu⟩ := Option.isSome_iff_exists.1 (hc c (by simp))
    have hs := hw.span hu
    simp only [place, span_of hu] at h
    split at h
    · cases h
    · rename_i hn
      obtain ⟨qs, hq, rfl⟩ := Option.map_eq_some_iff.1 h
      cases i with
      | zero =>
        simp only [castP, List.map_cons, List.set_cons_zero, List.getElem_cons_zero, comGo, span_of hu]
        rw [if_pos (by omega)]
      | succ i =>
        have := place_early hw r _ qs i (by simpa using hi) (fun x hx => hc x (by simp [hx])) hq
        simp only [castP] at this
        simp only [castP, List.map_cons, List.set_cons_succ, List.getElem_cons_succ, comGo, span_of hu]
        split
        · rfl
        · exact this
theorem com_place {l : List HEv} (hw : HWf l) : ∀ (cs : List (Int × Int)) (last : Int) (at_ : Nat), (∀ c ∈ cs.map (·.1), (fd l c false).isSome = true) → (at_ : Int) ≤ last → comGo l cs last = true → place l (cs.map (·.1)) at_ ≠ none
  | [], last, at_, _, _, _ => by simp [place]
  | x :: cs, last, at_, hc, ha, h => by
    obtain ⟨u, hu⟩ := Option.isSome_iff_exists.1 (hc x.1 (by simp))
    simp only [comGo, span_of hu] at h
    split at h
    · cases h
    · rename_i hn
      simp only [List.map_cons, place, span_of hu]
      rw [if_neg (by omega)]
      have := com_place hw cs x.2 (max at_ (u + 1)) (fun y hy => hc y (by simp at hy ⊢; exact .inr hy)) (by omega) h
      intro e
      rw [Option.map_eq_none_iff] at e
      exact this e
theorem place_commits {l : List HEv} {cs : List Int} (h : ordersP l cs = 0) : (placeR l cs).map (·.1) = cs ∧ commitsP l (placeR l cs) = 0 ∧ ∀ i (hi : i < (placeR l cs).length), ((placeR l cs)[i]).1 = cs[i]! ∧ commitsP l ((placeR l cs).set i ((placeR l cs)[i].1, (placeR l cs)[i].2 - 1)) ≠ 0 := by
  have h0 := h
  unfold ordersP at h
  cases hc : check l with
  | some n => rw [hc] at h; cases h
  | none =>
    rw [hc] at h
    simp only at h
    split at h
    · rename_i hh; exact absurd h hh
    · rename_i hap
      have hap : allP l cs = 0 := by simpa using hap
      split at h
      · cases h
      · rename_i ps hp
        have hm := allP_mem hap
        obtain ⟨h1, h2⟩ := place_ok (check_wf hc) cs 0 ps hm (Nat.zero_le _) hp
        have e : placeR l cs = castP ps := by simp only [placeR, h0, if_true, hp, Option.getD_some, castP]
        have hf : (castP ps).map (·.1) = cs := by rw [castP_fst, h1]
        have hcom : commitsP l (castP ps) = 0 := by
          unfold commitsP
          rw [hc]
          simp only [hf, hap, ne_eq, not_true_eq_false, if_false]
          have : comGo l (castP ps) 0 = true := h2
          rw [this]; rfl
        simp only [e]
        refine ⟨hf, hcom, fun i hi => ⟨?_, ?_⟩⟩
        · have hi2 : i < cs.length := by rw [← hf]; simpa using hi
          have : ((castP ps).map (·.1))[i]'(by simpa using hi) = cs[i] := by simp only [hf]
          rw [List.getElem_map] at this
          rw [this]
          simp [hi2]
        · have hi2 : i < ps.length := by simpa [castP] using hi
          have h3 := place_early (check_wf hc) cs 0 ps i hi2 hm hp
          have e1 : (castP ps)[i] = (ps[i].1, (ps[i].2 : Int)) := by simp [castP]
          have e2 : ((castP ps).set i ((castP ps)[i].1, (castP ps)[i].2 - 1)).map (·.1) = cs := by
            rw [List.map_set, ← hf]
            have : (castP ps)[i].1 = ((castP ps).map (·.1))[i]'(by simpa using hi) := by simp
            rw [this]
            exact List.set_getElem_self _
          rw [e1] at e2 ⊢
          unfold commitsP
          rw [hc]
          simp only [e2, hap, ne_eq, not_true_eq_false, if_false]
          have : comGo l ((castP ps).set i (ps[i].1, (ps[i].2 : Int) - 1)) 0 = false := h3
          rw [this]; decide
theorem commits_orders {l : List HEv} {c : List (Int × Int)} (h : commitsP l c = 0) : ordersP l (c.map (·.1)) = 0 := by
  unfold commitsP at h
  unfold ordersP
  cases hc : check l with
  | some n => rw [hc] at h; cases h
  | none =>
    rw [hc] at h
    simp only at h ⊢
    split at h
    · rename_i hh; exact absurd h hh
    · rename_i hap
      rw [if_neg hap]
      have hap : allP l (c.map (·.1)) = 0 := by simpa using hap
      split at h
      · rename_i hg
        have := com_place (check_wf hc) c 0 0 (allP_mem hap) (Int.le_refl _) hg
        cases hq : place l (c.map (·.1)) 0 with
        | none => exact absurd hq this
        | some ps => rfl
      · cases h
theorem before_true {l : List HEv} {a b : Int} (h : beforeR l a b = true) : HWf l ∧ ∃ t j, fd l a true = some t ∧ fd l b false = some j ∧ t < j := by
  simp only [beforeR, Bool.and_eq_true, Option.isNone_iff_eq_none] at h
  obtain ⟨h1, h2⟩ := h
  refine ⟨check_wf h1, ?_⟩
  simp only [before] at h2
  split at h2
  · rename_i i j hi hj; exact ⟨i, j, hi, hj, by simpa using h2⟩
  · cases h2
theorem beforeR_of {l : List HEv} (hc : check l = none) {a b : Int} {t j : Nat} (h1 : fd l a true = some t) (h2 : fd l b false = some j) (h : t < j) : beforeR l a b = true := by
  simp [beforeR, hc, before, h1, h2, h]
theorem before_check {l : List HEv} {a b : Int} (h : beforeR l a b = true) : check l = none := by
  simp only [beforeR, Bool.and_eq_true, Option.isNone_iff_eq_none] at h
  exact h.1
theorem before_trans {l : List HEv} {a b c : Int} (h1 : beforeR l a b = true) (h2 : beforeR l b c = true) : beforeR l a c = true := by
  obtain ⟨hw, t, j, e1, e2, e3⟩ := before_true h1
  obtain ⟨-, t', j', f1, f2, f3⟩ := before_true h2
  obtain ⟨i, g1, g2⟩ := hw.ret f1
  rw [e2] at g1; cases g1
  exact beforeR_of (before_check h1) e1 f2 (by omega)
theorem before_asymm {l : List HEv} {a b : Int} (h1 : beforeR l a b = true) : beforeR l b a = false := by
  cases h2 : beforeR l b a with
  | false => rfl
  | true =>
    have h3 := before_trans h1 h2
    obtain ⟨hw, t, j, e1, e2, e3⟩ := before_true h3
    obtain ⟨i, g1, g2⟩ := hw.ret e1
    rw [e2] at g1; cases g1
    omega
theorem before_irrefl (l : List HEv) (a : Int) : beforeR l a a = false := by
  cases h : beforeR l a a with
  | false => rfl
  | true => exact (before_asymm h) ▸ h.symm ▸ rfl
theorem before_open {l : List HEv} {o x : Int} (h : o ∈ openR l) : beforeR l o x = false := by
  cases hb : beforeR l o x with
  | false => rfl
  | true =>
    obtain ⟨hw, t, j, e1, e2, e3⟩ := before_true hb
    unfold openR at h
    rw [if_pos (before_check hb)] at h
    obtain ⟨y, hy, rfl⟩ := List.mem_map.1 h
    have := (List.mem_filter.1 hy).2
    rw [e1] at this
    simp at this
end Go.Proofs.Ytacfneokhmnkbaa

/- lanyardlaw29: known, of, points, same. No conditions. -/
namespace Go.Proofs.Ytacfneokhmnkbaa
open Go.RowKit
set_option linter.unusedVariables false
set_option maxRecDepth 100000
attribute [local irreducible] Go GoR GoL
def asB : Value → AHeap → List Nat → Option Bool
  | .bool b, _, _ => some b
  | _, _, _ => none
theorem asB_true {v : Value} {h : AHeap} {wr : List Nat} (e : asB v h wr = some true) : v = .bool true := by
  unfold asB at e
  split at e
  · cases e; rfl
  · cases e
theorem known29Run : callK (A := Bool) Try.prog noS (fev Try.prog noS 5000) 31 [] emptyH asB = some true := by kernel_rfl
theorem known29 (h : AHeap) : CallS Try.prog [] 31 [] h fun u h' => u = .bool true ∧ h' = h := by
  obtain ⟨v, h', wr, hc, he⟩ := callRun_of (noS_ok _) known29Run
  obtain rfl := asB_true he
  exact CallS.known noGlobals hc rfl h
set_option maxHeartbeats 4000000 in
theorem of_spec (l : List HEv) (hl : l.length ≤ 1000000) (a : Option Addr) (cap : Nat) (h : AHeap) (hz : Rv Try.prog h 2 a l.length cap (evs l)) : CallS Try.prog [] 34 [.slice a l.length cap] h fun v h' => ∃ b c, v = .slice b l.length c ∧ Sv h' 129 2 b l.length c (evs l) ∧ Own h.n b := by
  (refine CallS.of1 Try.func34 rfl Try.ntmps34 Try.results34 rfl ?_)
  (refine Go.run (g:=?_))
  refine Go.loop (α := Nat × Option Addr × Nat × AHeap) (fun x => [(8, .int .i64 x.1), (7, .int .i64 l.length), (6, .slice a l.length cap), (3, .slice x.2.1 x.1 x.2.2.1)]) (fun _ => []) (fun x => x.2.2.2) (fun x => x.1 ≤ l.length ∧ Same h x.2.2.2 ∧ Sv x.2.2.2 129 2 x.2.1 x.1 x.2.2.1 (evs (l.take x.1)) ∧ Own h.n x.2.1) (fun x => l.length - x.1) (0, none, 0, h) ?_ ?_ rfl rfl ?_
  · exact ⟨Nat.zero_le _, Same.refl _, .nil, Own.nil _⟩
  · exact ⟨rfl, rfl, rfl, rfl, trivial⟩
  rintro ⟨i, b, c, h2⟩ ⟨hi, s2, hb, ob⟩
  simp only at hi s2 hb ob ⊢
  have m2 := s2.1
  have hz2 := hz.same s2
  rcases Nat.lt_or_ge i l.length with i0 | i0
  · have c0 := evs_get i0
    have hbe : i * 2 + 2 ≤ (evs l).length := by rw [evs_len]; omega
    have e1 : evs (l.take (i + 1)) = evs (l.take i) ++ [.int .i64 l[i].1, .bool l[i].2] := by rw [take_snoc i0, evs_snoc]; rfl
    generalize l[i].1 = ec at *
    generalize l[i].2 = er at *
    (refine Go.run (g:=?_))
    refine GoR.name ?_
    intro h3 e3
    have s3 : Same h2 h3 := by subst e3; exact ((Same.refl h2).push _).put (Nat.le_refl _) _
    have n3 : h3.n = h2.n + 1 := by subst e3; rfl
    clear e3
    refine GoR.buildRo (c := [.int .i64 ec, .bool er]) rfl rfl rfl rfl rfl (by decide) (by rfl) (by rfl) ?_
    intro b8 h8 hb8 rb8 ob8 s8 n8
    refine GoR.appendV rfl rfl rfl rfl rfl rfl ((hb.same s3).same s8) hb8 (Own.ok ob (by omega)) (by omega) (by omega) (by rfl) ?_
    intro b9 c9 h9 hs9 k9 o9
    have m9 := k9.1
    have hs9' : Sv h9 129 2 b9 (i + 1) c9 (evs (l.take (i + 1))) := by rw [e1]; exact hs9
    (refine Go.run (g:=?_))
    refine Go.again (i + 1, b9, c9, h9) ⟨by simp only; omega, ?_, hs9', ?_⟩ (by simp only; omega) ⟨rfl, rfl, rfl, rfl, trivial⟩ rfl rfl
    · exact ((s2.trans s3).trans s8).ownO k9 ob (Nat.le_refl _)
    · intro j hj
      rcases o9 j hj with x | x
      · exact ob j x
      · omega
  · have hie : i = l.length := by omega
    subst hie
    rw [List.take_of_length_le (Nat.le_refl _)] at hb
    (refine Go.run (g:=?_))
    (first|refine Go.finT (by first|exact .inr rfl|exact .inl rfl) rfl ?_|refine Go.fin1 (by first|exact .inr rfl|exact .inl rfl) rfl (hq:=?_))
    exact ⟨b, c, rfl, hb, ob⟩
set_option maxHeartbeats 4000000 in
theorem points_spec (l : List (Int × Int)) (hl : l.length ≤ 1000000) (a : Option Addr) (cap : Nat) (h : AHeap) (hz : Rv Try.prog h 2 a l.length cap (pts l)) : CallS Try.prog [] 44 [.slice a l.length cap] h fun v h' => ∃ b c, v = .slice b l.length c ∧ Sv h' 134 2 b l.length c (pts l) ∧ Own h.n b := by
  (refine CallS.of1 Try.func44 rfl Try.ntmps44 Try.results44 rfl ?_)
  (refine Go.run (g:=?_))
  refine Go.loop (α := Nat × Option Addr × Nat × AHeap) (fun x => [(8, .int .i64 x.1), (7, .int .i64 l.length), (6, .slice a l.length cap), (3, .slice x.2.1 x.1 x.2.2.1)]) (fun _ => []) (fun x => x.2.2.2) (fun x => x.1 ≤ l.length ∧ Same h x.2.2.2 ∧ Sv x.2.2.2 134 2 x.2.1 x.1 x.2.2.1 (pts (l.take x.1)) ∧ Own h.n x.2.1) (fun x => l.length - x.1) (0, none, 0, h) ?_ ?_ rfl rfl ?_
  · exact ⟨Nat.zero_le _, Same.refl _, .nil, Own.nil _⟩
  · exact ⟨rfl, rfl, rfl, rfl, trivial⟩
  rintro ⟨i, b, c, h2⟩ ⟨hi, s2, hb, ob⟩
  simp only at hi s2 hb ob ⊢
  have m2 := s2.1
  have hz2 := hz.same s2
  rcases Nat.lt_or_ge i l.length with i0 | i0
  · have c0 := pts_get i0
    have hbe : i * 2 + 2 ≤ (pts l).length := by rw [pts_len]; omega
    have e1 : pts (l.take (i + 1)) = pts (l.take i) ++ [.int .i64 l[i].1, .int .i64 l[i].2] := by rw [take_snoc i0, pts_snoc]; rfl
    generalize l[i].1 = ec at *
    generalize l[i].2 = er at *
    (refine Go.run (g:=?_))
    refine GoR.name ?_
    intro h3 e3
    have s3 : Same h2 h3 := by subst e3; exact ((Same.refl h2).push _).put (Nat.le_refl _) _
    have n3 : h3.n = h2.n + 1 := by subst e3; rfl
    clear e3
    refine GoR.buildRo (c := [.int .i64 ec, .int .i64 er]) rfl rfl rfl rfl rfl (by decide) (by rfl) (by rfl) ?_
    intro b8 h8 hb8 rb8 ob8 s8 n8
    refine GoR.appendV rfl rfl rfl rfl rfl rfl ((hb.same s3).same s8) hb8 (Own.ok ob (by omega)) (by omega) (by omega) (by rfl) ?_
    intro b9 c9 h9 hs9 k9 o9
    have m9 := k9.1
    have hs9' : Sv h9 134 2 b9 (i + 1) c9 (pts (l.take (i + 1))) := by rw [e1]; exact hs9
    (refine Go.run (g:=?_))
    refine Go.again (i + 1, b9, c9, h9) ⟨by simp only; omega, ?_, hs9', ?_⟩ (by simp only; omega) ⟨rfl, rfl, rfl, rfl, trivial⟩ rfl rfl
    · exact ((s2.trans s3).trans s8).ownO k9 ob (Nat.le_refl _)
    · intro j hj
      rcases o9 j hj with x | x
      · exact ob j x
      · omega
  · have hie : i = l.length := by omega
    subst hie
    rw [List.take_of_length_le (Nat.le_refl _)] at hb
    (refine Go.run (g:=?_))
    (first|refine Go.finT (by first|exact .inr rfl|exact .inl rfl) rfl ?_|refine Go.fin1 (by first|exact .inr rfl|exact .inl rfl) rfl (hq:=?_))
    exact ⟨b, c, rfl, hb, ob⟩
set_option maxHeartbeats 4000000 in
/-- Two lists that are one. -/
theorem same29_spec (l : List Int) (hl : l.length ≤ 1000000) (a : Option Addr) (cap : Nat) (a' : Option Addr) (cap' : Nat) (h : AHeap) (hz : Rv Try.prog h 1 a l.length cap (ints l)) (hz' : Rv Try.prog h 1 a' l.length cap' (ints l)) : CallS Try.prog [] 37 [.slice a l.length cap, .slice a' l.length cap'] h fun v h' => v = .bool true ∧ h' = h := by
  (refine CallS.of2 Try.func37 rfl Try.ntmps37 Try.results37 rfl ?_)
  (refine Go.run (g:=?_))
  refine Go.loop (α := Nat) (fun i => [(14, .int .i64 i), (13, .int .i64 l.length), (12, .slice a l.length cap), (1, .slice a' l.length cap')]) (fun _ => []) (fun _ => h) (fun i => i ≤ l.length) (fun i => l.length - i) 0 ?_ ?_ rfl rfl ?_
  · exact Nat.zero_le _
  · exact ⟨rfl, rfl, rfl, rfl, trivial⟩
  intro i hi
  rcases Nat.lt_or_ge i l.length with i0 | i0
  · have c0 := ints_get i0
    generalize l[i] = c at *
    (refine Go.run (g:=?_))
    exact Go.again (i + 1) (by omega) (by omega) ⟨rfl, rfl, rfl, rfl, trivial⟩ rfl rfl
  · (refine Go.run (g:=?_))
    (first|refine Go.finT (by first|exact .inr rfl|exact .inl rfl) rfl ?_|refine Go.fin1 (by first|exact .inr rfl|exact .inl rfl) rfl (hq:=?_))
    exact ⟨rfl, rfl⟩
end Go.Proofs.Ytacfneokhmnkbaa

/- HistPlaces, HistAhead on the abstract heap: they answer true. No conditions. -/
namespace Go.Proofs.Ytacfneokhmnkbaa
set_option linter.unusedVariables false
set_option maxRecDepth 100000
attribute [local irreducible] Go GoR GoL
theorem place_pos {l : List HEv} : ∀ (r : List Int) (at_ : Nat) (ps : List (Int × Nat)), at_ ≤ 1000001 → l.length ≤ 1000000 → place l r at_ = some ps → ∀ p ∈ ps, 1 ≤ p.2 ∧ p.2 ≤ 1000001
  | [], at_, ps, _, _, h => by simp only [place, Option.some.injEq] at h; subst h; intro p hp; cases hp
  | c :: r, at_, ps, ha, hl, h => by
    simp only [place] at h
    split at h
    · cases h
    · rename_i hn
      obtain ⟨qs, hq, rfl⟩ := Option.map_eq_some_iff.1 h
      have hb : ((spanOf l.length l c).getD (0, 0)).1 ≤ l.length := by
        rw [spanOf]
        cases hu : fd l c false with
        | none => simp
        | some u => have := (fd_lt hu).1; simp; omega
      intro p hp
      rcases List.mem_cons.1 hp with rfl | hp
      · simp only; omega
      · exact place_pos r _ qs (by omega) hl hq p hp
theorem placeR_pos {l : List HEv} (hl : l.length ≤ 1000000) {cs : List Int} {i : Nat} (hi : i < (placeR l cs).length) : ∃ k : Nat, (placeR l cs)[i].2 = (k : Int) ∧ 1 ≤ k ∧ k ≤ 1000001 := by
  have hm := List.getElem_mem hi
  generalize (placeR l cs)[i] = x at *
  unfold placeR at hm
  split at hm
  · obtain ⟨p, hp, rfl⟩ := List.mem_map.1 hm
    cases hq : place l cs 0 with
    | none => rw [hq] at hp; cases hp
    | some ps =>
      rw [hq] at hp
      have := place_pos cs 0 ps (by omega) hl hq p hp
      exact ⟨p.2, rfl, this.1, this.2⟩
  · cases hm
theorem pts_set {p : List (Int × Int)} {i : Nat} (hi : i < p.length) (x : Int) : setL (pts p) (i * 2 + 1) [.int .i64 x] = pts (p.set i (p[i].1, x)) := by
  induction p generalizing i with
  | nil => simp at hi
  | cons y p ih =>
    cases i with
    | zero => simp [pts, ptC, setL]
    | succ i =>
      have := ih (i := i) (by simpa using hi)
      simp only [pts, setL] at this
      have e : (i + 1) * 2 + 1 = (i * 2 + 1) + 2 := by omega
      simp only [pts, setL, List.map_cons, List.flatten_cons, ptC, List.cons_append, List.nil_append, e, List.take_succ_cons, List.set_cons_succ, List.getElem_cons_succ]
      simp only [List.length_singleton] at this ⊢
      rw [show i * 2 + 1 + 2 + 1 = (i * 2 + 1 + 1) + 2 from by omega]
      simp only [List.drop_succ_cons]
      rw [this]
theorem pts_one (p : List (Int × Int)) : (pts p).all Value.oneCell' = true := by
  induction p with
  | nil => rfl
  | cons y p ih =>
    simp only [pts] at ih
    simp only [pts, List.map_cons, List.flatten_cons, List.all_append, ih, ptC]
    rfl
set_option maxHeartbeats 16000000 in
theorem histPlaces_spec (l : List HEv) (a : Option Addr) (cap : Nat) (o : List Int) (oa : Option Addr) (ocap : Nat) (p : List (Int × Int)) (pa : Option Addr) (pcap : Nat) (h : AHeap) (hz : Rv Try.prog h 2 a l.length cap (evs l)) (ho : Rv Try.prog h 1 oa o.length ocap (ints o)) (hp : Rv Try.prog h 2 pa p.length pcap (pts p)) : CallS Try.prog [] 8 [.slice a l.length cap, .slice oa o.length ocap, .slice pa p.length pcap] h fun v h' => v = .bool true := by
  (refine CallS.of3 Try.func8 rfl Try.ntmps8 Try.results8 rfl ?_)
  (refine Go.run (g:=?_))
  refine GoR.call rfl rfl rfl rfl rfl rfl rfl (((known29 _).args (by first | rfl | (simp; fail_if_success focus skip) | (simp; omega) | (congr 2; omega))).mono ?_)
  rintro _ h ⟨rfl, rfl⟩ -
  by_cases c1 : 100 < l.length
  · (refine Go.run (g:=?_))
    (first|refine Go.finT (by first|exact .inr rfl|exact .inl rfl) rfl ?_|refine Go.fin1 (by first|exact .inr rfl|exact .inl rfl) rfl (hq:=?_))
    rfl
  by_cases c2 : 100 < o.length
  · (refine Go.run (g:=?_))
    (first|refine Go.finT (by first|exact .inr rfl|exact .inl rfl) rfl ?_|refine Go.fin1 (by first|exact .inr rfl|exact .inl rfl) rfl (hq:=?_))
    rfl
  by_cases c3 : 100 < p.length
  · (refine Go.run (g:=?_))
    (first|refine Go.finT (by first|exact .inr rfl|exact .inl rfl) rfl ?_|refine Go.fin1 (by first|exact .inr rfl|exact .inl rfl) rfl (hq:=?_))
    rfl
  have hl : l.length ≤ 1000000 := by omega
  have hol : o.length ≤ 1000000 := by omega
  have hpl : p.length ≤ 1000000 := by omega
  (refine Go.run (g:=?_))
  refine GoR.call rfl rfl rfl rfl rfl rfl rfl (((place_spec l hl a cap o hol oa ocap _ hz ho).args (by first | rfl | (simp; fail_if_success focus skip) | (simp; omega) | (congr 2; omega))).mono ?_)
  rintro _ h1 ⟨b, c, rfl, hb, ob⟩ s1
  have hz1 := hz.same s1
  have ho1 := ho.same s1
  have hp1 := hp.same s1
  (refine Go.run (g:=?_))
  refine GoR.call rfl rfl rfl rfl rfl rfl rfl (((horders_spec l hl a cap o hol oa ocap _ hz1 ho1).args (by first | rfl | (simp; fail_if_success focus skip) | (simp; omega) | (congr 2; omega))).mono ?_)
  rintro _ h2 rfl s2
  have hz2 := hz1.same s2
  have ho2 := ho1.same s2
  have hp2 := hp1.same s2
  have hb2 := hb.same s2
  have m1 := s1.1
  have m2 := s2.1
  by_cases he : ordersP l o = 0
  case' neg =>
    have hP : placeR l o = [] := by rw [placeR, if_neg he]
    have hei : ¬ ((ordersP l o : Nat) : Int) = 0 := by omega
    rw [hP]
    generalize ordersP l o = eo at *
    have hzT := hz2
    have hpT := hp2
    have nT : h.n ≤ h2.n := by omega
    (refine Go.run (g:=?_))
  case' pos =>
    obtain ⟨q1, q2, q3⟩ := place_commits he
    have hpos := fun i (hi : i < (placeR l o).length) => placeR_pos hl hi
    have hPl : (placeR l o).length = o.length := by rw [← List.length_map (f := (·.1)), q1]
    rw [he]
    generalize placeR l o = P at *
    (refine Go.run (g:=?_))
    refine GoR.call rfl rfl rfl rfl rfl rfl rfl (((hcommits_spec l hl a cap P (by omega) b c _ hz2 (Sv.rv hb2)).args (by first | rfl | (simp; fail_if_success focus skip) | (simp; omega) | (congr 2; omega))).mono ?_)
    rw [q2]
    rintro _ h3 rfl s3
    have m3 := s3.1
    have hz3 := hz2.same s3
    have ho3 := ho2.same s3
    have hp3 := hp2.same s3
    have hb3 := hb2.same s3
    (refine Go.run (g:=?_))
    refine Go.loop (α := Nat × AHeap) (fun x => [(65, .int .i64 x.1), (64, .int .i64 P.length), (63, .slice b P.length c), (7, .slice b P.length c), (0, .slice a l.length cap), (1, .slice oa o.length ocap), (2, .slice pa p.length pcap)]) (fun _ => []) (fun x => x.2) (fun x => x.1 ≤ P.length ∧ Same h3 x.2) (fun x => P.length - x.1) (0, h3) ?_ ?_ rfl rfl ?_
    · exact ⟨Nat.zero_le _, Same.refl _⟩
    · exact ⟨rfl, rfl, rfl, rfl, rfl, rfl, rfl, trivial⟩
    rintro ⟨i, h4⟩ ⟨hi, s4⟩
    simp only at hi s4 ⊢
    have m4 := s4.1
    have hz4 := hz3.same s4
    have ho4 := ho3.same s4
    have hb4 := hb3.same s4
    rcases Nat.lt_or_ge i P.length with i0 | i0
    case inl =>
      have hbR : Rv Try.prog h4 2 b P.length c (pts P) := Sv.rv hb4
      have c0 := pts_get i0
      have cc := pts_1 i0
      have hbe : i * 2 + 2 ≤ (pts P).length := by rw [pts_len]; omega
      have hbe2 : i * 2 < (pts P).length := by omega
      have io : i < o.length := by omega
      have d0 := ints_get io
      have hoi : o[i] = P[i].1 := by
        have e : (P.map (·.1))[i]'(by simpa using i0) = o[i] := by simp only [q1]
        rw [← e, List.getElem_map]
      obtain ⟨k, hk, k1, k2⟩ := hpos i i0
      have hne := (q3 i i0).2
      have hset : setL (pts P) (i * 2 + 1) [.int .i64 (k - 1 : Nat)] = pts (P.set i (P[i].1, P[i].2 - 1)) := by
        rw [pts_set i0, hk]
        congr 3
        omega
      have hPl' : (P.set i (P[i].1, P[i].2 - 1)).length = P.length := List.length_set
      rw [hoi] at d0
      rw [hk] at c0 cc
      generalize P.set i (P[i].1, P[i].2 - 1) = P' at *
      generalize P[i].1 = ec at *
      (refine Go.run (g:=?_))
      refine GoR.name ?_
      intro h5 e5
      have s5 : Same h4 h5 := by subst e5; exact ((Same.refl h4).push _).put (Nat.le_refl _) _
      have n5 : h5.n = h4.n + 1 := by subst e5; rfl
      clear e5
      refine GoR.buildO (c := []) rfl rfl rfl rfl rfl (by decide) (by rfl) (by rfl) ?_
      intro b6 h6 hb6 ob6 s6 n6
      (refine Go.run (g:=?_))
      refine GoR.appendV rfl rfl rfl rfl rfl rfl hb6 ((hbR.same s5).same s6) (Own.ok ob6 (by omega)) (by omega) (by omega) (pts_one _) ?_
      intro b7 c7 h7 hb7 k7 o7
      have m7 := k7.1
      simp only [Nat.zero_add, List.nil_append] at hb7 ⊢
      have s57 : Same h5 h7 := s6.ownO k7 ob6 (Nat.le_refl _)
      have ob7 : Own h5.n b7 := fun j hj => (o7 j hj).elim (ob6 j) (fun x => by omega)
      (refine Go.run (g:=?_))
      refine GoR.storeV (l := [.int .i64 (k - 1 : Nat)]) (n := 1) rfl rfl rfl rfl rfl rfl rfl rfl (by decide) hb7 (by omega) (Own.ok ob7 (by omega)) ?_
      intro h8 hb8 k8 n8
      rw [hset] at hb8
      have s58 : Same h5 h8 := s57.ownO k8 ob7 (Nat.le_refl _)
      rw [← hPl'] at hb8
      have hcs := hcommits_spec l hl a cap P' (by omega) b7 c7 h8 ((hz4.same s5).same s58) (Sv.rv hb8)
      rw [hPl'] at hcs
      (refine Go.run (g:=?_))
      refine GoR.call rfl rfl rfl rfl rfl rfl rfl (((hcs).args (by first | rfl | (simp; fail_if_success focus skip) | (simp; omega) | (congr 2; omega))).mono ?_)
      rintro _ h9 rfl s9
      have hne' : ¬ ((commitsP l P' : Nat) : Int) = 0 := by omega
      generalize commitsP l P' = e' at *
      (refine Go.run (g:=?_))
      exact Go.again (i + 1, h9) ⟨by simp only; omega, ((s4.trans s5).trans s58).trans s9⟩ (by simp only; omega) ⟨rfl, rfl, rfl, rfl, rfl, rfl, rfl, trivial⟩ rfl rfl
    case' inr =>
      have hzT := hz4
      have hpT := hp3.same s4
      have nT : h.n ≤ h4.n := by omega
      (refine Go.run (g:=?_))
  all_goals
    refine GoR.call rfl rfl rfl rfl rfl rfl rfl (((hcommits_spec l hl a cap p hpl pa pcap _ hzT hpT).args (by first | rfl | (simp; fail_if_success focus skip) | (simp; omega) | (congr 2; omega))).mono ?_)
    rintro _ h10 rfl s10
    have m10 := s10.1
    have hz10 := hzT.same s10
    have hp10 := hpT.same s10
    by_cases hcm : commitsP l p = 0
    case neg =>
      have hcm' : ¬ ((commitsP l p : Nat) : Int) = 0 := by omega
      (refine Go.run (g:=?_))
      (first|refine Go.finT (by first|exact .inr rfl|exact .inl rfl) rfl ?_|refine Go.fin1 (by first|exact .inr rfl|exact .inl rfl) rfl (hq:=?_))
      rfl
    have hor := commits_orders hcm
    rw [hcm]
    (refine Go.run (g:=?_))
    refine Go.loop (α := Nat × Option Addr × Nat × AHeap) (fun x => [(99, .int .i64 x.1), (98, .int .i64 p.length), (97, .slice pa p.length pcap), (12, .slice x.2.1 x.1 x.2.2.1), (0, .slice a l.length cap)]) (fun _ => []) (fun x => x.2.2.2) (fun x => x.1 ≤ p.length ∧ Same h10 x.2.2.2 ∧ Sv x.2.2.2 3 1 x.2.1 x.1 x.2.2.1 (ints ((p.take x.1).map (·.1))) ∧ Own h10.n x.2.1) (fun x => p.length - x.1) (0, none, 0, h10) ?_ ?_ rfl rfl ?_
    · exact ⟨Nat.zero_le _, Same.refl _, .nil, Own.nil _⟩
    · exact ⟨rfl, rfl, rfl, rfl, rfl, trivial⟩
    rintro ⟨j, b11, c11, h11⟩ ⟨hj, s11, hb11, ob11⟩
    simp only at hj s11 hb11 ob11 ⊢
    have m11 := s11.1
    have hp11 := hp10.same s11
    rcases Nat.lt_or_ge j p.length with j0 | j0
    · have f0 := pts_get j0
      have fbe : j * 2 + 2 ≤ (pts p).length := by rw [pts_len]; omega
      have e1 := map_snoc (·.1) j0
      generalize p[j].1 = fc at *
      generalize p[j].2 = fa at *
      (refine Go.run (g:=?_))
      refine GoR.name ?_
      intro h12 e12
      have s12 : Same h11 h12 := by subst e12; exact ((Same.refl h11).push _).put (Nat.le_refl _) _
      have n12 : h12.n = h11.n + 1 := by subst e12; rfl
      clear e12
      refine GoR.buildRo (c := [.int .i64 fc]) rfl rfl rfl rfl rfl (by decide) (by rfl) (by rfl) ?_
      intro b13 h13 hb13 rb13 ob13 s13 n13
      refine GoR.appendV rfl rfl rfl rfl rfl rfl ((hb11.same s12).same s13) hb13 (Own.ok ob11 (by omega)) (by omega) (by omega) (by rfl) ?_
      intro b14 c14 h14 hs14 k14 o14
      have m14 := k14.1
      have hs14' : Sv h14 3 1 b14 (j + 1) c14 (ints ((p.take (j + 1)).map (·.1))) := by rw [e1, ints_snoc]; exact hs14
      (refine Go.run (g:=?_))
      refine Go.again (j + 1, b14, c14, h14) ⟨by simp only; omega, ?_, hs14', ?_⟩ (by simp only; omega) ⟨rfl, rfl, rfl, rfl, rfl, trivial⟩ rfl rfl
      · exact ((s11.trans s12).trans s13).ownO k14 ob11 (Nat.le_refl _)
      · intro q hq
        rcases o14 q hq with x | x
        · exact ob11 q x
        · omega
    · have hje : j = p.length := by omega
      subst hje
      rw [List.take_of_length_le (Nat.le_refl _)] at hb11
      have hb11' : Rv Try.prog h11 1 b11 (p.map (·.1)).length c11 (ints (p.map (·.1))) := by rw [List.length_map]; exact Sv.rv hb11
      have hos := horders_spec l hl a cap (p.map (·.1)) (by rw [List.length_map]; omega) b11 c11 h11 (hz10.same s11) hb11'
      rw [List.length_map] at hos
      (refine Go.run (g:=?_))
      refine GoR.call rfl rfl rfl rfl rfl rfl rfl (((hos).args (by first | rfl | (simp; fail_if_success focus skip) | (simp; omega) | (congr 2; omega))).mono ?_)
      rw [hor]
      rintro _ h15 rfl s15
      (refine Go.run (g:=?_))
      (first|refine Go.finT (by first|exact .inr rfl|exact .inl rfl) rfl ?_|refine Go.fin1 (by first|exact .inr rfl|exact .inl rfl) rfl (hq:=?_))
      rfl
set_option maxHeartbeats 8000000 in
theorem histAhead_spec (l : List HEv) (a : Option Addr) (cap : Nat) (x y z : Int) (h : AHeap) (hz : Rv Try.prog h 2 a l.length cap (evs l)) : CallS Try.prog [] 9 [.slice a l.length cap, .int .i64 x, .int .i64 y, .int .i64 z] h fun v h' => v = .bool true := by
  (refine CallS.of4 Try.func9 rfl Try.ntmps9 Try.results9 rfl ?_)
  (refine Go.run (g:=?_))
  refine GoR.call rfl rfl rfl rfl rfl rfl rfl (((known29 _).args (by first | rfl | (simp; fail_if_success focus skip) | (simp; omega) | (congr 2; omega))).mono ?_)
  rintro _ h ⟨rfl, rfl⟩ -
  by_cases c1 : 100 < l.length
  · (refine Go.run (g:=?_))
    (first|refine Go.finT (by first|exact .inr rfl|exact .inl rfl) rfl ?_|refine Go.fin1 (by first|exact .inr rfl|exact .inl rfl) rfl (hq:=?_))
    rfl
  have hl : l.length ≤ 1000000 := by omega
  (refine Go.run (g:=?_))
  refine GoR.call rfl rfl rfl rfl rfl rfl rfl (((hbefore_spec l hl a cap x y _ hz).args (by first | rfl | (simp; fail_if_success focus skip) | (simp; omega) | (congr 2; omega))).mono ?_)
  rintro _ h1 rfl s1
  have hz1 := hz.same s1
  (refine Go.run (g:=?_))
  refine GoR.call rfl rfl rfl rfl rfl rfl rfl (((hbefore_spec l hl a cap y z _ hz1).args (by first | rfl | (simp; fail_if_success focus skip) | (simp; omega) | (congr 2; omega))).mono ?_)
  rintro _ h2 rfl s2
  have hz2 := hz1.same s2
  have q3 := before_irrefl l x
  have q2 : beforeR l x y = true → beforeR l y x = false := before_asymm
  have q1 : beforeR l x y = true → beforeR l y z = true → beforeR l x z = true := before_trans
  have ol : (openR l).length ≤ 1000000 := by
    unfold openR
    split
    · simp only [openP, List.length_map]
      exact Nat.le_trans (List.length_filter_le _ _) hl
    · exact Nat.zero_le _
  have opn := fun (o w : Int) (ho : o ∈ openR l) => before_open (x := w) ho
  have m2 : h.n ≤ h2.n := Nat.le_trans s1.1 s2.1
  cases hxy : beforeR l x y
  case' false =>
    (refine Go.run (g:=?_))
    refine GoR.call rfl rfl rfl rfl rfl rfl rfl (((hbefore_spec l hl a cap x x _ hz2).args (by first | rfl | (simp; fail_if_success focus skip) | (simp; omega) | (congr 2; omega))).mono ?_)
    rw [q3]
    rintro _ h5 rfl s5
    have hz5 := hz2.same s5
    have m5 : h.n ≤ h5.n := Nat.le_trans m2 s5.1
    (refine Go.run (g:=?_))
  case' true =>
    have q2 := q2 hxy
    have q1 := q1 hxy
    cases hyz : beforeR l y z
    case' true =>
      have q1 := q1 hyz
      (refine Go.run (g:=?_))
      refine GoR.call rfl rfl rfl rfl rfl rfl rfl (((hbefore_spec l hl a cap x z _ hz2).args (by first | rfl | (simp; fail_if_success focus skip) | (simp; omega) | (congr 2; omega))).mono ?_)
      rw [q1]
      rintro _ h3 rfl s3
      have hz3 := hz2.same s3
      have m3 : h.n ≤ h3.n := Nat.le_trans m2 s3.1
      (refine Go.run (g:=?_))
    case' false =>
      have hz3 := hz2
      have m3 := m2
      (refine Go.run (g:=?_))
    all_goals
      refine GoR.call rfl rfl rfl rfl rfl rfl rfl (((hbefore_spec l hl a cap y x _ hz3).args (by first | rfl | (simp; fail_if_success focus skip) | (simp; omega) | (congr 2; omega))).mono ?_)
      rw [q2]
      rintro _ h4 rfl s4
      have hz4 := hz3.same s4
      (refine Go.run (g:=?_))
      refine GoR.call rfl rfl rfl rfl rfl rfl rfl (((hbefore_spec l hl a cap x x _ hz4).args (by first | rfl | (simp; fail_if_success focus skip) | (simp; omega) | (congr 2; omega))).mono ?_)
      rw [q3]
      rintro _ h5 rfl s5
      have hz5 := hz4.same s5
      have m5 : h.n ≤ h5.n := Nat.le_trans m3 (Nat.le_trans s4.1 s5.1)
      (refine Go.run (g:=?_))
  all_goals
    refine GoR.call rfl rfl rfl rfl rfl rfl rfl (((hopen_spec l hl a cap _ hz5).args (by first | rfl | (simp; fail_if_success focus skip) | (simp; omega) | (congr 2; omega))).mono ?_)
    generalize openR l = out at *
    rintro _ h6 ⟨b, c, rfl, hb, -⟩ s6
    have hz6 := hz5.same s6
    have m6 : h.n ≤ h6.n := Nat.le_trans m5 s6.1
    (refine Go.run (g:=?_))
    refine Go.loop (α := Nat × AHeap) (fun x_ => [(55, .int .i64 x_.1), (54, .int .i64 out.length), (53, .slice b out.length c), (0, .slice a l.length cap), (1, .int .i64 x), (2, .int .i64 y)]) (fun _ => []) (fun x => x.2) (fun x => x.1 ≤ out.length ∧ Same h6 x.2) (fun x => out.length - x.1) (0, h6) ?_ ?_ rfl rfl ?_
    · exact ⟨Nat.zero_le _, Same.refl _⟩
    · exact ⟨rfl, rfl, rfl, rfl, rfl, rfl, trivial⟩
    rintro ⟨i, h7⟩ ⟨hi, s7⟩
    simp only at hi s7 ⊢
    have hz7 := hz6.same s7
    have hb7 := hb.same s7
    have m7 := s7.1
    rcases Nat.lt_or_ge i out.length with i0 | i0
    · have c0 := ints_get i0
      have hmem := List.getElem_mem i0
      generalize out[i] = o at *
      (refine Go.run (g:=?_))
      refine GoR.call rfl rfl rfl rfl rfl rfl rfl (((hbefore_spec l hl a cap o x _ hz7).args (by first | rfl | (simp; fail_if_success focus skip) | (simp; omega) | (congr 2; omega))).mono ?_)
      rw [opn o x hmem]
      rintro _ h8 rfl s8
      have hz8 := hz7.same s8
      (refine Go.run (g:=?_))
      refine GoR.call rfl rfl rfl rfl rfl rfl rfl (((hbefore_spec l hl a cap o y _ hz8).args (by first | rfl | (simp; fail_if_success focus skip) | (simp; omega) | (congr 2; omega))).mono ?_)
      rw [opn o y hmem]
      rintro _ h9 rfl s9
      (refine Go.run (g:=?_))
      exact Go.again (i + 1, h9) ⟨by simp only; omega, (s7.trans s8).trans s9⟩ (by simp only; omega) ⟨rfl, rfl, rfl, rfl, rfl, rfl, trivial⟩ rfl rfl
    · (refine Go.run (g:=?_))
      (first|refine Go.finT (by first|exact .inr rfl|exact .inl rfl) rfl ?_|refine Go.fin1 (by first|exact .inr rfl|exact .inl rfl) rfl (hq:=?_))
      rfl
end Go.Proofs.Ytacfneokhmnkbaa

/- Histories, orders, points that come in. No conditions. -/
namespace Go.Proofs.Ytacfneokhmnkbaa
set_option linter.unusedVariables false
set_option maxRecDepth 100000
open Go.ChangeShapes Go.WideShapes Go.ChangeAt Go.RowKit
theorem intB : Try.prog.underlying 3 = some (.int .i64) := by kernel_rfl
theorem hevsB : Try.prog.underlying 58 = some (.slice 123) := by kernel_rfl
theorem hptsB : Try.prog.underlying 69 = some (.slice 80) := by kernel_rfl
theorem hintsB : Try.prog.underlying 27 = some (.slice 3) := by kernel_rfl
theorem plainEvs : plainB Try.prog 4 58 = true := by kernel_rfl
theorem plainPts : plainB Try.prog 4 69 = true := by kernel_rfl
theorem plainInts : plainB Try.prog 4 27 = true := by kernel_rfl
theorem ev_of {h : AHeap} {H : Type} {cs : List Value} {d : DataW H} (r : ARd Try.prog h 123 cs d) : ∃ x : HEv, cs = evC x := by
  obtain ⟨hl, hf⟩ := r.field Try.underlying123
  rw [show Try.prog.cellsOf 123 = 2 from by kernel_rfl] at hl
  match cs, hl with
  | [c0, c1], _ =>
    obtain ⟨d0, r0⟩ := hf 0 3 0 1 rfl (by kernel_rfl)
    obtain ⟨d1, r1⟩ := hf 1 4 1 1 rfl (by kernel_rfl)
    obtain ⟨n, e0, -⟩ := r0.int_inv intB
    obtain ⟨b, e1⟩ := r1.bool_inv boolU
    simp at e0 e1
    subst e0 e1
    exact ⟨(n, b), rfl⟩
theorem pt_of {h : AHeap} {H : Type} {cs : List Value} {d : DataW H} (r : ARd Try.prog h 80 cs d) : ∃ x : Int × Int, cs = ptC x := by
  obtain ⟨hl, hf⟩ := r.field Try.underlying80
  rw [show Try.prog.cellsOf 80 = 2 from by kernel_rfl] at hl
  match cs, hl with
  | [c0, c1], _ =>
    obtain ⟨d0, r0⟩ := hf 0 3 0 1 rfl (by kernel_rfl)
    obtain ⟨d1, r1⟩ := hf 1 3 1 1 rfl (by kernel_rfl)
    obtain ⟨n, e0, -⟩ := r0.int_inv intB
    obtain ⟨k, e1, -⟩ := r1.int_inv intB
    simp at e0 e1
    subst e0 e1
    exact ⟨(n, k), rfl⟩
theorem cells_of {α : Type} {f : α → List Value} {sz : Nat} : ∀ (len : Nat) (c : List Value), c.length = len * sz → (∀ i, i < len → ∃ x, (c.drop (i * sz)).take sz = f x) → ∃ l : List α, l.length = len ∧ c = (l.map f).flatten
  | 0, c, hl, _ => ⟨[], rfl, by simpa using hl⟩
  | n + 1, c, hl, each => by
    obtain ⟨x, e⟩ := each 0 (by omega)
    rw [Nat.zero_mul, List.drop_zero] at e
    obtain ⟨l, i1, i2⟩ := cells_of (f := f) (sz := sz) n (c.drop sz) (by rw [List.length_drop, hl, Nat.add_mul]; omega) fun i hi => by
      have := each (i + 1) (by omega)
      rwa [Nat.add_mul, Nat.one_mul, Nat.add_comm, ← List.drop_drop] at this
    exact ⟨x :: l, by simp [i1], by rw [List.map_cons, List.flatten_cons, ← e, ← i2, List.take_append_drop]⟩
section
variable {H : Type} {enc : TypeId × Value → H} {W : World} {m : Mp} {h : AHeap} {base : Nat} {v : Value} {d : DataW H} {ps : List MemPlace}
theorem imp_evs (o : Value.okWide Try.prog W .any base 58 v) (ht : DataW.Trod enc Try.prog W 0 (fun _ => true) true 58 v d ps) (I : Im Try.prog W m h) :
    ∃ m' h', Im Try.prog W m' h' ∧ m.le m' ∧ Same h h' ∧ ∃ (a : Option Addr) (cap : Nat) (l : List HEv), VRel m' (.slice a l.length cap) v ∧ Rv Try.prog h' 2 a l.length cap (evs l) := by
  obtain ⟨a0, l0, c0, rfl⟩ := okWide_slice hevsB o
  obtain ⟨m', h', cs, I', hm, hs, hA, hR, hl⟩ := imp_val plainEvs ht I
  obtain ⟨x, rfl, hv⟩ := vrel_one hA (by rw [hl]; kernel_rfl) rfl
  obtain ⟨a, len, cap, c, e, hz, -, hel⟩ := hR.slice_inv hevsB
  cases e
  rw [show Try.prog.cellsOf 123 = 2 from by kernel_rfl] at hz hel
  obtain ⟨l, rfl, rfl⟩ := cells_of (f := evC) len c hz.length fun i hi => let ⟨d', r⟩ := hel i hi; ev_of r
  exact ⟨m', h', I', hm, hs, a, cap, l, hv, hz⟩
theorem imp_pts (o : Value.okWide Try.prog W .any base 69 v) (ht : DataW.Trod enc Try.prog W 0 (fun _ => true) true 69 v d ps) (I : Im Try.prog W m h) :
    ∃ m' h', Im Try.prog W m' h' ∧ m.le m' ∧ Same h h' ∧ ∃ (a : Option Addr) (cap : Nat) (l : List (Int × Int)), VRel m' (.slice a l.length cap) v ∧ Rv Try.prog h' 2 a l.length cap (pts l) := by
  obtain ⟨a0, l0, c0, rfl⟩ := okWide_slice hptsB o
  obtain ⟨m', h', cs, I', hm, hs, hA, hR, hl⟩ := imp_val plainPts ht I
  obtain ⟨x, rfl, hv⟩ := vrel_one hA (by rw [hl]; kernel_rfl) rfl
  obtain ⟨a, len, cap, c, e, hz, -, hel⟩ := hR.slice_inv hptsB
  cases e
  rw [show Try.prog.cellsOf 80 = 2 from by kernel_rfl] at hz hel
  obtain ⟨l, rfl, rfl⟩ := cells_of (f := ptC) len c hz.length fun i hi => let ⟨d', r⟩ := hel i hi; pt_of r
  exact ⟨m', h', I', hm, hs, a, cap, l, hv, hz⟩
theorem imp_ints (o : Value.okWide Try.prog W .any base 27 v) (ht : DataW.Trod enc Try.prog W 0 (fun _ => true) true 27 v d ps) (I : Im Try.prog W m h) :
    ∃ m' h', Im Try.prog W m' h' ∧ m.le m' ∧ Same h h' ∧ ∃ (a : Option Addr) (cap : Nat) (l : List Int), VRel m' (.slice a l.length cap) v ∧ Rv Try.prog h' 1 a l.length cap (ints l) := by
  obtain ⟨a0, l0, c0, rfl⟩ := okWide_slice hintsB o
  obtain ⟨m', h', cs, I', hm, hs, hA, hR, hl⟩ := imp_val plainInts ht I
  obtain ⟨x, rfl, hv⟩ := vrel_one hA (by rw [hl]; kernel_rfl) rfl
  obtain ⟨a, len, cap, c, e, hz, -, hel⟩ := hR.slice_inv hintsB
  cases e
  rw [show Try.prog.cellsOf 3 = 1 from by kernel_rfl] at hz hel
  obtain ⟨l, rfl, rfl⟩ := cells_of (f := fun n : Int => [.int .i64 n]) len c hz.length fun i hi => by
    obtain ⟨d', r⟩ := hel i hi
    obtain ⟨n, e0, -⟩ := r.int_inv intB
    exact ⟨n, e0⟩
  refine ⟨m', h', I', hm, hs, a, cap, l, hv, ?_⟩
  have e : ints l = (l.map fun n : Int => [Value.int .i64 n]).flatten := by
    clear hz hel hv hA hR hl
    induction l with
    | nil => rfl
    | cons x l ih => simp only [ints, List.map_cons, List.flatten_cons, List.cons_append, List.nil_append] at ih ⊢; rw [ih]
  rw [e]; exact hz
end
end Go.Proofs.Ytacfneokhmnkbaa

/- HistPlaces: the walk: the law returns true and turns nothing that was there. -/
namespace Go.Proofs.Ytacfneokhmnkbaa
set_option linter.unusedVariables false
open Go.ChangeShapes Go.WideShapes Go.ChangeAt Go.RowKit
set_option maxRecDepth 100000
theorem histPlacesWalk {H : Type} {enc : TypeId × Value → H} {base : Nat} {d0 d1 d2 : DataW H} {p0 p1 p2 : List MemPlace} (v0 v1 v2 : Value) (W : World) (o0 : Value.okWide Try.prog W .any base 58 v0) (h0 : DataW.Trod enc Try.prog W 0 (fun _ => true) true 58 v0 d0 p0) (o1 : Value.okWide Try.prog W .any base 27 v1) (h1 : DataW.Trod enc Try.prog W 0 (fun _ => true) true 27 v1 d1 p1) (o2 : Value.okWide Try.prog W .any base 69 v2) (h2 : DataW.Trod enc Try.prog W 0 (fun _ => true) true 69 v2 d2 p2) : Calls Try.prog 8 #[v0, v1, v2] W fun e w' => e = .returned (.bool true) ∧ Below W.heap.size W w' := by
  obtain ⟨m, h, I, _, _, a, cap, l, hv, hz⟩ := imp_evs o0 h0 (Im.empty Try.prog W)
  obtain ⟨m1, h1', I1, hm1, s1, oa, ocap, ol, hv1, hz1⟩ := imp_ints o1 h1 I
  obtain ⟨m2, h2', I2, hm2, s2, pa, pcap, pl, hv2, hz2⟩ := imp_pts o2 h2 I1
  refine calls_imp noGlobals I2 rfl (histPlaces_spec l a cap ol oa ocap pl pa pcap h2' ((hz.same s1).same s2) (hz1.same s2) hz2) ?_
  exact ((ARel.single ((hv.mono hm1).mono hm2)).push (hv1.mono hm2)).push hv2
end Go.Proofs.Ytacfneokhmnkbaa
