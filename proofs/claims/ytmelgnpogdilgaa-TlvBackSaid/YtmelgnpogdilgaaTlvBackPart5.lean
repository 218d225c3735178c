/- What the law leans on, part 5. No conditions. -/
import Derived.Test.YtmelgnpogdilgaaProg
import Derived.KernelRfl
import Derived.Test.YtmelgnpogdilgaaChecked
import Derived.Test.YtmelgnpogdilgaaTlvBackPart4
/- What is known of the program's types. No conditions. -/
namespace Go.Proofs.Ytmelgnpogdilgaa
set_option linter.unusedVariables false
instance : CT Try.prog 0 none := ⟨by kernel_rfl⟩
instance : SZ Try.prog 0 1 := ⟨by kernel_rfl⟩
instance : CT Try.prog 1 none := ⟨by kernel_rfl⟩
instance : SZ Try.prog 1 1 := ⟨by kernel_rfl⟩
instance : AL Try.prog 1 [.nilFunc] := ⟨by kernel_rfl⟩
instance : CT Try.prog 2 none := ⟨by kernel_rfl⟩
instance : SZ Try.prog 2 1 := ⟨by kernel_rfl⟩
theorem un2 : Try.prog.underlying 2 = some (.int .i64) := by kernel_rfl
instance : AL Try.prog 2 [.int .i64 0] := ⟨by kernel_rfl⟩
instance : CT Try.prog 3 none := ⟨by kernel_rfl⟩
instance : SZ Try.prog 3 1 := ⟨by kernel_rfl⟩
theorem un3 : Try.prog.underlying 3 = some (.int .i64) := by kernel_rfl
instance : AL Try.prog 3 [.int .i64 0] := ⟨by kernel_rfl⟩
instance : CT Try.prog 4 none := ⟨by kernel_rfl⟩
instance : SZ Try.prog 4 1 := ⟨by kernel_rfl⟩
instance : AL Try.prog 4 [.bool false] := ⟨by kernel_rfl⟩
instance : CT Try.prog 5 none := ⟨by kernel_rfl⟩
instance : SZ Try.prog 5 1 := ⟨by kernel_rfl⟩
theorem un5 : Try.prog.underlying 5 = some (.int .u8) := by kernel_rfl
instance : AL Try.prog 5 [.int .u8 0] := ⟨by kernel_rfl⟩
instance : CT Try.prog 6 none := ⟨by kernel_rfl⟩
instance : SZ Try.prog 6 1 := ⟨by kernel_rfl⟩
theorem un6 : Try.prog.underlying 6 = some (.int .u8) := by kernel_rfl
instance : AL Try.prog 6 [.int .u8 0] := ⟨by kernel_rfl⟩
instance : CT Try.prog 7 (some 4) := ⟨by kernel_rfl⟩
instance : SZ Try.prog 7 4 := ⟨by kernel_rfl⟩
instance : FO Try.prog 7 0 0 := ⟨by kernel_rfl⟩
instance : FO Try.prog 7 1 1 := ⟨by kernel_rfl⟩
instance : FO Try.prog 7 2 2 := ⟨by kernel_rfl⟩
instance : FO Try.prog 7 3 3 := ⟨by kernel_rfl⟩
instance : ST Try.prog 7 [.int .i64 0, .int .i64 0, .bool false, .int .u8 0] [(0, 1), (1, 1), (2, 1), (3, 1)] := .of (z := .agg #[.int .i64 0, .int .i64 0, .bool false, .int .u8 0]) (fs := (match Try.prog.underlying 7 with | some (.struct fs) => fs | _ => #[])) (by kernel_rfl) (by kernel_rfl) (by kernel_rfl) (by kernel_rfl) (by kernel_rfl)
instance : AL Try.prog 7 [.int .i64 0, .int .i64 0, .bool false, .int .u8 0] := ⟨by kernel_rfl⟩
instance : CT Try.prog 8 (some 4) := ⟨by kernel_rfl⟩
instance : SZ Try.prog 8 4 := ⟨by kernel_rfl⟩
instance : FO Try.prog 8 0 0 := ⟨by kernel_rfl⟩
instance : FO Try.prog 8 1 1 := ⟨by kernel_rfl⟩
instance : FO Try.prog 8 2 2 := ⟨by kernel_rfl⟩
instance : FO Try.prog 8 3 3 := ⟨by kernel_rfl⟩
instance : ST Try.prog 8 [.int .i64 0, .int .i64 0, .bool false, .int .u8 0] [(0, 1), (1, 1), (2, 1), (3, 1)] := .of (z := .agg #[.int .i64 0, .int .i64 0, .bool false, .int .u8 0]) (fs := (match Try.prog.underlying 8 with | some (.struct fs) => fs | _ => #[])) (by kernel_rfl) (by kernel_rfl) (by kernel_rfl) (by kernel_rfl) (by kernel_rfl)
instance : AL Try.prog 8 [.int .i64 0, .int .i64 0, .bool false, .int .u8 0] := ⟨by kernel_rfl⟩
instance : CT Try.prog 9 none := ⟨by kernel_rfl⟩
instance : SZ Try.prog 9 1 := ⟨by kernel_rfl⟩
instance : UN Try.prog 9 .string := ⟨by kernel_rfl⟩
instance : AL Try.prog 9 [.string ⟨#[]⟩] := ⟨by kernel_rfl⟩
instance : CT Try.prog 10 none := ⟨by kernel_rfl⟩
instance : SZ Try.prog 10 1 := ⟨by kernel_rfl⟩
instance : UN Try.prog 10 .string := ⟨by kernel_rfl⟩
instance : AL Try.prog 10 [.string ⟨#[]⟩] := ⟨by kernel_rfl⟩
instance : CT Try.prog 11 none := ⟨by kernel_rfl⟩
instance : SZ Try.prog 11 1 := ⟨by kernel_rfl⟩
instance : UN Try.prog 11 .string := ⟨by kernel_rfl⟩
instance : AL Try.prog 11 [.string ⟨#[]⟩] := ⟨by kernel_rfl⟩
instance : CT Try.prog 12 none := ⟨by kernel_rfl⟩
instance : SZ Try.prog 12 1 := ⟨by kernel_rfl⟩
theorem un12 : Try.prog.underlying 12 = some (.int .u64) := by kernel_rfl
instance : AL Try.prog 12 [.int .u64 0] := ⟨by kernel_rfl⟩
instance : CT Try.prog 13 (some 2) := ⟨by kernel_rfl⟩
instance : SZ Try.prog 13 2 := ⟨by kernel_rfl⟩
instance : FO Try.prog 13 0 0 := ⟨by kernel_rfl⟩
instance : FO Try.prog 13 1 1 := ⟨by kernel_rfl⟩
instance : ST Try.prog 13 [.string ⟨#[]⟩, .int .u64 0] [(0, 1), (1, 1)] := .of (z := .agg #[.string ⟨#[]⟩, .int .u64 0]) (fs := (match Try.prog.underlying 13 with | some (.struct fs) => fs | _ => #[])) (by kernel_rfl) (by kernel_rfl) (by kernel_rfl) (by kernel_rfl) (by kernel_rfl)
instance : AL Try.prog 13 [.string ⟨#[]⟩, .int .u64 0] := ⟨by kernel_rfl⟩
instance : CT Try.prog 14 (some 2) := ⟨by kernel_rfl⟩
instance : SZ Try.prog 14 2 := ⟨by kernel_rfl⟩
instance : FO Try.prog 14 0 0 := ⟨by kernel_rfl⟩
instance : FO Try.prog 14 1 1 := ⟨by kernel_rfl⟩
instance : ST Try.prog 14 [.string ⟨#[]⟩, .int .u64 0] [(0, 1), (1, 1)] := .of (z := .agg #[.string ⟨#[]⟩, .int .u64 0]) (fs := (match Try.prog.underlying 14 with | some (.struct fs) => fs | _ => #[])) (by kernel_rfl) (by kernel_rfl) (by kernel_rfl) (by kernel_rfl) (by kernel_rfl)
instance : AL Try.prog 14 [.string ⟨#[]⟩, .int .u64 0] := ⟨by kernel_rfl⟩
instance : CT Try.prog 15 none := ⟨by kernel_rfl⟩
instance : SZ Try.prog 15 1 := ⟨by kernel_rfl⟩
instance : AL Try.prog 15 [.pointer none] := ⟨by kernel_rfl⟩
instance : CT Try.prog 16 none := ⟨by kernel_rfl⟩
instance : SZ Try.prog 16 1 := ⟨by kernel_rfl⟩
instance : AL Try.prog 16 [.pointer none] := ⟨by kernel_rfl⟩
instance : CT Try.prog 17 none := ⟨by kernel_rfl⟩
instance : SZ Try.prog 17 1 := ⟨by kernel_rfl⟩
instance : AL Try.prog 17 [.pointer none] := ⟨by kernel_rfl⟩
instance : CT Try.prog 18 (some 1) := ⟨by kernel_rfl⟩
instance : SZ Try.prog 18 1 := ⟨by kernel_rfl⟩
instance : FO Try.prog 18 0 0 := ⟨by kernel_rfl⟩
instance : ST Try.prog 18 [.pointer none] [(0, 1)] := .of (z := .agg #[.pointer none]) (fs := (match Try.prog.underlying 18 with | some (.struct fs) => fs | _ => #[])) (by kernel_rfl) (by kernel_rfl) (by kernel_rfl) (by kernel_rfl) (by kernel_rfl)
instance : AL Try.prog 18 [.pointer none] := ⟨by kernel_rfl⟩
instance : CT Try.prog 19 (some 1) := ⟨by kernel_rfl⟩
instance : SZ Try.prog 19 1 := ⟨by kernel_rfl⟩
instance : FO Try.prog 19 0 0 := ⟨by kernel_rfl⟩
instance : ST Try.prog 19 [.pointer none] [(0, 1)] := .of (z := .agg #[.pointer none]) (fs := (match Try.prog.underlying 19 with | some (.struct fs) => fs | _ => #[])) (by kernel_rfl) (by kernel_rfl) (by kernel_rfl) (by kernel_rfl) (by kernel_rfl)
instance : AL Try.prog 19 [.pointer none] := ⟨by kernel_rfl⟩
instance : CT Try.prog 20 none := ⟨by kernel_rfl⟩
instance : SZ Try.prog 20 1 := ⟨by kernel_rfl⟩
instance : AL Try.prog 20 [.nilIface] := ⟨by kernel_rfl⟩
instance : CT Try.prog 21 none := ⟨by kernel_rfl⟩
instance : SZ Try.prog 21 1 := ⟨by kernel_rfl⟩
theorem un21 : Try.prog.underlying 21 = some (.int .i32) := by kernel_rfl
instance : AL Try.prog 21 [.int .i32 0] := ⟨by kernel_rfl⟩
instance : CT Try.prog 22 none := ⟨by kernel_rfl⟩
instance : SZ Try.prog 22 1 := ⟨by kernel_rfl⟩
theorem un22 : Try.prog.underlying 22 = some (.int .u16) := by kernel_rfl
instance : AL Try.prog 22 [.int .u16 0] := ⟨by kernel_rfl⟩
instance : CT Try.prog 23 none := ⟨by kernel_rfl⟩
instance : SZ Try.prog 23 1 := ⟨by kernel_rfl⟩
instance : EL Try.prog 23 (none, 1) := ⟨by kernel_rfl⟩
instance : UN Try.prog 23 (.slice 5) := ⟨by kernel_rfl⟩
instance : BS Try.prog 23 5 1 (.int .u8 0) := .of (by kernel_rfl) (by kernel_rfl) (by kernel_rfl) (by kernel_rfl) (by kernel_rfl)
instance : MK Try.prog 23 5 1 (.int .u8 0) := .of (inf := Try.t5) (by kernel_rfl) (by kernel_rfl) (by kernel_rfl) (by kernel_rfl) (by kernel_rfl) (by kernel_rfl) (by kernel_rfl)
instance : AP Try.prog 23 23 5 1 1 := .of (inf := Try.t5) (z := .int .u8 0) (e₂ := 5) (by kernel_rfl) (by kernel_rfl) (by kernel_rfl) (by kernel_rfl) (by kernel_rfl) (by kernel_rfl) (by decide) (by kernel_rfl) (by kernel_rfl)
instance : AL Try.prog 23 [.slice none 0 0] := ⟨by kernel_rfl⟩
instance : CT Try.prog 24 (some 3) := ⟨by kernel_rfl⟩
instance : SZ Try.prog 24 3 := ⟨by kernel_rfl⟩
instance : FO Try.prog 24 0 0 := ⟨by kernel_rfl⟩
instance : FO Try.prog 24 1 1 := ⟨by kernel_rfl⟩
instance : FO Try.prog 24 2 2 := ⟨by kernel_rfl⟩
instance : ST Try.prog 24 [.int .u16 0, .int .u8 0, .slice none 0 0] [(0, 1), (1, 1), (2, 1)] := .of (z := .agg #[.int .u16 0, .int .u8 0, .slice none 0 0]) (fs := (match Try.prog.underlying 24 with | some (.struct fs) => fs | _ => #[])) (by kernel_rfl) (by kernel_rfl) (by kernel_rfl) (by kernel_rfl) (by kernel_rfl)
instance : AL Try.prog 24 [.int .u16 0, .int .u8 0, .slice none 0 0] := ⟨by kernel_rfl⟩
instance : CT Try.prog 25 (some 3) := ⟨by kernel_rfl⟩
instance : SZ Try.prog 25 3 := ⟨by kernel_rfl⟩
instance : FO Try.prog 25 0 0 := ⟨by kernel_rfl⟩
instance : FO Try.prog 25 1 1 := ⟨by kernel_rfl⟩
instance : FO Try.prog 25 2 2 := ⟨by kernel_rfl⟩
instance : ST Try.prog 25 [.int .u16 0, .int .u8 0, .slice none 0 0] [(0, 1), (1, 1), (2, 1)] := .of (z := .agg #[.int .u16 0, .int .u8 0, .slice none 0 0]) (fs := (match Try.prog.underlying 25 with | some (.struct fs) => fs | _ => #[])) (by kernel_rfl) (by kernel_rfl) (by kernel_rfl) (by kernel_rfl) (by kernel_rfl)
instance : AL Try.prog 25 [.int .u16 0, .int .u8 0, .slice none 0 0] := ⟨by kernel_rfl⟩
instance : CT Try.prog 26 none := ⟨by kernel_rfl⟩
instance : SZ Try.prog 26 1 := ⟨by kernel_rfl⟩
instance : AL Try.prog 26 [.nilFunc] := ⟨by kernel_rfl⟩
instance : CT Try.prog 27 none := ⟨by kernel_rfl⟩
instance : SZ Try.prog 27 1 := ⟨by kernel_rfl⟩
theorem un27 : Try.prog.underlying 27 = some (.int .i64) := by kernel_rfl
instance : AL Try.prog 27 [.int .i64 0] := ⟨by kernel_rfl⟩
instance : CT Try.prog 28 none := ⟨by kernel_rfl⟩
instance : SZ Try.prog 28 1 := ⟨by kernel_rfl⟩
instance : CT Try.prog 29 none := ⟨by kernel_rfl⟩
instance : SZ Try.prog 29 1 := ⟨by kernel_rfl⟩
instance : AL Try.prog 29 [.nilFunc] := ⟨by kernel_rfl⟩
instance : CT Try.prog 30 none := ⟨by kernel_rfl⟩
instance : SZ Try.prog 30 1 := ⟨by kernel_rfl⟩
instance : AL Try.prog 30 [.nilFunc] := ⟨by kernel_rfl⟩
instance : CT Try.prog 31 none := ⟨by kernel_rfl⟩
instance : SZ Try.prog 31 1 := ⟨by kernel_rfl⟩
instance : AL Try.prog 31 [.nilFunc] := ⟨by kernel_rfl⟩
instance : CT Try.prog 32 none := ⟨by kernel_rfl⟩
instance : SZ Try.prog 32 1 := ⟨by kernel_rfl⟩
instance : EL Try.prog 32 (none, 3) := ⟨by kernel_rfl⟩
instance : UN Try.prog 32 (.slice 25) := ⟨by kernel_rfl⟩
instance : BS Try.prog 32 25 3 (.agg #[.int .u16 0, .int .u8 0, .slice none 0 0]) := .of (by kernel_rfl) (by kernel_rfl) (by kernel_rfl) (by kernel_rfl) (by kernel_rfl)
instance : AP Try.prog 32 32 25 3 32 := .of (inf := Try.t25) (z := .agg #[.int .u16 0, .int .u8 0, .slice none 0 0]) (e₂ := 25) (by kernel_rfl) (by kernel_rfl) (by kernel_rfl) (by kernel_rfl) (by kernel_rfl) (by kernel_rfl) (by decide) (by kernel_rfl) (by kernel_rfl)
instance : AL Try.prog 32 [.slice none 0 0] := ⟨by kernel_rfl⟩
instance : CT Try.prog 33 none := ⟨by kernel_rfl⟩
instance : SZ Try.prog 33 1 := ⟨by kernel_rfl⟩
instance : CT Try.prog 34 none := ⟨by kernel_rfl⟩
instance : SZ Try.prog 34 1 := ⟨by kernel_rfl⟩
instance : AL Try.prog 34 [.nilFunc] := ⟨by kernel_rfl⟩
instance : CT Try.prog 35 none := ⟨by kernel_rfl⟩
instance : SZ Try.prog 35 1 := ⟨by kernel_rfl⟩
instance : AL Try.prog 35 [.nilFunc] := ⟨by kernel_rfl⟩
instance : CT Try.prog 36 none := ⟨by kernel_rfl⟩
instance : SZ Try.prog 36 1 := ⟨by kernel_rfl⟩
instance : AL Try.prog 36 [.nilFunc] := ⟨by kernel_rfl⟩
instance : CT Try.prog 37 none := ⟨by kernel_rfl⟩
instance : SZ Try.prog 37 1 := ⟨by kernel_rfl⟩
instance : AL Try.prog 37 [.nilFunc] := ⟨by kernel_rfl⟩
instance : CT Try.prog 38 none := ⟨by kernel_rfl⟩
instance : SZ Try.prog 38 1 := ⟨by kernel_rfl⟩
instance : AL Try.prog 38 [.nilFunc] := ⟨by kernel_rfl⟩
instance : CT Try.prog 39 none := ⟨by kernel_rfl⟩
instance : SZ Try.prog 39 1 := ⟨by kernel_rfl⟩
instance : CT Try.prog 40 none := ⟨by kernel_rfl⟩
instance : SZ Try.prog 40 1 := ⟨by kernel_rfl⟩
instance : AL Try.prog 40 [.nilFunc] := ⟨by kernel_rfl⟩
instance : CT Try.prog 41 none := ⟨by kernel_rfl⟩
instance : SZ Try.prog 41 1 := ⟨by kernel_rfl⟩
instance : AL Try.prog 41 [.nilFunc] := ⟨by kernel_rfl⟩
instance : CT Try.prog 42 none := ⟨by kernel_rfl⟩
instance : SZ Try.prog 42 1 := ⟨by kernel_rfl⟩
instance : AL Try.prog 42 [.nilFunc] := ⟨by kernel_rfl⟩
instance : CT Try.prog 43 none := ⟨by kernel_rfl⟩
instance : SZ Try.prog 43 1 := ⟨by kernel_rfl⟩
instance : AL Try.prog 43 [.nilFunc] := ⟨by kernel_rfl⟩
instance : CT Try.prog 44 none := ⟨by kernel_rfl⟩
instance : SZ Try.prog 44 1 := ⟨by kernel_rfl⟩
theorem un44 : Try.prog.underlying 44 = some (.int .u32) := by kernel_rfl
instance : AL Try.prog 44 [.int .u32 0] := ⟨by kernel_rfl⟩
instance : CT Try.prog 45 (some 3) := ⟨by kernel_rfl⟩
instance : SZ Try.prog 45 3 := ⟨by kernel_rfl⟩
instance : FO Try.prog 45 0 0 := ⟨by kernel_rfl⟩
instance : FO Try.prog 45 1 1 := ⟨by kernel_rfl⟩
instance : FO Try.prog 45 2 2 := ⟨by kernel_rfl⟩
instance : ST Try.prog 45 [.int .u16 0, .int .u16 0, .int .u32 0] [(0, 1), (1, 1), (2, 1)] := .of (z := .agg #[.int .u16 0, .int .u16 0, .int .u32 0]) (fs := (match Try.prog.underlying 45 with | some (.struct fs) => fs | _ => #[])) (by kernel_rfl) (by kernel_rfl) (by kernel_rfl) (by kernel_rfl) (by kernel_rfl)
instance : AL Try.prog 45 [.int .u16 0, .int .u16 0, .int .u32 0] := ⟨by kernel_rfl⟩
instance : CT Try.prog 46 (some 3) := ⟨by kernel_rfl⟩
instance : SZ Try.prog 46 3 := ⟨by kernel_rfl⟩
instance : FO Try.prog 46 0 0 := ⟨by kernel_rfl⟩
instance : FO Try.prog 46 1 1 := ⟨by kernel_rfl⟩
instance : FO Try.prog 46 2 2 := ⟨by kernel_rfl⟩
instance : ST Try.prog 46 [.int .u16 0, .int .u16 0, .int .u32 0] [(0, 1), (1, 1), (2, 1)] := .of (z := .agg #[.int .u16 0, .int .u16 0, .int .u32 0]) (fs := (match Try.prog.underlying 46 with | some (.struct fs) => fs | _ => #[])) (by kernel_rfl) (by kernel_rfl) (by kernel_rfl) (by kernel_rfl) (by kernel_rfl)
instance : AL Try.prog 46 [.int .u16 0, .int .u16 0, .int .u32 0] := ⟨by kernel_rfl⟩
instance : CT Try.prog 47 none := ⟨by kernel_rfl⟩
instance : SZ Try.prog 47 1 := ⟨by kernel_rfl⟩
instance : AL Try.prog 47 [.nilFunc] := ⟨by kernel_rfl⟩
instance : CT Try.prog 48 none := ⟨by kernel_rfl⟩
instance : SZ Try.prog 48 1 := ⟨by kernel_rfl⟩
instance : AL Try.prog 48 [.nilFunc] := ⟨by kernel_rfl⟩
instance : CT Try.prog 49 none := ⟨by kernel_rfl⟩
instance : SZ Try.prog 49 1 := ⟨by kernel_rfl⟩
instance : CT Try.prog 50 none := ⟨by kernel_rfl⟩
instance : SZ Try.prog 50 1 := ⟨by kernel_rfl⟩
instance : AL Try.prog 50 [.nilFunc] := ⟨by kernel_rfl⟩
instance : CT Try.prog 51 none := ⟨by kernel_rfl⟩
instance : SZ Try.prog 51 1 := ⟨by kernel_rfl⟩
instance : AL Try.prog 51 [.nilFunc] := ⟨by kernel_rfl⟩
instance : CT Try.prog 52 none := ⟨by kernel_rfl⟩
instance : SZ Try.prog 52 1 := ⟨by kernel_rfl⟩
instance : AL Try.prog 52 [.nilFunc] := ⟨by kernel_rfl⟩
instance : CT Try.prog 53 none := ⟨by kernel_rfl⟩
instance : SZ Try.prog 53 1 := ⟨by kernel_rfl⟩
instance : EL Try.prog 53 (none, 1) := ⟨by kernel_rfl⟩
instance : UN Try.prog 53 (.slice 44) := ⟨by kernel_rfl⟩
instance : BS Try.prog 53 44 1 (.int .u32 0) := .of (by kernel_rfl) (by kernel_rfl) (by kernel_rfl) (by kernel_rfl) (by kernel_rfl)
instance : MK Try.prog 53 44 4 (.int .u32 0) := .of (inf := Try.t44) (by kernel_rfl) (by kernel_rfl) (by kernel_rfl) (by kernel_rfl) (by kernel_rfl) (by kernel_rfl) (by kernel_rfl)
instance : AP Try.prog 53 53 44 1 4 := .of (inf := Try.t44) (z := .int .u32 0) (e₂ := 44) (by kernel_rfl) (by kernel_rfl) (by kernel_rfl) (by kernel_rfl) (by kernel_rfl) (by kernel_rfl) (by decide) (by kernel_rfl) (by kernel_rfl)
instance : AL Try.prog 53 [.slice none 0 0] := ⟨by kernel_rfl⟩
instance : CT Try.prog 54 none := ⟨by kernel_rfl⟩
instance : SZ Try.prog 54 1 := ⟨by kernel_rfl⟩
instance : EL Try.prog 54 (none, 2) := ⟨by kernel_rfl⟩
instance : UN Try.prog 54 (.slice 82) := ⟨by kernel_rfl⟩
instance : BS Try.prog 54 82 2 (.agg #[.int .u16 0, .int .u16 0]) := .of (by kernel_rfl) (by kernel_rfl) (by kernel_rfl) (by kernel_rfl) (by kernel_rfl)
instance : AP Try.prog 54 54 82 2 4 := .of (inf := Try.t82) (z := .agg #[.int .u16 0, .int .u16 0]) (e₂ := 82) (by kernel_rfl) (by kernel_rfl) (by kernel_rfl) (by kernel_rfl) (by kernel_rfl) (by kernel_rfl) (by decide) (by kernel_rfl) (by kernel_rfl)
instance : AL Try.prog 54 [.slice none 0 0] := ⟨by kernel_rfl⟩
instance : CT Try.prog 55 none := ⟨by kernel_rfl⟩
instance : SZ Try.prog 55 1 := ⟨by kernel_rfl⟩
instance : EL Try.prog 55 (none, 2) := ⟨by kernel_rfl⟩
instance : UN Try.prog 55 (.slice 84) := ⟨by kernel_rfl⟩
instance : BS Try.prog 55 84 2 (.agg #[.int .u16 0, .slice none 0 0]) := .of (by kernel_rfl) (by kernel_rfl) (by kernel_rfl) (by kernel_rfl) (by kernel_rfl)
instance : AP Try.prog 55 55 84 2 32 := .of (inf := Try.t84) (z := .agg #[.int .u16 0, .slice none 0 0]) (e₂ := 84) (by kernel_rfl) (by kernel_rfl) (by kernel_rfl) (by kernel_rfl) (by kernel_rfl) (by kernel_rfl) (by decide) (by kernel_rfl) (by kernel_rfl)
instance : AL Try.prog 55 [.slice none 0 0] := ⟨by kernel_rfl⟩
instance : CT Try.prog 56 (some 15) := ⟨by kernel_rfl⟩
instance : SZ Try.prog 56 15 := ⟨by kernel_rfl⟩
instance : FO Try.prog 56 0 0 := ⟨by kernel_rfl⟩
instance : FO Try.prog 56 1 1 := ⟨by kernel_rfl⟩
instance : FO Try.prog 56 2 2 := ⟨by kernel_rfl⟩
instance : FO Try.prog 56 3 3 := ⟨by kernel_rfl⟩
instance : FO Try.prog 56 4 4 := ⟨by kernel_rfl⟩
instance : FO Try.prog 56 5 5 := ⟨by kernel_rfl⟩
instance : FO Try.prog 56 6 6 := ⟨by kernel_rfl⟩
instance : FO Try.prog 56 7 7 := ⟨by kernel_rfl⟩
instance : FO Try.prog 56 8 8 := ⟨by kernel_rfl⟩
instance : FO Try.prog 56 9 9 := ⟨by kernel_rfl⟩
instance : FO Try.prog 56 10 10 := ⟨by kernel_rfl⟩
instance : FO Try.prog 56 11 11 := ⟨by kernel_rfl⟩
instance : FO Try.prog 56 12 12 := ⟨by kernel_rfl⟩
instance : FO Try.prog 56 13 13 := ⟨by kernel_rfl⟩
instance : FO Try.prog 56 14 14 := ⟨by kernel_rfl⟩
instance : ST Try.prog 56 [.int .u8 0, .int .u8 0, .int .u32 0, .int .u32 0, .int .u32 0, .int .u16 0, .int .u16 0, .int .u16 0, .int .u16 0, .int .u32 0, .slice none 0 0, .slice none 0 0, .slice none 0 0, .slice none 0 0, .slice none 0 0] [(0, 1), (1, 1), (2, 1), (3, 1), (4, 1), (5, 1), (6, 1), (7, 1), (8, 1), (9, 1), (10, 1), (11, 1), (12, 1), (13, 1), (14, 1)] := .of (z := .agg #[.int .u8 0, .int .u8 0, .int .u32 0, .int .u32 0, .int .u32 0, .int .u16 0, .int .u16 0, .int .u16 0, .int .u16 0, .int .u32 0, .slice none 0 0, .slice none 0 0, .slice none 0 0, .slice none 0 0, .slice none 0 0]) (fs := (match Try.prog.underlying 56 with | some (.struct fs) => fs | _ => #[])) (by kernel_rfl) (by kernel_rfl) (by kernel_rfl) (by kernel_rfl) (by kernel_rfl)
instance : AL Try.prog 56 [.int .u8 0, .int .u8 0, .int .u32 0, .int .u32 0, .int .u32 0, .int .u16 0, .int .u16 0, .int .u16 0, .int .u16 0, .int .u32 0, .slice none 0 0, .slice none 0 0, .slice none 0 0, .slice none 0 0, .slice none 0 0] := ⟨by kernel_rfl⟩
instance : CT Try.prog 57 (some 15) := ⟨by kernel_rfl⟩
instance : SZ Try.prog 57 15 := ⟨by kernel_rfl⟩
instance : FO Try.prog 57 0 0 := ⟨by kernel_rfl⟩
instance : FO Try.prog 57 1 1 := ⟨by kernel_rfl⟩
instance : FO Try.prog 57 2 2 := ⟨by kernel_rfl⟩
instance : FO Try.prog 57 3 3 := ⟨by kernel_rfl⟩
instance : FO Try.prog 57 4 4 := ⟨by kernel_rfl⟩
instance : FO Try.prog 57 5 5 := ⟨by kernel_rfl⟩
instance : FO Try.prog 57 6 6 := ⟨by kernel_rfl⟩
instance : FO Try.prog 57 7 7 := ⟨by kernel_rfl⟩
instance : FO Try.prog 57 8 8 := ⟨by kernel_rfl⟩
instance : FO Try.prog 57 9 9 := ⟨by kernel_rfl⟩
instance : FO Try.prog 57 10 10 := ⟨by kernel_rfl⟩
instance : FO Try.prog 57 11 11 := ⟨by kernel_rfl⟩
instance : FO Try.prog 57 12 12 := ⟨by kernel_rfl⟩
instance : FO Try.prog 57 13 13 := ⟨by kernel_rfl⟩
instance : FO Try.prog 57 14 14 := ⟨by kernel_rfl⟩
instance : ST Try.prog 57 [.int .u8 0, .int .u8 0, .int .u32 0, .int .u32 0, .int .u32 0, .int .u16 0, .int .u16 0, .int .u16 0, .int .u16 0, .int .u32 0, .slice none 0 0, .slice none 0 0, .slice none 0 0, .slice none 0 0, .slice none 0 0] [(0, 1), (1, 1), (2, 1), (3, 1), (4, 1), (5, 1), (6, 1), (7, 1), (8, 1), (9, 1), (10, 1), (11, 1), (12, 1), (13, 1), (14, 1)] := .of (z := .agg #[.int .u8 0, .int .u8 0, .int .u32 0, .int .u32 0, .int .u32 0, .int .u16 0, .int .u16 0, .int .u16 0, .int .u16 0, .int .u32 0, .slice none 0 0, .slice none 0 0, .slice none 0 0, .slice none 0 0, .slice none 0 0]) (fs := (match Try.prog.underlying 57 with | some (.struct fs) => fs | _ => #[])) (by kernel_rfl) (by kernel_rfl) (by kernel_rfl) (by kernel_rfl) (by kernel_rfl)
instance : AL Try.prog 57 [.int .u8 0, .int .u8 0, .int .u32 0, .int .u32 0, .int .u32 0, .int .u16 0, .int .u16 0, .int .u16 0, .int .u16 0, .int .u32 0, .slice none 0 0, .slice none 0 0, .slice none 0 0, .slice none 0 0, .slice none 0 0] := ⟨by kernel_rfl⟩
instance : CT Try.prog 58 none := ⟨by kernel_rfl⟩
instance : SZ Try.prog 58 1 := ⟨by kernel_rfl⟩
instance : AL Try.prog 58 [.nilFunc] := ⟨by kernel_rfl⟩
instance : CT Try.prog 59 none := ⟨by kernel_rfl⟩
instance : SZ Try.prog 59 1 := ⟨by kernel_rfl⟩
instance : AL Try.prog 59 [.nilFunc] := ⟨by kernel_rfl⟩
instance : CT Try.prog 60 none := ⟨by kernel_rfl⟩
instance : SZ Try.prog 60 1 := ⟨by kernel_rfl⟩
instance : CT Try.prog 61 none := ⟨by kernel_rfl⟩
instance : SZ Try.prog 61 1 := ⟨by kernel_rfl⟩
instance : AL Try.prog 61 [.nilFunc] := ⟨by kernel_rfl⟩
instance : CT Try.prog 62 none := ⟨by kernel_rfl⟩
instance : SZ Try.prog 62 1 := ⟨by kernel_rfl⟩
instance : AL Try.prog 62 [.nilFunc] := ⟨by kernel_rfl⟩
instance : CT Try.prog 63 none := ⟨by kernel_rfl⟩
instance : SZ Try.prog 63 1 := ⟨by kernel_rfl⟩
instance : AL Try.prog 63 [.nilFunc] := ⟨by kernel_rfl⟩
instance : CT Try.prog 64 none := ⟨by kernel_rfl⟩
instance : SZ Try.prog 64 1 := ⟨by kernel_rfl⟩
instance : AL Try.prog 64 [.nilFunc] := ⟨by kernel_rfl⟩
instance : CT Try.prog 65 none := ⟨by kernel_rfl⟩
instance : SZ Try.prog 65 1 := ⟨by kernel_rfl⟩
instance : AL Try.prog 65 [.nilFunc] := ⟨by kernel_rfl⟩
instance : CT Try.prog 66 none := ⟨by kernel_rfl⟩
instance : SZ Try.prog 66 1 := ⟨by kernel_rfl⟩
theorem un66 : Try.prog.underlying 66 = some (.int .u64) := by kernel_rfl
instance : AL Try.prog 66 [.int .u64 0] := ⟨by kernel_rfl⟩
instance : CT Try.prog 67 none := ⟨by kernel_rfl⟩
instance : SZ Try.prog 67 1 := ⟨by kernel_rfl⟩
instance : AL Try.prog 67 [.nilFunc] := ⟨by kernel_rfl⟩
instance : CT Try.prog 68 none := ⟨by kernel_rfl⟩
instance : SZ Try.prog 68 1 := ⟨by kernel_rfl⟩
instance : EL Try.prog 68 (none, 1) := ⟨by kernel_rfl⟩
instance : UN Try.prog 68 (.slice 23) := ⟨by kernel_rfl⟩
instance : BS Try.prog 68 23 1 (.slice none 0 0) := .of (by kernel_rfl) (by kernel_rfl) (by kernel_rfl) (by kernel_rfl) (by kernel_rfl)
instance : MK Try.prog 68 23 24 (.slice none 0 0) := .of (inf := Try.t23) (by kernel_rfl) (by kernel_rfl) (by kernel_rfl) (by kernel_rfl) (by kernel_rfl) (by kernel_rfl) (by kernel_rfl)
instance : AP Try.prog 68 68 23 1 24 := .of (inf := Try.t23) (z := .slice none 0 0) (e₂ := 23) (by kernel_rfl) (by kernel_rfl) (by kernel_rfl) (by kernel_rfl) (by kernel_rfl) (by kernel_rfl) (by decide) (by kernel_rfl) (by kernel_rfl)
instance : AL Try.prog 68 [.slice none 0 0] := ⟨by kernel_rfl⟩
instance : CT Try.prog 69 none := ⟨by kernel_rfl⟩
instance : SZ Try.prog 69 1 := ⟨by kernel_rfl⟩
instance : AL Try.prog 69 [.nilFunc] := ⟨by kernel_rfl⟩
instance : CT Try.prog 70 none := ⟨by kernel_rfl⟩
instance : SZ Try.prog 70 1 := ⟨by kernel_rfl⟩
theorem un70 : Try.prog.underlying 70 = some (.int .u64) := by kernel_rfl
instance : AL Try.prog 70 [.int .u64 0] := ⟨by kernel_rfl⟩
instance : CT Try.prog 71 none := ⟨by kernel_rfl⟩
instance : SZ Try.prog 71 1 := ⟨by kernel_rfl⟩
instance : AL Try.prog 71 [.nilFunc] := ⟨by kernel_rfl⟩
instance : CT Try.prog 72 none := ⟨by kernel_rfl⟩
instance : SZ Try.prog 72 1 := ⟨by kernel_rfl⟩
instance : CT Try.prog 73 none := ⟨by kernel_rfl⟩
instance : SZ Try.prog 73 1 := ⟨by kernel_rfl⟩
instance : AL Try.prog 73 [.nilFunc] := ⟨by kernel_rfl⟩
instance : CT Try.prog 74 none := ⟨by kernel_rfl⟩
instance : SZ Try.prog 74 1 := ⟨by kernel_rfl⟩
instance : AL Try.prog 74 [.nilFunc] := ⟨by kernel_rfl⟩
instance : CT Try.prog 75 none := ⟨by kernel_rfl⟩
instance : SZ Try.prog 75 1 := ⟨by kernel_rfl⟩
instance : AL Try.prog 75 [.nilFunc] := ⟨by kernel_rfl⟩
instance : CT Try.prog 76 none := ⟨by kernel_rfl⟩
instance : SZ Try.prog 76 1 := ⟨by kernel_rfl⟩
instance : AL Try.prog 76 [.nilFunc] := ⟨by kernel_rfl⟩
instance : CT Try.prog 77 none := ⟨by kernel_rfl⟩
instance : SZ Try.prog 77 1 := ⟨by kernel_rfl⟩
instance : AL Try.prog 77 [.nilFunc] := ⟨by kernel_rfl⟩
instance : CT Try.prog 78 none := ⟨by kernel_rfl⟩
instance : SZ Try.prog 78 1 := ⟨by kernel_rfl⟩
instance : AL Try.prog 78 [.nilFunc] := ⟨by kernel_rfl⟩
instance : CT Try.prog 79 none := ⟨by kernel_rfl⟩
instance : SZ Try.prog 79 1 := ⟨by kernel_rfl⟩
instance : AL Try.prog 79 [.nilFunc] := ⟨by kernel_rfl⟩
instance : CT Try.prog 80 none := ⟨by kernel_rfl⟩
instance : SZ Try.prog 80 1 := ⟨by kernel_rfl⟩
instance : AL Try.prog 80 [.nilFunc] := ⟨by kernel_rfl⟩
instance : CT Try.prog 81 (some 2) := ⟨by kernel_rfl⟩
instance : SZ Try.prog 81 2 := ⟨by kernel_rfl⟩
instance : FO Try.prog 81 0 0 := ⟨by kernel_rfl⟩
instance : FO Try.prog 81 1 1 := ⟨by kernel_rfl⟩
instance : ST Try.prog 81 [.int .u16 0, .int .u16 0] [(0, 1), (1, 1)] := .of (z := .agg #[.int .u16 0, .int .u16 0]) (fs := (match Try.prog.underlying 81 with | some (.struct fs) => fs | _ => #[])) (by kernel_rfl) (by kernel_rfl) (by kernel_rfl) (by kernel_rfl) (by kernel_rfl)
instance : AL Try.prog 81 [.int .u16 0, .int .u16 0] := ⟨by kernel_rfl⟩
instance : CT Try.prog 82 (some 2) := ⟨by kernel_rfl⟩
instance : SZ Try.prog 82 2 := ⟨by kernel_rfl⟩
instance : FO Try.prog 82 0 0 := ⟨by kernel_rfl⟩
instance : FO Try.prog 82 1 1 := ⟨by kernel_rfl⟩
instance : ST Try.prog 82 [.int .u16 0, .int .u16 0] [(0, 1), (1, 1)] := .of (z := .agg #[.int .u16 0, .int .u16 0]) (fs := (match Try.prog.underlying 82 with | some (.struct fs) => fs | _ => #[])) (by kernel_rfl) (by kernel_rfl) (by kernel_rfl) (by kernel_rfl) (by kernel_rfl)
instance : AL Try.prog 82 [.int .u16 0, .int .u16 0] := ⟨by kernel_rfl⟩
instance : CT Try.prog 83 (some 2) := ⟨by kernel_rfl⟩
instance : SZ Try.prog 83 2 := ⟨by kernel_rfl⟩
instance : FO Try.prog 83 0 0 := ⟨by kernel_rfl⟩
instance : FO Try.prog 83 1 1 := ⟨by kernel_rfl⟩
instance : ST Try.prog 83 [.int .u16 0, .slice none 0 0] [(0, 1), (1, 1)] := .of (z := .agg #[.int .u16 0, .slice none 0 0]) (fs := (match Try.prog.underlying 83 with | some (.struct fs) => fs | _ => #[])) (by kernel_rfl) (by kernel_rfl) (by kernel_rfl) (by kernel_rfl) (by kernel_rfl)
instance : AL Try.prog 83 [.int .u16 0, .slice none 0 0] := ⟨by kernel_rfl⟩
instance : CT Try.prog 84 (some 2) := ⟨by kernel_rfl⟩
instance : SZ Try.prog 84 2 := ⟨by kernel_rfl⟩
instance : FO Try.prog 84 0 0 := ⟨by kernel_rfl⟩
instance : FO Try.prog 84 1 1 := ⟨by kernel_rfl⟩
instance : ST Try.prog 84 [.int .u16 0, .slice none 0 0] [(0, 1), (1, 1)] := .of (z := .agg #[.int .u16 0, .slice none 0 0]) (fs := (match Try.prog.underlying 84 with | some (.struct fs) => fs | _ => #[])) (by kernel_rfl) (by kernel_rfl) (by kernel_rfl) (by kernel_rfl) (by kernel_rfl)
instance : AL Try.prog 84 [.int .u16 0, .slice none 0 0] := ⟨by kernel_rfl⟩
instance : CT Try.prog 85 none := ⟨by kernel_rfl⟩
instance : SZ Try.prog 85 1 := ⟨by kernel_rfl⟩
instance : AL Try.prog 85 [.pointer none] := ⟨by kernel_rfl⟩
instance : CT Try.prog 86 (some 2) := ⟨by kernel_rfl⟩
instance : SZ Try.prog 86 2 := ⟨by kernel_rfl⟩
instance : FO Try.prog 86 0 0 := ⟨by kernel_rfl⟩
instance : FO Try.prog 86 1 1 := ⟨by kernel_rfl⟩
instance : ST Try.prog 86 [.slice none 0 0, .int .i64 0] [(0, 1), (1, 1)] := .of (z := .agg #[.slice none 0 0, .int .i64 0]) (fs := (match Try.prog.underlying 86 with | some (.struct fs) => fs | _ => #[])) (by kernel_rfl) (by kernel_rfl) (by kernel_rfl) (by kernel_rfl) (by kernel_rfl)
instance : AL Try.prog 86 [.slice none 0 0, .int .i64 0] := ⟨by kernel_rfl⟩
instance : CT Try.prog 87 (some 2) := ⟨by kernel_rfl⟩
instance : SZ Try.prog 87 2 := ⟨by kernel_rfl⟩
instance : FO Try.prog 87 0 0 := ⟨by kernel_rfl⟩
instance : FO Try.prog 87 1 1 := ⟨by kernel_rfl⟩
instance : ST Try.prog 87 [.slice none 0 0, .int .i64 0] [(0, 1), (1, 1)] := .of (z := .agg #[.slice none 0 0, .int .i64 0]) (fs := (match Try.prog.underlying 87 with | some (.struct fs) => fs | _ => #[])) (by kernel_rfl) (by kernel_rfl) (by kernel_rfl) (by kernel_rfl) (by kernel_rfl)
instance : AL Try.prog 87 [.slice none 0 0, .int .i64 0] := ⟨by kernel_rfl⟩
instance : CT Try.prog 88 none := ⟨by kernel_rfl⟩
instance : SZ Try.prog 88 1 := ⟨by kernel_rfl⟩
instance : AL Try.prog 88 [.nilFunc] := ⟨by kernel_rfl⟩
instance : CT Try.prog 89 none := ⟨by kernel_rfl⟩
instance : SZ Try.prog 89 1 := ⟨by kernel_rfl⟩
instance : AL Try.prog 89 [.nilFunc] := ⟨by kernel_rfl⟩
instance : CT Try.prog 90 none := ⟨by kernel_rfl⟩
instance : SZ Try.prog 90 1 := ⟨by kernel_rfl⟩
instance : AL Try.prog 90 [.nilFunc] := ⟨by kernel_rfl⟩
instance : CT Try.prog 91 none := ⟨by kernel_rfl⟩
instance : SZ Try.prog 91 1 := ⟨by kernel_rfl⟩
instance : AL Try.prog 91 [.nilFunc] := ⟨by kernel_rfl⟩
instance : CT Try.prog 92 none := ⟨by kernel_rfl⟩
instance : SZ Try.prog 92 1 := ⟨by kernel_rfl⟩
instance : AL Try.prog 92 [.nilFunc] := ⟨by kernel_rfl⟩
instance : CT Try.prog 93 none := ⟨by kernel_rfl⟩
instance : SZ Try.prog 93 1 := ⟨by kernel_rfl⟩
instance : AL Try.prog 93 [.nilFunc] := ⟨by kernel_rfl⟩
instance : CT Try.prog 94 none := ⟨by kernel_rfl⟩
instance : SZ Try.prog 94 1 := ⟨by kernel_rfl⟩
instance : AL Try.prog 94 [.pointer none] := ⟨by kernel_rfl⟩
instance : CT Try.prog 95 (some 2) := ⟨by kernel_rfl⟩
instance : SZ Try.prog 95 2 := ⟨by kernel_rfl⟩
instance : FO Try.prog 95 0 0 := ⟨by kernel_rfl⟩
instance : FO Try.prog 95 1 1 := ⟨by kernel_rfl⟩
instance : ST Try.prog 95 [.slice none 0 0, .bool false] [(0, 1), (1, 1)] := .of (z := .agg #[.slice none 0 0, .bool false]) (fs := (match Try.prog.underlying 95 with | some (.struct fs) => fs | _ => #[])) (by kernel_rfl) (by kernel_rfl) (by kernel_rfl) (by kernel_rfl) (by kernel_rfl)
instance : AL Try.prog 95 [.slice none 0 0, .bool false] := ⟨by kernel_rfl⟩
instance : CT Try.prog 96 (some 2) := ⟨by kernel_rfl⟩
instance : SZ Try.prog 96 2 := ⟨by kernel_rfl⟩
instance : FO Try.prog 96 0 0 := ⟨by kernel_rfl⟩
instance : FO Try.prog 96 1 1 := ⟨by kernel_rfl⟩
instance : ST Try.prog 96 [.slice none 0 0, .bool false] [(0, 1), (1, 1)] := .of (z := .agg #[.slice none 0 0, .bool false]) (fs := (match Try.prog.underlying 96 with | some (.struct fs) => fs | _ => #[])) (by kernel_rfl) (by kernel_rfl) (by kernel_rfl) (by kernel_rfl) (by kernel_rfl)
instance : AL Try.prog 96 [.slice none 0 0, .bool false] := ⟨by kernel_rfl⟩
instance : CT Try.prog 97 none := ⟨by kernel_rfl⟩
instance : SZ Try.prog 97 1 := ⟨by kernel_rfl⟩
instance : AL Try.prog 97 [.nilFunc] := ⟨by kernel_rfl⟩
instance : CT Try.prog 98 none := ⟨by kernel_rfl⟩
instance : SZ Try.prog 98 1 := ⟨by kernel_rfl⟩
instance : AL Try.prog 98 [.nilFunc] := ⟨by kernel_rfl⟩
instance : CT Try.prog 99 none := ⟨by kernel_rfl⟩
instance : SZ Try.prog 99 1 := ⟨by kernel_rfl⟩
instance : AL Try.prog 99 [.nilFunc] := ⟨by kernel_rfl⟩
instance : CT Try.prog 100 none := ⟨by kernel_rfl⟩
instance : SZ Try.prog 100 1 := ⟨by kernel_rfl⟩
instance : AL Try.prog 100 [.nilFunc] := ⟨by kernel_rfl⟩
instance : CT Try.prog 101 none := ⟨by kernel_rfl⟩
instance : SZ Try.prog 101 1 := ⟨by kernel_rfl⟩
instance : AL Try.prog 101 [.pointer none] := ⟨by kernel_rfl⟩
instance : CT Try.prog 102 none := ⟨by kernel_rfl⟩
instance : SZ Try.prog 102 1 := ⟨by kernel_rfl⟩
instance : AL Try.prog 102 [.nilFunc] := ⟨by kernel_rfl⟩
instance : CT Try.prog 103 none := ⟨by kernel_rfl⟩
instance : SZ Try.prog 103 1 := ⟨by kernel_rfl⟩
instance : CT Try.prog 104 none := ⟨by kernel_rfl⟩
instance : SZ Try.prog 104 1 := ⟨by kernel_rfl⟩
instance : AL Try.prog 104 [.nilFunc] := ⟨by kernel_rfl⟩
instance : CT Try.prog 105 none := ⟨by kernel_rfl⟩
instance : SZ Try.prog 105 1 := ⟨by kernel_rfl⟩
instance : AL Try.prog 105 [.nilFunc] := ⟨by kernel_rfl⟩
instance : CT Try.prog 106 none := ⟨by kernel_rfl⟩
instance : SZ Try.prog 106 1 := ⟨by kernel_rfl⟩
instance : AL Try.prog 106 [.nilFunc] := ⟨by kernel_rfl⟩
instance : CT Try.prog 107 none := ⟨by kernel_rfl⟩
instance : SZ Try.prog 107 1 := ⟨by kernel_rfl⟩
instance : EL Try.prog 107 (none, 1) := ⟨by kernel_rfl⟩
instance : UN Try.prog 107 (.slice 22) := ⟨by kernel_rfl⟩
instance : BS Try.prog 107 22 1 (.int .u16 0) := .of (by kernel_rfl) (by kernel_rfl) (by kernel_rfl) (by kernel_rfl) (by kernel_rfl)
instance : MK Try.prog 107 22 2 (.int .u16 0) := .of (inf := Try.t22) (by kernel_rfl) (by kernel_rfl) (by kernel_rfl) (by kernel_rfl) (by kernel_rfl) (by kernel_rfl) (by kernel_rfl)
instance : AP Try.prog 107 107 22 1 2 := .of (inf := Try.t22) (z := .int .u16 0) (e₂ := 22) (by kernel_rfl) (by kernel_rfl) (by kernel_rfl) (by kernel_rfl) (by kernel_rfl) (by kernel_rfl) (by decide) (by kernel_rfl) (by kernel_rfl)
instance : AL Try.prog 107 [.slice none 0 0] := ⟨by kernel_rfl⟩
instance : CT Try.prog 108 none := ⟨by kernel_rfl⟩
instance : SZ Try.prog 108 1 := ⟨by kernel_rfl⟩
instance : AL Try.prog 108 [.nilFunc] := ⟨by kernel_rfl⟩
instance : CT Try.prog 109 none := ⟨by kernel_rfl⟩
instance : SZ Try.prog 109 1 := ⟨by kernel_rfl⟩
instance : AL Try.prog 109 [.nilFunc] := ⟨by kernel_rfl⟩
instance : CT Try.prog 110 none := ⟨by kernel_rfl⟩
instance : SZ Try.prog 110 1 := ⟨by kernel_rfl⟩
instance : AL Try.prog 110 [.nilFunc] := ⟨by kernel_rfl⟩
instance : CT Try.prog 111 (some 256) := ⟨by kernel_rfl⟩
instance : SZ Try.prog 111 256 := ⟨by kernel_rfl⟩
instance : EL Try.prog 111 (some 256, 1) := ⟨by kernel_rfl⟩
instance : AL Try.prog 111 [.int .u32 0, .int .u32 0, .int .u32 0, .int .u32 0, .int .u32 0, .int .u32 0, .int .u32 0, .int .u32 0, .int .u32 0, .int .u32 0, .int .u32 0, .int .u32 0, .int .u32 0, .int .u32 0, .int .u32 0, .int .u32 0, .int .u32 0, .int .u32 0, .int .u32 0, .int .u32 0, .int .u32 0, .int .u32 0, .int .u32 0, .int .u32 0, .int .u32 0, .int .u32 0, .int .u32 0, .int .u32 0, .int .u32 0, .int .u32 0, .int .u32 0, .int .u32 0, .int .u32 0, .int .u32 0, .int .u32 0, .int .u32 0, .int .u32 0, .int .u32 0, .int .u32 0, .int .u32 0, .int .u32 0, .int .u32 0, .int .u32 0, .int .u32 0, .int .u32 0, .int .u32 0, .int .u32 0, .int .u32 0, .int .u32 0, .int .u32 0, .int .u32 0, .int .u32 0, .int .u32 0, .int .u32 0, .int .u32 0, .int .u32 0, .int .u32 0, .int .u32 0, .int .u32 0, .int .u32 0, .int .u32 0, .int .u32 0, .int .u32 0, .int .u32 0, .int .u32 0, .int .u32 0, .int .u32 0, .int .u32 0, .int .u32 0, .int .u32 0, .int .u32 0, .int .u32 0, .int .u32 0, .int .u32 0, .int .u32 0, .int .u32 0, .int .u32 0, .int .u32 0, .int .u32 0, .int .u32 0, .int .u32 0, .int .u32 0, .int .u32 0, .int .u32 0, .int .u32 0, .int .u32 0, .int .u32 0, .int .u32 0, .int .u32 0, .int .u32 0, .int .u32 0, .int .u32 0, .int .u32 0, .int .u32 0, .int .u32 0, .int .u32 0, .int .u32 0, .int .u32 0, .int .u32 0, .int .u32 0, .int .u32 0, .int .u32 0, .int .u32 0, .int .u32 0, .int .u32 0, .int .u32 0, .int .u32 0, .int .u32 0, .int .u32 0, .int .u32 0, .int .u32 0, .int .u32 0, .int .u32 0, .int .u32 0, .int .u32 0, .int .u32 0, .int .u32 0, .int .u32 0, .int .u32 0, .int .u32 0, .int .u32 0, .int .u32 0, .int .u32 0, .int .u32 0, .int .u32 0, .int .u32 0, .int .u32 0, .int .u32 0, .int .u32 0, .int .u32 0, .int .u32 0, .int .u32 0, .int .u32 0, .int .u32 0, .int .u32 0, .int .u32 0, .int .u32 0, .int .u32 0, .int .u32 0, .int .u32 0, .int .u32 0, .int .u32 0, .int .u32 0, .int .u32 0, .int .u32 0, .int .u32 0, .int .u32 0, .int .u32 0, .int .u32 0, .int .u32 0, .int .u32 0, .int .u32 0, .int .u32 0, .int .u32 0, .int .u32 0, .int .u32 0, .int .u32 0, .int .u32 0, .int .u32 0, .int .u32 0, .int .u32 0, .int .u32 0, .int .u32 0, .int .u32 0, .int .u32 0, .int .u32 0, .int .u32 0, .int .u32 0, .int .u32 0, .int .u32 0, .int .u32 0, .int .u32 0, .int .u32 0, .int .u32 0, .int .u32 0, .int .u32 0, .int .u32 0, .int .u32 0, .int .u32 0, .int .u32 0, .int .u32 0, .int .u32 0, .int .u32 0, .int .u32 0, .int .u32 0, .int .u32 0, .int .u32 0, .int .u32 0, .int .u32 0, .int .u32 0, .int .u32 0, .int .u32 0, .int .u32 0, .int .u32 0, .int .u32 0, .int .u32 0, .int .u32 0, .int .u32 0, .int .u32 0, .int .u32 0, .int .u32 0, .int .u32 0, .int .u32 0, .int .u32 0, .int .u32 0, .int .u32 0, .int .u32 0, .int .u32 0, .int .u32 0, .int .u32 0, .int .u32 0, .int .u32 0, .int .u32 0, .int .u32 0, .int .u32 0, .int .u32 0, .int .u32 0, .int .u32 0, .int .u32 0, .int .u32 0, .int .u32 0, .int .u32 0, .int .u32 0, .int .u32 0, .int .u32 0, .int .u32 0, .int .u32 0, .int .u32 0, .int .u32 0, .int .u32 0, .int .u32 0, .int .u32 0, .int .u32 0, .int .u32 0, .int .u32 0, .int .u32 0, .int .u32 0, .int .u32 0, .int .u32 0, .int .u32 0, .int .u32 0, .int .u32 0, .int .u32 0, .int .u32 0, .int .u32 0, .int .u32 0, .int .u32 0, .int .u32 0, .int .u32 0, .int .u32 0, .int .u32 0, .int .u32 0, .int .u32 0, .int .u32 0, .int .u32 0, .int .u32 0] := ⟨by kernel_rfl⟩
instance : CT Try.prog 112 none := ⟨by kernel_rfl⟩
instance : SZ Try.prog 112 1 := ⟨by kernel_rfl⟩
instance : AL Try.prog 112 [.nilFunc] := ⟨by kernel_rfl⟩
instance : CT Try.prog 113 none := ⟨by kernel_rfl⟩
instance : SZ Try.prog 113 1 := ⟨by kernel_rfl⟩
instance : AL Try.prog 113 [.nilFunc] := ⟨by kernel_rfl⟩
instance : CT Try.prog 114 none := ⟨by kernel_rfl⟩
instance : SZ Try.prog 114 1 := ⟨by kernel_rfl⟩
instance : AL Try.prog 114 [.nilFunc] := ⟨by kernel_rfl⟩
instance : CT Try.prog 115 (some 4) := ⟨by kernel_rfl⟩
instance : SZ Try.prog 115 4 := ⟨by kernel_rfl⟩
instance : FO Try.prog 115 0 0 := ⟨by kernel_rfl⟩
instance : FO Try.prog 115 1 1 := ⟨by kernel_rfl⟩
instance : FO Try.prog 115 2 2 := ⟨by kernel_rfl⟩
instance : FO Try.prog 115 3 3 := ⟨by kernel_rfl⟩
instance : ST Try.prog 115 [.pointer none, .pointer none, .pointer none, .string ⟨#[]⟩] [(0, 1), (1, 1), (2, 1), (3, 1)] := .of (z := .agg #[.pointer none, .pointer none, .pointer none, .string ⟨#[]⟩]) (fs := (match Try.prog.underlying 115 with | some (.struct fs) => fs | _ => #[])) (by kernel_rfl) (by kernel_rfl) (by kernel_rfl) (by kernel_rfl) (by kernel_rfl)
instance : AL Try.prog 115 [.pointer none, .pointer none, .pointer none, .string ⟨#[]⟩] := ⟨by kernel_rfl⟩
instance : CT Try.prog 116 (some 4) := ⟨by kernel_rfl⟩
instance : SZ Try.prog 116 4 := ⟨by kernel_rfl⟩
instance : FO Try.prog 116 0 0 := ⟨by kernel_rfl⟩
instance : FO Try.prog 116 1 1 := ⟨by kernel_rfl⟩
instance : FO Try.prog 116 2 2 := ⟨by kernel_rfl⟩
instance : FO Try.prog 116 3 3 := ⟨by kernel_rfl⟩
instance : ST Try.prog 116 [.pointer none, .pointer none, .pointer none, .string ⟨#[]⟩] [(0, 1), (1, 1), (2, 1), (3, 1)] := .of (z := .agg #[.pointer none, .pointer none, .pointer none, .string ⟨#[]⟩]) (fs := (match Try.prog.underlying 116 with | some (.struct fs) => fs | _ => #[])) (by kernel_rfl) (by kernel_rfl) (by kernel_rfl) (by kernel_rfl) (by kernel_rfl)
instance : AL Try.prog 116 [.pointer none, .pointer none, .pointer none, .string ⟨#[]⟩] := ⟨by kernel_rfl⟩
instance : CT Try.prog 117 (some 0) := ⟨by kernel_rfl⟩
instance : SZ Try.prog 117 0 := ⟨by kernel_rfl⟩
instance : EL Try.prog 117 (some 0, 1) := ⟨by kernel_rfl⟩
instance : AL Try.prog 117 [] := ⟨by kernel_rfl⟩
instance : CT Try.prog 118 (some 0) := ⟨by kernel_rfl⟩
instance : SZ Try.prog 118 0 := ⟨by kernel_rfl⟩
instance : ST Try.prog 118 [] [(0, 0)] := .of (z := .agg #[]) (fs := (match Try.prog.underlying 118 with | some (.struct fs) => fs | _ => #[])) (by kernel_rfl) (by kernel_rfl) (by kernel_rfl) (by kernel_rfl) (by kernel_rfl)
instance : AL Try.prog 118 [] := ⟨by kernel_rfl⟩
instance : CT Try.prog 119 (some 0) := ⟨by kernel_rfl⟩
instance : SZ Try.prog 119 0 := ⟨by kernel_rfl⟩
instance : ST Try.prog 119 [] [(0, 0)] := .of (z := .agg #[]) (fs := (match Try.prog.underlying 119 with | some (.struct fs) => fs | _ => #[])) (by kernel_rfl) (by kernel_rfl) (by kernel_rfl) (by kernel_rfl) (by kernel_rfl)
instance : AL Try.prog 119 [] := ⟨by kernel_rfl⟩
instance : CT Try.prog 120 none := ⟨by kernel_rfl⟩
instance : SZ Try.prog 120 1 := ⟨by kernel_rfl⟩
instance : AL Try.prog 120 [.nilFunc] := ⟨by kernel_rfl⟩
instance : CT Try.prog 121 none := ⟨by kernel_rfl⟩
instance : SZ Try.prog 121 1 := ⟨by kernel_rfl⟩
theorem un121 : Try.prog.underlying 121 = some (.int .u8) := by kernel_rfl
instance : AL Try.prog 121 [.int .u8 0] := ⟨by kernel_rfl⟩
instance : CT Try.prog 122 none := ⟨by kernel_rfl⟩
instance : SZ Try.prog 122 1 := ⟨by kernel_rfl⟩
theorem un122 : Try.prog.underlying 122 = some (.int .u8) := by kernel_rfl
instance : AL Try.prog 122 [.int .u8 0] := ⟨by kernel_rfl⟩
instance : CT Try.prog 123 none := ⟨by kernel_rfl⟩
instance : SZ Try.prog 123 1 := ⟨by kernel_rfl⟩
instance : AL Try.prog 123 [.nilFunc] := ⟨by kernel_rfl⟩
instance : CT Try.prog 124 none := ⟨by kernel_rfl⟩
instance : SZ Try.prog 124 1 := ⟨by kernel_rfl⟩
instance : AL Try.prog 124 [.pointer none] := ⟨by kernel_rfl⟩
instance : CT Try.prog 125 none := ⟨by kernel_rfl⟩
instance : SZ Try.prog 125 1 := ⟨by kernel_rfl⟩
theorem un125 : Try.prog.underlying 125 = some (.int .i32) := by kernel_rfl
instance : AL Try.prog 125 [.int .i32 0] := ⟨by kernel_rfl⟩
instance : CT Try.prog 126 none := ⟨by kernel_rfl⟩
instance : SZ Try.prog 126 1 := ⟨by kernel_rfl⟩
theorem un126 : Try.prog.underlying 126 = some (.int .i32) := by kernel_rfl
instance : AL Try.prog 126 [.int .i32 0] := ⟨by kernel_rfl⟩
instance : CT Try.prog 127 (some 11) := ⟨by kernel_rfl⟩
instance : SZ Try.prog 127 11 := ⟨by kernel_rfl⟩
instance : FO Try.prog 127 0 0 := ⟨by kernel_rfl⟩
instance : FO Try.prog 127 1 1 := ⟨by kernel_rfl⟩
instance : FO Try.prog 127 2 2 := ⟨by kernel_rfl⟩
instance : FO Try.prog 127 3 3 := ⟨by kernel_rfl⟩
instance : FO Try.prog 127 4 4 := ⟨by kernel_rfl⟩
instance : FO Try.prog 127 5 5 := ⟨by kernel_rfl⟩
instance : FO Try.prog 127 6 6 := ⟨by kernel_rfl⟩
instance : FO Try.prog 127 7 7 := ⟨by kernel_rfl⟩
instance : FO Try.prog 127 8 8 := ⟨by kernel_rfl⟩
instance : FO Try.prog 127 9 9 := ⟨by kernel_rfl⟩
instance : FO Try.prog 127 10 10 := ⟨by kernel_rfl⟩
instance : ST Try.prog 127 [.int .u64 0, .int .u64 0, .int .u32 0, .int .u8 0, .int .u8 0, .int .u8 0, .int .u8 0, .nilFunc, .pointer none, .int .i32 0, .int .i32 0] [(0, 1), (1, 1), (2, 1), (3, 1), (4, 1), (5, 1), (6, 1), (7, 1), (8, 1), (9, 1), (10, 1)] := .of (z := .agg #[.int .u64 0, .int .u64 0, .int .u32 0, .int .u8 0, .int .u8 0, .int .u8 0, .int .u8 0, .nilFunc, .pointer none, .int .i32 0, .int .i32 0]) (fs := (match Try.prog.underlying 127 with | some (.struct fs) => fs | _ => #[])) (by kernel_rfl) (by kernel_rfl) (by kernel_rfl) (by kernel_rfl) (by kernel_rfl)
instance : AL Try.prog 127 [.int .u64 0, .int .u64 0, .int .u32 0, .int .u8 0, .int .u8 0, .int .u8 0, .int .u8 0, .nilFunc, .pointer none, .int .i32 0, .int .i32 0] := ⟨by kernel_rfl⟩
instance : CT Try.prog 128 (some 11) := ⟨by kernel_rfl⟩
instance : SZ Try.prog 128 11 := ⟨by kernel_rfl⟩
instance : FO Try.prog 128 0 0 := ⟨by kernel_rfl⟩
instance : FO Try.prog 128 1 1 := ⟨by kernel_rfl⟩
instance : FO Try.prog 128 2 2 := ⟨by kernel_rfl⟩
instance : FO Try.prog 128 3 3 := ⟨by kernel_rfl⟩
instance : FO Try.prog 128 4 4 := ⟨by kernel_rfl⟩
instance : FO Try.prog 128 5 5 := ⟨by kernel_rfl⟩
instance : FO Try.prog 128 6 6 := ⟨by kernel_rfl⟩
instance : FO Try.prog 128 7 7 := ⟨by kernel_rfl⟩
instance : FO Try.prog 128 8 8 := ⟨by kernel_rfl⟩
instance : FO Try.prog 128 9 9 := ⟨by kernel_rfl⟩
instance : FO Try.prog 128 10 10 := ⟨by kernel_rfl⟩
instance : ST Try.prog 128 [.int .u64 0, .int .u64 0, .int .u32 0, .int .u8 0, .int .u8 0, .int .u8 0, .int .u8 0, .nilFunc, .pointer none, .int .i32 0, .int .i32 0] [(0, 1), (1, 1), (2, 1), (3, 1), (4, 1), (5, 1), (6, 1), (7, 1), (8, 1), (9, 1), (10, 1)] := .of (z := .agg #[.int .u64 0, .int .u64 0, .int .u32 0, .int .u8 0, .int .u8 0, .int .u8 0, .int .u8 0, .nilFunc, .pointer none, .int .i32 0, .int .i32 0]) (fs := (match Try.prog.underlying 128 with | some (.struct fs) => fs | _ => #[])) (by kernel_rfl) (by kernel_rfl) (by kernel_rfl) (by kernel_rfl) (by kernel_rfl)
instance : AL Try.prog 128 [.int .u64 0, .int .u64 0, .int .u32 0, .int .u8 0, .int .u8 0, .int .u8 0, .int .u8 0, .nilFunc, .pointer none, .int .i32 0, .int .i32 0] := ⟨by kernel_rfl⟩
instance : CT Try.prog 129 none := ⟨by kernel_rfl⟩
instance : SZ Try.prog 129 1 := ⟨by kernel_rfl⟩
instance : AL Try.prog 129 [.pointer none] := ⟨by kernel_rfl⟩
instance : IC Try.prog 2 2 .i64 := .of un2 un2
instance : IC Try.prog 2 3 .i64 := .of un2 un3
instance : IC Try.prog 2 5 .u8 := .of un2 un5
instance : IC Try.prog 2 6 .u8 := .of un2 un6
instance : IC Try.prog 2 12 .u64 := .of un2 un12
instance : IC Try.prog 2 21 .i32 := .of un2 un21
instance : IC Try.prog 2 22 .u16 := .of un2 un22
instance : IC Try.prog 2 27 .i64 := .of un2 un27
instance : IC Try.prog 2 44 .u32 := .of un2 un44
instance : IC Try.prog 2 66 .u64 := .of un2 un66
instance : IC Try.prog 2 70 .u64 := .of un2 un70
instance : IC Try.prog 2 121 .u8 := .of un2 un121
instance : IC Try.prog 2 122 .u8 := .of un2 un122
instance : IC Try.prog 2 125 .i32 := .of un2 un125
instance : IC Try.prog 2 126 .i32 := .of un2 un126
instance : IC Try.prog 3 2 .i64 := .of un3 un2
instance : IC Try.prog 3 3 .i64 := .of un3 un3
instance : IC Try.prog 3 5 .u8 := .of un3 un5
instance : IC Try.prog 3 6 .u8 := .of un3 un6
instance : IC Try.prog 3 12 .u64 := .of un3 un12
instance : IC Try.prog 3 21 .i32 := .of un3 un21
instance : IC Try.prog 3 22 .u16 := .of un3 un22
instance : IC Try.prog 3 27 .i64 := .of un3 un27
instance : IC Try.prog 3 44 .u32 := .of un3 un44
instance : IC Try.prog 3 66 .u64 := .of un3 un66
instance : IC Try.prog 3 70 .u64 := .of un3 un70
instance : IC Try.prog 3 121 .u8 := .of un3 un121
instance : IC Try.prog 3 122 .u8 := .of un3 un122
instance : IC Try.prog 3 125 .i32 := .of un3 un125
instance : IC Try.prog 3 126 .i32 := .of un3 un126
instance : IC Try.prog 5 2 .i64 := .of un5 un2
instance : IC Try.prog 5 3 .i64 := .of un5 un3
instance : IC Try.prog 5 5 .u8 := .of un5 un5
instance : IC Try.prog 5 6 .u8 := .of un5 un6
instance : IC Try.prog 5 12 .u64 := .of un5 un12
instance : IC Try.prog 5 21 .i32 := .of un5 un21
instance : IC Try.prog 5 22 .u16 := .of un5 un22
instance : IC Try.prog 5 27 .i64 := .of un5 un27
instance : IC Try.prog 5 44 .u32 := .of un5 un44
instance : IC Try.prog 5 66 .u64 := .of un5 un66
instance : IC Try.prog 5 70 .u64 := .of un5 un70
instance : IC Try.prog 5 121 .u8 := .of un5 un121
instance : IC Try.prog 5 122 .u8 := .of un5 un122
instance : IC Try.prog 5 125 .i32 := .of un5 un125
instance : IC Try.prog 5 126 .i32 := .of un5 un126
instance : IC Try.prog 6 2 .i64 := .of un6 un2
instance : IC Try.prog 6 3 .i64 := .of un6 un3
instance : IC Try.prog 6 5 .u8 := .of un6 un5
instance : IC Try.prog 6 6 .u8 := .of un6 un6
instance : IC Try.prog 6 12 .u64 := .of un6 un12
instance : IC Try.prog 6 21 .i32 := .of un6 un21
instance : IC Try.prog 6 22 .u16 := .of un6 un22
instance : IC Try.prog 6 27 .i64 := .of un6 un27
instance : IC Try.prog 6 44 .u32 := .of un6 un44
instance : IC Try.prog 6 66 .u64 := .of un6 un66
instance : IC Try.prog 6 70 .u64 := .of un6 un70
instance : IC Try.prog 6 121 .u8 := .of un6 un121
instance : IC Try.prog 6 122 .u8 := .of un6 un122
instance : IC Try.prog 6 125 .i32 := .of un6 un125
instance : IC Try.prog 6 126 .i32 := .of un6 un126
instance : IC Try.prog 12 2 .i64 := .of un12 un2
instance : IC Try.prog 12 3 .i64 := .of un12 un3
instance : IC Try.prog 12 5 .u8 := .of un12 un5
instance : IC Try.prog 12 6 .u8 := .of un12 un6
instance : IC Try.prog 12 12 .u64 := .of un12 un12
instance : IC Try.prog 12 21 .i32 := .of un12 un21
instance : IC Try.prog 12 22 .u16 := .of un12 un22
instance : IC Try.prog 12 27 .i64 := .of un12 un27
instance : IC Try.prog 12 44 .u32 := .of un12 un44
instance : IC Try.prog 12 66 .u64 := .of un12 un66
instance : IC Try.prog 12 70 .u64 := .of un12 un70
instance : IC Try.prog 12 121 .u8 := .of un12 un121
instance : IC Try.prog 12 122 .u8 := .of un12 un122
instance : IC Try.prog 12 125 .i32 := .of un12 un125
instance : IC Try.prog 12 126 .i32 := .of un12 un126
instance : IC Try.prog 21 2 .i64 := .of un21 un2
instance : IC Try.prog 21 3 .i64 := .of un21 un3
instance : IC Try.prog 21 5 .u8 := .of un21 un5
instance : IC Try.prog 21 6 .u8 := .of un21 un6
instance : IC Try.prog 21 12 .u64 := .of un21 un12
instance : IC Try.prog 21 21 .i32 := .of un21 un21
instance : IC Try.prog 21 22 .u16 := .of un21 un22
instance : IC Try.prog 21 27 .i64 := .of un21 un27
instance : IC Try.prog 21 44 .u32 := .of un21 un44
instance : IC Try.prog 21 66 .u64 := .of un21 un66
instance : IC Try.prog 21 70 .u64 := .of un21 un70
instance : IC Try.prog 21 121 .u8 := .of un21 un121
instance : IC Try.prog 21 122 .u8 := .of un21 un122
instance : IC Try.prog 21 125 .i32 := .of un21 un125
instance : IC Try.prog 21 126 .i32 := .of un21 un126
instance : IC Try.prog 22 2 .i64 := .of un22 un2
instance : IC Try.prog 22 3 .i64 := .of un22 un3
instance : IC Try.prog 22 5 .u8 := .of un22 un5
instance : IC Try.prog 22 6 .u8 := .of un22 un6
instance : IC Try.prog 22 12 .u64 := .of un22 un12
instance : IC Try.prog 22 21 .i32 := .of un22 un21
instance : IC Try.prog 22 22 .u16 := .of un22 un22
instance : IC Try.prog 22 27 .i64 := .of un22 un27
instance : IC Try.prog 22 44 .u32 := .of un22 un44
instance : IC Try.prog 22 66 .u64 := .of un22 un66
instance : IC Try.prog 22 70 .u64 := .of un22 un70
instance : IC Try.prog 22 121 .u8 := .of un22 un121
instance : IC Try.prog 22 122 .u8 := .of un22 un122
instance : IC Try.prog 22 125 .i32 := .of un22 un125
instance : IC Try.prog 22 126 .i32 := .of un22 un126
instance : IC Try.prog 27 2 .i64 := .of un27 un2
instance : IC Try.prog 27 3 .i64 := .of un27 un3
instance : IC Try.prog 27 5 .u8 := .of un27 un5
instance : IC Try.prog 27 6 .u8 := .of un27 un6
instance : IC Try.prog 27 12 .u64 := .of un27 un12
instance : IC Try.prog 27 21 .i32 := .of un27 un21
instance : IC Try.prog 27 22 .u16 := .of un27 un22
instance : IC Try.prog 27 27 .i64 := .of un27 un27
instance : IC Try.prog 27 44 .u32 := .of un27 un44
instance : IC Try.prog 27 66 .u64 := .of un27 un66
instance : IC Try.prog 27 70 .u64 := .of un27 un70
instance : IC Try.prog 27 121 .u8 := .of un27 un121
instance : IC Try.prog 27 122 .u8 := .of un27 un122
instance : IC Try.prog 27 125 .i32 := .of un27 un125
instance : IC Try.prog 27 126 .i32 := .of un27 un126
instance : IC Try.prog 44 2 .i64 := .of un44 un2
instance : IC Try.prog 44 3 .i64 := .of un44 un3
instance : IC Try.prog 44 5 .u8 := .of un44 un5
instance : IC Try.prog 44 6 .u8 := .of un44 un6
instance : IC Try.prog 44 12 .u64 := .of un44 un12
instance : IC Try.prog 44 21 .i32 := .of un44 un21
instance : IC Try.prog 44 22 .u16 := .of un44 un22
instance : IC Try.prog 44 27 .i64 := .of un44 un27
instance : IC Try.prog 44 44 .u32 := .of un44 un44
instance : IC Try.prog 44 66 .u64 := .of un44 un66
instance : IC Try.prog 44 70 .u64 := .of un44 un70
instance : IC Try.prog 44 121 .u8 := .of un44 un121
instance : IC Try.prog 44 122 .u8 := .of un44 un122
instance : IC Try.prog 44 125 .i32 := .of un44 un125
instance : IC Try.prog 44 126 .i32 := .of un44 un126
instance : IC Try.prog 66 2 .i64 := .of un66 un2
instance : IC Try.prog 66 3 .i64 := .of un66 un3
instance : IC Try.prog 66 5 .u8 := .of un66 un5
instance : IC Try.prog 66 6 .u8 := .of un66 un6
instance : IC Try.prog 66 12 .u64 := .of un66 un12
instance : IC Try.prog 66 21 .i32 := .of un66 un21
instance : IC Try.prog 66 22 .u16 := .of un66 un22
instance : IC Try.prog 66 27 .i64 := .of un66 un27
instance : IC Try.prog 66 44 .u32 := .of un66 un44
instance : IC Try.prog 66 66 .u64 := .of un66 un66
instance : IC Try.prog 66 70 .u64 := .of un66 un70
instance : IC Try.prog 66 121 .u8 := .of un66 un121
instance : IC Try.prog 66 122 .u8 := .of un66 un122
instance : IC Try.prog 66 125 .i32 := .of un66 un125
instance : IC Try.prog 66 126 .i32 := .of un66 un126
instance : IC Try.prog 70 2 .i64 := .of un70 un2
instance : IC Try.prog 70 3 .i64 := .of un70 un3
instance : IC Try.prog 70 5 .u8 := .of un70 un5
instance : IC Try.prog 70 6 .u8 := .of un70 un6
instance : IC Try.prog 70 12 .u64 := .of un70 un12
instance : IC Try.prog 70 21 .i32 := .of un70 un21
instance : IC Try.prog 70 22 .u16 := .of un70 un22
instance : IC Try.prog 70 27 .i64 := .of un70 un27
instance : IC Try.prog 70 44 .u32 := .of un70 un44
instance : IC Try.prog 70 66 .u64 := .of un70 un66
instance : IC Try.prog 70 70 .u64 := .of un70 un70
instance : IC Try.prog 70 121 .u8 := .of un70 un121
instance : IC Try.prog 70 122 .u8 := .of un70 un122
instance : IC Try.prog 70 125 .i32 := .of un70 un125
instance : IC Try.prog 70 126 .i32 := .of un70 un126
instance : IC Try.prog 121 2 .i64 := .of un121 un2
instance : IC Try.prog 121 3 .i64 := .of un121 un3
instance : IC Try.prog 121 5 .u8 := .of un121 un5
instance : IC Try.prog 121 6 .u8 := .of un121 un6
instance : IC Try.prog 121 12 .u64 := .of un121 un12
instance : IC Try.prog 121 21 .i32 := .of un121 un21
instance : IC Try.prog 121 22 .u16 := .of un121 un22
instance : IC Try.prog 121 27 .i64 := .of un121 un27
instance : IC Try.prog 121 44 .u32 := .of un121 un44
instance : IC Try.prog 121 66 .u64 := .of un121 un66
instance : IC Try.prog 121 70 .u64 := .of un121 un70
instance : IC Try.prog 121 121 .u8 := .of un121 un121
instance : IC Try.prog 121 122 .u8 := .of un121 un122
instance : IC Try.prog 121 125 .i32 := .of un121 un125
instance : IC Try.prog 121 126 .i32 := .of un121 un126
instance : IC Try.prog 122 2 .i64 := .of un122 un2
instance : IC Try.prog 122 3 .i64 := .of un122 un3
instance : IC Try.prog 122 5 .u8 := .of un122 un5
instance : IC Try.prog 122 6 .u8 := .of un122 un6
instance : IC Try.prog 122 12 .u64 := .of un122 un12
instance : IC Try.prog 122 21 .i32 := .of un122 un21
instance : IC Try.prog 122 22 .u16 := .of un122 un22
instance : IC Try.prog 122 27 .i64 := .of un122 un27
instance : IC Try.prog 122 44 .u32 := .of un122 un44
instance : IC Try.prog 122 66 .u64 := .of un122 un66
instance : IC Try.prog 122 70 .u64 := .of un122 un70
instance : IC Try.prog 122 121 .u8 := .of un122 un121
instance : IC Try.prog 122 122 .u8 := .of un122 un122
instance : IC Try.prog 122 125 .i32 := .of un122 un125
instance : IC Try.prog 122 126 .i32 := .of un122 un126
instance : IC Try.prog 125 2 .i64 := .of un125 un2
instance : IC Try.prog 125 3 .i64 := .of un125 un3
instance : IC Try.prog 125 5 .u8 := .of un125 un5
instance : IC Try.prog 125 6 .u8 := .of un125 un6
instance : IC Try.prog 125 12 .u64 := .of un125 un12
instance : IC Try.prog 125 21 .i32 := .of un125 un21
instance : IC Try.prog 125 22 .u16 := .of un125 un22
instance : IC Try.prog 125 27 .i64 := .of un125 un27
instance : IC Try.prog 125 44 .u32 := .of un125 un44
instance : IC Try.prog 125 66 .u64 := .of un125 un66
instance : IC Try.prog 125 70 .u64 := .of un125 un70
instance : IC Try.prog 125 121 .u8 := .of un125 un121
instance : IC Try.prog 125 122 .u8 := .of un125 un122
instance : IC Try.prog 125 125 .i32 := .of un125 un125
instance : IC Try.prog 125 126 .i32 := .of un125 un126
instance : IC Try.prog 126 2 .i64 := .of un126 un2
instance : IC Try.prog 126 3 .i64 := .of un126 un3
instance : IC Try.prog 126 5 .u8 := .of un126 un5
instance : IC Try.prog 126 6 .u8 := .of un126 un6
instance : IC Try.prog 126 12 .u64 := .of un126 un12
instance : IC Try.prog 126 21 .i32 := .of un126 un21
instance : IC Try.prog 126 22 .u16 := .of un126 un22
instance : IC Try.prog 126 27 .i64 := .of un126 un27
instance : IC Try.prog 126 44 .u32 := .of un126 un44
instance : IC Try.prog 126 66 .u64 := .of un126 un66
instance : IC Try.prog 126 70 .u64 := .of un126 un70
instance : IC Try.prog 126 121 .u8 := .of un126 un121
instance : IC Try.prog 126 122 .u8 := .of un126 un122
instance : IC Try.prog 126 125 .i32 := .of un126 un125
instance : IC Try.prog 126 126 .i32 := .of un126 un126
instance : BY Try.prog 23 9 := ⟨⟨5, by kernel_rfl, by kernel_rfl⟩, by kernel_rfl⟩
instance : BY Try.prog 23 10 := ⟨⟨5, by kernel_rfl, by kernel_rfl⟩, by kernel_rfl⟩
instance : BY Try.prog 23 11 := ⟨⟨5, by kernel_rfl, by kernel_rfl⟩, by kernel_rfl⟩
theorem noGlobals : Try.prog.globals.size = 0 := by kernel_rfl
end Go.Proofs.Ytmelgnpogdilgaa

/- crc.row is a constant: its run by the kernel, and the summary by which longer runs go on. No conditions. -/
namespace Go.Proofs.Ytmelgnpogdilgaa
open Go.RowKit
def rowNats : List Nat := [
  0, 4067132163, 3778769143, 324072436, 3348797215, 904991772, 648144872, 3570033899,
  2329499855, 2024987596, 1809983544, 2575936315, 1296289744, 3207089363, 2893594407, 1578318884,
  274646895, 3795141740, 4049975192, 51262619, 3619967088, 632279923, 922689671, 3298075524,
  2592579488, 1760304291, 2075979607, 2312596564, 1562183871, 2943781820, 3156637768, 1313733451,
  549293790, 3537243613, 3246849577, 871202090, 3878099393, 357341890, 102525238, 4101499445,
  2858735121, 1477399826, 1264559846, 3107202533, 1845379342, 2677391885, 2361733625, 2125378298,
  820201905, 3263744690, 3520608582, 598981189, 4151959214, 85089709, 373468761, 3827903834,
  3124367742, 1213305469, 1526817161, 2842354314, 2107672161, 2412447074, 2627466902, 1861252501,
  1098587580, 3004210879, 2688576843, 1378610760, 2262928035, 1955203488, 1742404180, 2511436119,
  3416409459, 969524848, 714683780, 3639785095, 205050476, 4266873199, 3976438427, 526918040,
  1361435347, 2739821008, 2954799652, 1114974503, 2529119692, 1691668175, 2005155131, 2247081528,
  3690758684, 697762079, 986182379, 3366744552, 476452099, 3993867776, 4250756596, 255256311,
  1640403810, 2477592673, 2164122517, 1922457750, 2791048317, 1412925310, 1197962378, 3037525897,
  3944729517, 427051182, 170179418, 4165941337, 746937522, 3740196785, 3451792453, 1070968646,
  1905808397, 2213795598, 2426610938, 1657317369, 3053634322, 1147748369, 1463399397, 2773627110,
  4215344322, 153784257, 444234805, 3893493558, 1021025245, 3467647198, 3722505002, 797665321,
  2197175160, 1889384571, 1674398607, 2443626636, 1164749927, 3070701412, 2757221520, 1446797203,
  137323447, 4198817972, 3910406976, 461344835, 3484808360, 1037989803, 781091935, 3705997148,
  2460548119, 1623424788, 1939049696, 2180517859, 1429367560, 2807687179, 3020495871, 1180866812,
  410100952, 3927582683, 4182430767, 186734380, 3756733383, 763408580, 1053836080, 3434856499,
  2722870694, 1344288421, 1131464017, 2971354706, 1708204729, 2545590714, 2229949006, 1988219213,
  680717673, 3673779818, 3383336350, 1002577565, 4010310262, 493091189, 238226049, 4233660802,
  2987750089, 1082061258, 1395524158, 2705686845, 1972364758, 2279892693, 2494862625, 1725896226,
  952904198, 3399985413, 3656866545, 731699698, 4283874585, 222117402, 510512622, 3959836397,
  3280807620, 837199303, 582374963, 3504198960, 68661723, 4135334616, 3844915500, 390545967,
  1230274059, 3141532936, 2825850620, 1510247935, 2395924756, 2091215383, 1878366691, 2644384480,
  3553878443, 565732008, 854102364, 3229815391, 340358836, 3861050807, 4117890627, 119113024,
  1493875044, 2875275879, 3090270611, 1247431312, 2660249211, 1828433272, 2141937292, 2378227087,
  3811616794, 291187481, 34330861, 4032846830, 615137029, 3603020806, 3314634738, 939183345,
  1776939221, 2609017814, 2295496738, 2058945313, 2926798794, 1545135305, 1330124605, 3173225534,
  4084100981, 17165430, 307568514, 3762199681, 888469610, 3332340585, 3587147933, 665062302,
  2042050490, 2346497209, 2559330125, 1793573966, 3190661285, 1279665062, 1595330642, 2910671697]
def u32s (ns : List Nat) : List Value := ns.map fun n => .int .u32 (.ofNat n)
def rowVal : Value := .agg (u32s rowNats).toArray
def eqU32 : List Value → List Nat → Bool
  | [], [] => true
  | .int .u32 (.ofNat a) :: l, n :: ns => Nat.beq a n && eqU32 l ns
  | _, _ => false
theorem eqU32_eq : ∀ {l : List Value} {ns : List Nat}, eqU32 l ns = true → l = u32s ns
  | [], [], _ => rfl
  | [], n :: ns, h => by cases h
  | v :: l, [], h => by unfold eqU32 at h; split at h <;> simp_all
  | v :: l, n :: ns, h => by
    unfold eqU32 at h
    split at h
    · simp_all
    · rename_i a l' n' ns' e1 e2
      cases e1; cases e2
      rw [Bool.and_eq_true] at h
      rw [Nat.eq_of_beq_eq_true h.1, eqU32_eq h.2]
      rfl
    · cases h
def isRow : Value → AHeap → List Nat → Option Bool
  | .agg a, _, _ => some (eqU32 a.toList rowNats)
  | _, _, _ => none
theorem isRow_eq {v : Value} {h : AHeap} {wr : List Nat} (e : isRow v h wr = some true) : v = rowVal := by
  unfold isRow at e
  split at e
  · rename_i a
    simp only [Option.some.injEq] at e
    show Value.agg a = .agg (u32s rowNats).toArray
    rw [← eqU32_eq e]
  · cases e
/-- A call that needs no memory and yields a value without addresses is a constant. -/
theorem CallRun.const {P : Program} {W : Nat → Prop} {f : FuncId} {v : Value} {h' : AHeap} (hg : P.globals.size = 0) (hc : CallRun P W f #[] emptyH v h') (hv : flatB v = true) (h : AHeap) : CallRun P (fun _ => False) f #[] h v h := by
  refine ⟨.refl _ _, fun m w args' hm hf ha hh => ?_⟩
  obtain rfl : args' = #[] := Array.eq_empty_of_size_eq_zero ha.1.symm
  refine (hc.run (fun _ => none) w #[] (fun g hlt => by omega) (fun i _ _ => rfl) (ARel.empty _) (hrel_empty P Ev w)).mono ?_
  rintro e w' ⟨v', m', rfl, hF, hV, _⟩
  have keep : ∀ b, b < w.heap.size → w'.heap[b]? = w.heap[b]? := fun b hb => hF.keep b hb fun j k hj => absurd hj (Nat.not_lt_zero j)
  refine ⟨v', m, rfl, ⟨fun _ _ => rfl, fun i l a b _ => by omega, fun b hb _ => keep b hb, hF.size, hF.os, hF.tape, hF.output⟩, ?_, ?_⟩
  · rw [VRel.eq_of_flat hV hv]; exact VRel.flat m hv
  · exact { lt := fun i l e => Nat.lt_of_lt_of_le (hh.lt i l e) hF.size
            typ := hh.typ
            inj := hh.inj
            roS := hh.roS
            obj := fun i l o hd e g => by
              obtain ⟨o', a, b⟩ := hh.obj i l o hd e g
              exact ⟨o', by rw [keep l.b (hh.lt i l e)]; exact a, b⟩ }
theorem rowRun : callK (A := Bool) Try.prog noS (fev Try.prog noS 5000) 76 [] emptyH isRow = some true := by kernel_rfl
theorem rowFlat : flatB rowVal = true := by kernel_rfl
theorem row_const (h : AHeap) : CallRun Try.prog (fun _ => False) 76 #[] h rowVal h := by
  obtain ⟨v, h', wr, hc, he⟩ := callRun_of (noS_ok _) rowRun
  obtain rfl := isRow_eq he
  exact CallRun.const (by kernel_rfl) hc rowFlat h
noncomputable def rowS : Summ := fun f args h => Bool.rec none (List.rec (some (rowVal, h, [])) (fun _ _ _ => none) args) (Nat.beq f 76)
theorem rowS_ok : SOk Try.prog rowS := fun f args h v h' wr e => by
  unfold rowS at e
  cases hb : Nat.beq f 76 with
  | false => rw [hb] at e; cases e
  | true =>
    rw [hb] at e
    cases args with
    | cons a l => cases e
    | nil =>
      cases e
      obtain rfl := Nat.eq_of_beq_eq_true hb
      exact (row_const h).weak fun i hi => hi.elim
def asB : Value → AHeap → List Nat → Option Bool
  | .bool b, _, _ => some b
  | _, _, _ => none
theorem asB_true {v : Value} {h : AHeap} {wr : List Nat} (e : asB v h wr = some true) : v = .bool true := by
  unfold asB at e
  split at e
  · cases e; rfl
  · cases e
end Go.Proofs.Ytmelgnpogdilgaa

/- crc and its definition: contracts on the abstract heap. No conditions. -/
namespace Go.Proofs.Ytmelgnpogdilgaa
set_option linter.unusedVariables false
set_option maxRecDepth 100000
attribute [local irreducible] Go GoR GoL
theorem rowNats_eq : rowNats = (List.range 256).map (Crc.it 8) := by decide +kernel
/-- A row of numbers, one for each byte. -/
def IsRow (l : List Value) : Prop := l.length = 256 ∧ l.all Value.oneCell' = true ∧ ∀ j, j < 256 → l[j]? = some (.int .u32 (Crc.it 8 j : Nat))
theorem row_spec (h : AHeap) : CallS Try.prog [] 76 [] h fun v h' => (∃ l, v = .agg l.toArray ∧ IsRow l) ∧ h' = h := by
  obtain ⟨v, h', wr, hc, he⟩ := callRun_of (noS_ok _) rowRun
  obtain rfl := isRow_eq he
  refine (CallS.known noGlobals hc rowFlat h).mono ?_
  rintro _ h' ⟨rfl, rfl⟩
  refine ⟨⟨u32s rowNats, rfl, by decide +kernel, by decide +kernel, fun j hj => ?_⟩, rfl⟩
  rw [rowNats_eq]
  simp [u32s, hj]
theorem com_u32 {x : Nat} (hx : x < 4294967296) : iBin .xor .u32 (if IntKind.u32.signed then -1 else IntKind.u32.max) (x : Int) = some (.int .u32 ((4294967295 - x : Nat) : Int)) := by
  have e := iXor_nat (k := .u32) (x := 4294967295) (y := x) (show 4294967295 < 4294967296 by decide) hx
  rw [Crc.not_eq x hx] at e
  exact e
def zrow : List Value := List.replicate 256 (.int .u32 0)
theorem al_row : AL Try.prog 111 zrow := ⟨by kernel_rfl⟩
theorem setL_all {c l : List Value} (e : l.length = c.length) : setL c 0 l = l := by
  simp [setL, e]
theorem zrow_len : zrow.length = 256 := by simp [zrow]
theorem byte_at {zs : List UInt8} {k : Nat} (hk : k < zs.length) : (zs.map bv)[k]? = some (.int .u8 (zs[k].toNat : Int)) := by simp [hk, bv]
set_option maxHeartbeats 4000000 in
theorem crcMore_spec (s : Nat) (hs : s < 4294967296) (a : Option Addr) (cap : Nat) (zs : List UInt8) (hl : zs.length ≤ 1000000000) (h : AHeap) (hz : Rv Try.prog h 1 a zs.length cap (zs.map bv)) : CallS Try.prog [] 69 [.int .u32 s, .slice a zs.length cap] h fun v h' => v = .int .u32 (Crc.more s zs : Nat) := by
  generalize hlen : zs.length = len at *
  rcases Nat.eq_zero_or_pos len with h0 | h0
  · subst h0
    obtain rfl : zs = [] := List.eq_nil_of_length_eq_zero hlen
    (refine CallS.of2 Try.func69 rfl Try.ntmps69 Try.results69 rfl ?_)
    (refine Go.run (g:=?_))
    (first|refine Go.finT (by first|exact .inr rfl|exact .inl rfl) rfl ?_|refine Go.fin1 (by first|exact .inr rfl|exact .inl rfl) rfl (hq:=?_))
    show Value.int .u32 _ = _
    rw [Crc.more_nil s hs]
  · (refine CallS.of2 Try.func69 rfl Try.ntmps69 Try.results69 rfl ?_)
    (refine Go.run (g:=?_))
    refine GoR.call rfl rfl rfl rfl rfl rfl rfl (((row_spec _).args (by first | rfl | (simp; fail_if_success focus skip) | (simp; omega) | (congr 2; omega))).mono ?_)
    rintro _ h1 ⟨⟨l, rfl, hl1, hl2, hl3⟩, rfl⟩ s1
    refine GoR.alloc (ha := al_row) rfl rfl rfl rfl ?_
    refine GoR.store (c' := l) rfl rfl rfl rfl rfl (AHeap.get_push_same _ _) rfl hl1 (by rw [zrow_len]; decide) hl2 (setL_all (hl1.trans zrow_len.symm)) (.inr (Nat.le_refl _)) ?_
    (refine Go.run (g:=?_))
    refine GoR.com rfl rfl rfl rfl rfl (com_u32 hs) ?_
    (refine Go.run (g:=?_))
    have hg : ((h1.push (.cells zrow 111)).put h1.n (some (.cells l 111))).get h1.n = some (.cells l 111) := get_put_self (AHeap.get_push_same _ _)
    have S1 : Same h1 ((h1.push (.cells zrow 111)).put h1.n (some (.cells l 111))) := ((Same.refl h1).push _).put (Nat.le_refl _) _
    generalize ((h1.push (.cells zrow 111)).put h1.n (some (.cells l 111))) = H at *
    have hz2 := hz.same S1
    refine Go.loop (α := Nat) (fun k => [(18, .int .i64 k), (6, .int .u32 (Crc.fold (4294967295 - s) (zs.take k) : Nat)), (17, .int .i64 len), (16, .slice a len cap), (5, .pointer (some ⟨h1.n, 0, none⟩))]) (fun _ => []) (fun _ => H) (fun k => k ≤ len) (fun k => len - k) 0 (Nat.zero_le _) ⟨rfl, rfl, rfl, rfl, rfl, trivial⟩ rfl rfl ?_
    rintro k hk
    rcases Nat.lt_or_ge k len with hlt | hge
    · have hcell := byte_at (zs := zs) (k := k) (by omega)
      have hst := Crc.fold_snoc (4294967295 - s) (zs.take k) (zs[k]'(by omega))
      rw [← List.take_succ_eq_append_getElem (by omega)] at hst
      have hr := Crc.fold_lt (4294967295 - s) (zs.take k) (by omega)
      have hcb := (zs[k]'(by omega)).toNat_lt
      generalize Crc.fold (4294967295 - s) (zs.take k) = r at *
      generalize (zs[k]'(by omega)).toNat = c at *
      have hj : (r % 256) ^^^ c < 2 ^ 8 := Nat.xor_lt_two_pow (by omega) hcb
      have hlj := hl3 _ hj
      have hv := Crc.it_lt 8 ((r % 256) ^^^ c) (Nat.lt_trans hj (by decide))
      rw [← Crc.beh_row] at hst
      have hrow : (r % 2 ^ 8) ^^^ c = (r % 256) ^^^ c := rfl
      rw [hrow] at hst
      (refine Go.run (g:=?_))
      refine GoR.xorN rfl rfl rfl rfl rfl rfl (show r % 256 < 2 ^ 8 by omega) hcb ?_
      generalize (r % 256) ^^^ c = j at *
      generalize Crc.it 8 j = v at *
      (refine Go.run (g:=?_))
      refine GoR.xorN rfl rfl rfl rfl rfl rfl hv (show r / 2 ^ 8 < 2 ^ 32 by omega) ?_
      (refine Go.run (g:=?_))
      refine Go.again (k + 1) hlt (by omega) ⟨rfl, ?_, rfl, rfl, rfl, trivial⟩ rfl rfl
      rw [hst]
      rfl
    · obtain rfl : k = len := by omega
      have hr := Crc.fold_lt (4294967295 - s) (zs.take k) (by omega)
      have ht : zs.take k = zs := List.take_of_length_le (by omega)
      rw [ht] at hr ⊢
      have hm : Crc.more s zs = 4294967295 - Crc.fold (4294967295 - s) zs := rfl
      rw [hm]
      generalize Crc.fold (4294967295 - s) zs = r at *
      (refine Go.run (g:=?_))
      refine GoR.com rfl rfl rfl rfl rfl (com_u32 hr) ?_
      (refine Go.run (g:=?_))
      (first|refine Go.finT (by first|exact .inr rfl|exact .inl rfl) rfl ?_|refine Go.fin1 (by first|exact .inr rfl|exact .inl rfl) rfl (hq:=?_))
      rfl
theorem crcSum_spec (a : Option Addr) (cap : Nat) (zs : List UInt8) (hl : zs.length ≤ 1000000000) (h : AHeap) (hz : Rv Try.prog h 1 a zs.length cap (zs.map bv)) : CallS Try.prog [] 70 [.slice a zs.length cap] h fun v h' => v = .int .u32 (Crc.sum zs : Nat) := by
  (refine CallS.of1 Try.func70 rfl Try.ntmps70 Try.results70 rfl ?_)
  (refine Go.run (g:=?_))
  refine GoR.call rfl rfl rfl rfl rfl rfl rfl (((crcMore_spec 0 (by decide) a cap zs hl _ hz).args (by first | rfl | (simp; fail_if_success focus skip) | (simp; omega) | (congr 2; omega))).mono ?_)
  rintro _ h1 rfl s1
  (refine Go.run (g:=?_))
  (first|refine Go.finT (by first|exact .inr rfl|exact .inl rfl) rfl ?_|refine Go.fin1 (by first|exact .inr rfl|exact .inl rfl) rfl (hq:=?_))
  rfl
theorem it_succ (k x : Nat) : Crc.it (k + 1) x = Crc.bit (Crc.it k x) := by rw [Crc.it_add]; rfl
theorem behind_spec (r c : Nat) (hr : r < 4294967296) (hc : c < 256) (h : AHeap) : CallS Try.prog [] 77 [.int .u32 r, .int .u8 c] h fun v h' => v = .int .u32 (Crc.beh r c : Nat) := by
  have hx : r ^^^ c < 2 ^ 32 := Nat.xor_lt_two_pow hr (by omega)
  have hb : Crc.beh r c = Crc.it 8 (r ^^^ c) := rfl
  rw [hb]
  (refine CallS.of2 Try.func77 rfl Try.ntmps77 Try.results77 rfl ?_)
  (refine Go.run (g:=?_))
  refine GoR.xorN rfl rfl rfl rfl rfl rfl hr (show c < 2 ^ 32 by omega) ?_
  generalize r ^^^ c = x at *
  (refine Go.run (g:=?_))
  refine Go.loop (α := Nat) (fun k => [(5, .int .i64 k), (0, .int .u32 (Crc.it k x : Nat))]) (fun _ => []) (fun _ => h) (fun k => k ≤ 8) (fun k => 8 - k) 0 (Nat.zero_le _) ⟨rfl, rfl, trivial⟩ rfl rfl ?_
  rintro k hk
  have hv := Crc.it_lt k x hx
  rcases Nat.lt_or_ge k 8 with hlt | hge
  · have hs := it_succ k x
    generalize Crc.it k x = y at *
    rcases Nat.mod_two_eq_zero_or_one y with h2 | h2
    · have hb : Crc.bit y = y / 2 := by unfold Crc.bit; rw [if_neg (by omega)]
      (refine Go.run (g:=?_))
      refine Go.again (k + 1) hlt (by omega) ⟨rfl, by rw [hs, hb]; rfl, trivial⟩ rfl rfl
    · have hb : Crc.bit y = (y / 2) ^^^ Crc.P := by unfold Crc.bit; rw [if_pos h2]
      (refine Go.run (g:=?_))
      refine GoR.xorN rfl rfl rfl rfl rfl rfl (show y / 2 < 2 ^ 32 by omega) (show 2197175160 < 2 ^ 32 by decide) ?_
      (refine Go.run (g:=?_))
      refine Go.again (k + 1) hlt (by omega) ⟨rfl, by rw [hs, hb]; rfl, trivial⟩ rfl rfl
  · obtain rfl : k = 8 := by omega
    (refine Go.run (g:=?_))
    (first|refine Go.finT (by first|exact .inr rfl|exact .inl rfl) rfl ?_|refine Go.fin1 (by first|exact .inr rfl|exact .inl rfl) rfl (hq:=?_))
    rfl
theorem refMore_spec (s : Nat) (hs : s < 4294967296) (a : Option Addr) (cap : Nat) (zs : List UInt8) (hl : zs.length ≤ 1000000000) (h : AHeap) (hz : Rv Try.prog h 1 a zs.length cap (zs.map bv)) : CallS Try.prog [] 71 [.int .u32 s, .slice a zs.length cap] h fun v h' => v = .int .u32 (Crc.more s zs : Nat) := by
  generalize hlen : zs.length = len at *
  (refine CallS.of2 Try.func71 rfl Try.ntmps71 Try.results71 rfl ?_)
  (refine Go.run (g:=?_))
  refine Go.loop (α := Nat × AHeap) (fun k => [(6, .int .i64 k.1), (5, .int .u32 (Crc.fold (4294967295 - s) (zs.take k.1) : Nat)), (1, .slice a len cap)]) (fun _ => []) (fun k => k.2) (fun k => k.1 ≤ len ∧ Same h k.2) (fun k => len - k.1) (0, h) ?_ ?_ rfl rfl ?_
  · exact ⟨Nat.zero_le _, Same.refl h⟩
  · exact ⟨rfl, rfl, rfl, trivial⟩
  rintro ⟨k, h1⟩ ⟨hk, s1⟩
  simp only at hk s1 ⊢
  have hr := Crc.fold_lt (4294967295 - s) (zs.take k) (by omega)
  rcases Nat.lt_or_ge k len with hlt | hge
  · have hcell := byte_at (zs := zs) (k := k) (by omega)
    have hst := Crc.fold_snoc (4294967295 - s) (zs.take k) (zs[k]'(by omega))
    rw [← List.take_succ_eq_append_getElem (by omega)] at hst
    have hcb := (zs[k]'(by omega)).toNat_lt
    generalize Crc.fold (4294967295 - s) (zs.take k) = r at *
    generalize (zs[k]'(by omega)).toNat = c at *
    have hz1 := hz.same s1
    (refine Go.run (g:=?_))
    refine GoR.call rfl rfl rfl rfl rfl rfl rfl (((behind_spec r c hr hcb _).args (by first | rfl | (simp; fail_if_success focus skip) | (simp; omega) | (congr 2; omega))).mono ?_)
    rintro _ h2 rfl s2
    (refine Go.run (g:=?_))
    refine Go.again (k + 1, h2) ⟨hlt, s1.trans s2⟩ (by simp only; omega) ⟨rfl, ?_, rfl, trivial⟩ rfl rfl
    rw [hst]
    rfl
  · obtain rfl : k = len := by omega
    have ht : zs.take k = zs := List.take_of_length_le (by omega)
    rw [ht] at hr ⊢
    have hm : Crc.more s zs = 4294967295 - Crc.fold (4294967295 - s) zs := rfl
    rw [hm]
    generalize Crc.fold (4294967295 - s) zs = r at *
    (refine Go.run (g:=?_))
    (first|refine Go.finT (by first|exact .inr rfl|exact .inl rfl) rfl ?_|refine Go.fin1 (by first|exact .inr rfl|exact .inl rfl) rfl (hq:=?_))
    rfl
theorem refSum_spec (a : Option Addr) (cap : Nat) (zs : List UInt8) (hl : zs.length ≤ 1000000000) (h : AHeap) (hz : Rv Try.prog h 1 a zs.length cap (zs.map bv)) : CallS Try.prog [] 50 [.slice a zs.length cap] h fun v h' => v = .int .u32 (Crc.sum zs : Nat) := by
  (refine CallS.of1 Try.func50 rfl Try.ntmps50 Try.results50 rfl ?_)
  (refine Go.run (g:=?_))
  refine GoR.call rfl rfl rfl rfl rfl rfl rfl (((refMore_spec 0 (by decide) a cap zs hl _ hz).args (by first | rfl | (simp; fail_if_success focus skip) | (simp; omega) | (congr 2; omega))).mono ?_)
  rintro _ h1 rfl s1
  (refine Go.run (g:=?_))
  (first|refine Go.finT (by first|exact .inr rfl|exact .inl rfl) rfl ?_|refine Go.fin1 (by first|exact .inr rfl|exact .inl rfl) rfl (hq:=?_))
  rfl
end Go.Proofs.Ytmelgnpogdilgaa

/- lanyardref03.Bytes: its contract on the abstract heap. No conditions. -/
namespace Go.Proofs.Ytmelgnpogdilgaa
set_option linter.unusedVariables false
set_option maxRecDepth 100000
attribute [local irreducible] Go GoR GoL
/-- The bytes of a number, the highest first. -/
def beB (n x : Nat) : List UInt8 := (List.range n).map fun j => UInt8.ofNat (x / 256 ^ (n - 1 - j))
theorem beB_length (n x : Nat) : (beB n x).length = n := by simp [beB]
/-- A slice of bytes of the call's own, alone. -/
def OwnS (h h' : AHeap) (v : Value) (l : List UInt8) : Prop := ∃ b cap, v = .slice b l.length cap ∧ Sv h' 5 1 b l.length cap (l.map bv) ∧ Own h.n b
set_option maxHeartbeats 4000000 in
theorem bytes_spec (x n : Nat) (hx : x < 2 ^ 64) (hn : n ≤ 8) (h : AHeap) : CallS Try.prog [] 41 [.int .u64 x, .int .i64 n] h fun v h' => OwnS h h' v (beB n x) := by
  have hx' : x < 18446744073709551616 := hx
  (refine CallS.of2 Try.func41 rfl Try.ntmps41 Try.results41 rfl ?_)
  (refine Go.run (g:=?_))
  refine GoR.makeO rfl rfl rfl rfl rfl rfl rfl (by omega) (by omega) ?_
  intro b h1 hb ob s1 n1
  (refine Go.run (g:=?_))
  refine Go.loop (α := Nat × List Value × AHeap) (fun a => [(6, .int .i64 ((a.1 : Int) - 1)), (5, .slice b n n), (0, .int .u64 ((x / 256 ^ (n - a.1) : Nat) : Int))]) (fun _ => []) (fun a => a.2.2)
    (fun a => a.1 ≤ n ∧ Same h a.2.2 ∧ Sv a.2.2 5 1 b n n a.2.1 ∧ ∀ j, a.1 ≤ j → j < n → a.2.1[j]? = some (bv (UInt8.ofNat (x / 256 ^ (n - 1 - j))))) (fun a => a.1) (n, List.replicate n (.int .u8 0), h1) ?_ ?_ rfl rfl ?_
  · exact ⟨Nat.le_refl _, s1, hb, fun j h1 h2 => by omega⟩
  · exact ⟨rfl, rfl, by rw [Nat.sub_self, Nat.pow_zero, Nat.div_one]; rfl, trivial⟩
  · rintro ⟨k, c, h2⟩ ⟨hk, s2, hc, hd⟩
    simp only at hk s2 hc hd ⊢
    have hcl : c.length = n := by have := hc.length; omega
    rcases Nat.eq_zero_or_pos k with h0 | h0
    · subst h0
      (refine Go.run (g:=?_))
      (first|refine Go.finT (by first|exact .inr rfl|exact .inl rfl) rfl ?_|refine Go.fin1 (by first|exact .inr rfl|exact .inl rfl) rfl (hq:=?_))
      refine ⟨b, n, by rw [beB_length]; rfl, ?_, ob⟩
      rw [beB_length]
      have : c = (beB n x).map bv := by
        apply List.ext_getElem? 
        intro j
        rcases Nat.lt_or_ge j n with hj | hj
        · rw [hd j (Nat.zero_le _) hj]
          simp [beB, hj]
        · rw [List.getElem?_eq_none (by omega), List.getElem?_eq_none (by simp [beB_length]; omega)]
      rw [← this]
      exact hc
    · obtain ⟨k, rfl⟩ : ∃ j, k = j + 1 := ⟨k - 1, by omega⟩
      have ek : ((k + 1 : Nat) : Int) - 1 = (k : Int) := by omega
      rw [ek]
      have hq : x / 256 ^ (n - (k + 1)) < 18446744073709551616 := Nat.lt_of_le_of_lt (Nat.div_le_self _ _) hx'
      (refine Go.run (g:=?_))
      refine GoR.store1' rfl rfl rfl rfl rfl rfl (g:=?_)
      intro h3 hc3 k3 n3
      (refine Go.run (g:=?_))
      refine Go.again (k, c.set k (.int .u8 (((x / 256 ^ (n - (k + 1))) % 256 % 256 : Nat) : Int)), h3) ⟨by omega, s2.ownO k3 ob (Nat.le_refl _), hc3, fun j h1 h2 => ?_⟩ (by simp) ?_ rfl rfl
      · rw [List.getElem?_set]
        by_cases hj : k = j
        · subst hj
          rw [if_pos rfl, if_pos (by omega), bv_ofNat]
          have : n - (k + 1) = n - 1 - k := by omega
          rw [this]
          simp
        · rw [if_neg hj]
          exact hd j (by omega) h2
      · refine ⟨rfl, rfl, ?_, trivial⟩
        have e : x / 256 ^ (n - k) = x / 256 ^ (n - (k + 1)) / 256 := by
          rw [Nat.div_div_eq_div_mul, ← Nat.pow_succ]
          congr 2
          omega
        rw [e]
        rfl
theorem beB2 (x : Nat) : beB 2 x = [UInt8.ofNat (x / 256), UInt8.ofNat x] := by simp [beB, List.range_succ]
/-- A slice of bytes of the call's own, and no error. -/
def OwnE (h h' : AHeap) (v : Value) (l : List UInt8) : Prop := ∃ b cap, v = .tuple #[.slice b l.length cap, .int .i64 0] ∧ Sv h' 5 1 b l.length cap (l.map bv) ∧ Own h.n b
end Go.Proofs.Ytmelgnpogdilgaa

/- head: plain. No conditions. -/
namespace Go.Proofs.Ytmelgnpogdilgaa
set_option linter.unusedVariables false
/-- Bytes as a number, the highest first. -/
def beNum (l : List UInt8) : Nat := l.foldl (fun n c => n * 256 + c.toNat) 0
theorem beNum_snoc (l : List UInt8) (c : UInt8) : beNum (l ++ [c]) = beNum l * 256 + c.toNat := by simp [beNum]
theorem beNum_lt (l : List UInt8) : beNum l < 256 ^ l.length := by
  have h : ∀ (r : List UInt8), beNum r.reverse < 256 ^ r.length := by
    intro r
    induction r with
    | nil => decide
    | cons c r ih =>
      rw [List.reverse_cons, beNum_snoc, List.length_cons, Nat.pow_succ]
      have := c.toNat_lt
      omega
  have := h l.reverse
  simpa using this
theorem or_byte (n c : Nat) (hc : c < 256) : n * 2 ^ 8 ||| c = n * 256 + c := or_of_lt (n := 8) hc
theorem beNum_lt_of {l : List UInt8} {k n : Nat} (h : l.length ≤ k) (hn : 256 ^ k = n) : beNum l < n := by
  subst hn
  exact Nat.lt_of_lt_of_le (beNum_lt l) (Nat.pow_le_pow_right (by decide) h)
theorem beB4 (x : Nat) : beB 4 x = [UInt8.ofNat (x / 16777216), UInt8.ofNat (x / 65536), UInt8.ofNat (x / 256), UInt8.ofNat x] := by simp [beB, List.range_succ]
theorem beB4_split (f t : Nat) (ht : t < 65536) : beB 4 (f * 65536 + t) = beB 2 f ++ beB 2 t := by
  rw [beB4, beB2, beB2]
  have e : ∀ a b : Nat, a % 256 = b % 256 → UInt8.ofNat a = UInt8.ofNat b := fun a b h => by
    apply UInt8.toNat_inj.1
    simp only [UInt8.toNat_ofNat']
    exact h
  simp only [List.cons_append, List.nil_append]
  rw [e ((f * 65536 + t) / 16777216) (f / 256) (by omega), e ((f * 65536 + t) / 65536) f (by omega), e ((f * 65536 + t) / 256) (t / 256) (by omega), e (f * 65536 + t) t (by omega)]
/-- The sum that a packet is to have. -/
def headSum (l : List UInt8) : Nat := Crc.sum (l.take 8 ++ [0, 0, 0, 0] ++ l.drop 12)
theorem headSum_eq (l : List UInt8) : Crc.more (Crc.more (Crc.sum (l.take 8)) [0, 0, 0, 0]) (l.drop 12) = headSum l := by
  unfold headSum Crc.sum
  rw [Crc.more_append 0 _ _ (by decide), Crc.more_append 0 _ _ (by decide)]
/-- A packet's bytes with a sum. -/
def hbytes (f t g s : Nat) (v : List UInt8) : List UInt8 := beB 2 f ++ beB 2 t ++ beB 4 g ++ beB 4 s ++ v
theorem hbytes_length (f t g s : Nat) (v : List UInt8) : (hbytes f t g s v).length = 12 + v.length := by simp [hbytes, beB_length]; omega
def hput (f t g : Nat) (v : List UInt8) : List UInt8 := hbytes f t g (Crc.sum (hbytes f t g 0 v)) v
end Go.Proofs.Ytmelgnpogdilgaa

/- head: plain: bytes and numbers, there and back. No conditions. -/
namespace Go.Proofs.Ytmelgnpogdilgaa
set_option linter.unusedVariables false
theorem oneBv (l : List UInt8) : (l.map bv).all Value.oneCell' = true := by simp [bv, Value.oneCell']
theorem Rv.put {P : Program} {h : AHeap} {sz len cap b : Nat} {a : Option Addr} {cs : List Value} (k : Rv P h sz a len cap cs) (hb : b ∉ blk a) (o : Option AObj) : Rv P (h.put b o) sz a len cap cs := by
  cases k with
  | nil => exact .nil
  | mk hg ho hl hc => exact .mk (by rw [AHeap.get_put_ne _ _ (fun e => hb (by simp [blk, e]))]; exact hg) ho hl hc
theorem beNum_nil : beNum [] = 0 := rfl
theorem beB_succ (n x : Nat) : beB (n + 1) x = beB n (x / 256) ++ [UInt8.ofNat x] := by
  unfold beB
  rw [List.range_succ, List.map_append]
  congr 1
  · apply List.map_congr_left
    intro j hj
    simp only [List.mem_range] at hj
    congr 1
    rw [Nat.div_div_eq_div_mul]
    congr 1
    rw [Nat.mul_comm, ← Nat.pow_succ]
    congr 1
    omega
  · simp
theorem beB_beNum (l : List UInt8) : beB l.length (beNum l) = l := by
  have h : ∀ r : List UInt8, beB r.reverse.length (beNum r.reverse) = r.reverse := by
    intro r
    induction r with
    | nil => rfl
    | cons c r ih =>
      rw [List.reverse_cons, beNum_snoc, List.length_append]
      have hc := c.toNat_lt
      show beB (r.reverse.length + 1) _ = _
      rw [beB_succ]
      have e1 : (beNum r.reverse * 256 + c.toNat) / 256 = beNum r.reverse := by omega
      have e2 : UInt8.ofNat (beNum r.reverse * 256 + c.toNat) = c := by
        apply UInt8.toNat_inj.1
        simp only [UInt8.toNat_ofNat']
        omega
      rw [e1, e2, ih]
  have := h l.reverse
  simpa using this
theorem beB_beNum_n {n : Nat} {l : List UInt8} (h : l.length = n) : beB n (beNum l) = l := by subst h; exact beB_beNum l
theorem beNum_beB (n x : Nat) (h : x < 256 ^ n) : beNum (beB n x) = x := by
  induction n generalizing x with
  | zero => simp at h; subst h; rfl
  | succ n ih =>
    rw [beB_succ, beNum_snoc, ih (x / 256) (by rw [Nat.pow_succ] at h; omega)]
    simp only [UInt8.toNat_ofNat']
    omega
theorem beNum_inj {a b : List UInt8} (hl : a.length = b.length) (h : beNum a = beNum b) : a = b := by
  have := beB_beNum a
  rw [h, hl, beB_beNum] at this
  exact this.symm
/-- A packet's parts. -/
theorem hbytes_parts (zs : List UInt8) (h : 12 ≤ zs.length) : zs = (zs.take 2) ++ (zs.drop 2).take 2 ++ (zs.drop 4).take 4 ++ (zs.drop 8).take 4 ++ zs.drop 12 := by
  have e : ∀ (k j : Nat), zs.drop k = (zs.drop k).take j ++ zs.drop (k + j) := fun k j => by
    rw [← List.drop_drop]; exact (List.take_append_drop _ _).symm
  conv => lhs; rw [← List.take_append_drop 2 zs, e 2 2, e 4 4, e 8 4]
  simp
theorem hbytes_of (zs : List UInt8) (h : 12 ≤ zs.length) : hbytes (beNum (zs.take 2)) (beNum ((zs.drop 2).take 2)) (beNum ((zs.drop 4).take 4)) (beNum ((zs.drop 8).take 4)) (zs.drop 12) = zs := by
  unfold hbytes
  rw [beB_beNum_n (by simp; omega), beB_beNum_n (by simp; omega), beB_beNum_n (by simp; omega), beB_beNum_n (by simp; omega)]
  exact (hbytes_parts zs h).symm
theorem headSum_of (zs : List UInt8) (h : 12 ≤ zs.length) : headSum zs = Crc.sum (hbytes (beNum (zs.take 2)) (beNum ((zs.drop 2).take 2)) (beNum ((zs.drop 4).take 4)) 0 (zs.drop 12)) := by
  unfold headSum hbytes
  rw [beB_beNum_n (by simp; omega), beB_beNum_n (by simp; omega), beB_beNum_n (by simp; omega)]
  congr 1
  have e : zs.take 8 = zs.take 2 ++ (zs.drop 2).take 2 ++ (zs.drop 4).take 4 := by
    rw [← List.take_add, ← List.take_add]
  rw [e]
  congr 1
theorem hbytes_inj_sum {f t g s s' : Nat} {v : List UInt8} (h1 : s < 4294967296) (h2 : s' < 4294967296) (h : hbytes f t g s v = hbytes f t g s' v) : s = s' := by
  unfold hbytes at h
  have h' := List.append_cancel_right h
  have h'' := List.append_cancel_left h'
  have := congrArg beNum h''
  rwa [beNum_beB 4 s (by simpa using h1), beNum_beB 4 s' (by simpa using h2)] at this
theorem headSum_lt (l : List UInt8) : headSum l < 4294967296 := Crc.more_lt _ _
theorem hput_of (zs : List UInt8) (h : 12 ≤ zs.length) : hput (beNum (zs.take 2)) (beNum ((zs.drop 2).take 2)) (beNum ((zs.drop 4).take 4)) (zs.drop 12) = zs ↔ beNum ((zs.drop 8).take 4) = headSum zs := by
  have hl : beNum ((zs.drop 8).take 4) < 4294967296 := beNum_lt_of (k := 4) (by simp; omega) rfl
  unfold hput
  rw [← headSum_of zs h]
  constructor
  · intro e
    have : hbytes (beNum (zs.take 2)) (beNum ((zs.drop 2).take 2)) (beNum ((zs.drop 4).take 4)) (headSum zs) (zs.drop 12) = hbytes (beNum (zs.take 2)) (beNum ((zs.drop 2).take 2)) (beNum ((zs.drop 4).take 4)) (beNum ((zs.drop 8).take 4)) (zs.drop 12) := by
      rw [e, hbytes_of zs h]
    exact (hbytes_inj_sum (headSum_lt _) hl this).symm
  · intro e
    rw [← e, hbytes_of zs h]
end Go.Proofs.Ytmelgnpogdilgaa

/- tlv: plain: the things of any bytes. No conditions. -/
namespace Go.Proofs.Ytmelgnpogdilgaa
set_option linter.unusedVariables false
abbrev Thing := Nat × Nat × List UInt8
def up4 (n : Nat) : Nat := (n + 3) / 4 * 4
def tN (z : List UInt8) : Nat := beNum ((z.drop 2).take 2)
/-- There is a whole thing at the front. -/
def Whole (z : List UInt8) : Prop := 4 ≤ z.length ∧ 4 ≤ tN z ∧ up4 (tN z) ≤ z.length ∧ ((z.drop (tN z)).take (up4 (tN z) - tN z)).all (· == 0) = true
instance (z : List UInt8) : Decidable (Whole z) := by unfold Whole; infer_instance
def thing (chunk : Bool) (z : List UInt8) : Thing := (if chunk then beNum (z.take 1) else beNum (z.take 2), if chunk then beNum ((z.drop 1).take 1) else 0, (z.drop 4).take (tN z - 4))
def parse (chunk : Bool) (z : List UInt8) : List Thing × Bool :=
  if h0 : z = [] then ([], true) else if h : Whole z then (thing chunk z :: (parse chunk (z.drop (up4 (tN z)))).1, (parse chunk (z.drop (up4 (tN z)))).2) else ([], false)
termination_by z.length
decreasing_by all_goals (have := h.2.1; have := h.1; simp [up4]; omega)
theorem parse_nil (chunk : Bool) : parse chunk [] = ([], true) := by rw [parse]; simp
theorem parse_some {chunk : Bool} {z : List UInt8} (h : Whole z) : parse chunk z = (thing chunk z :: (parse chunk (z.drop (up4 (tN z)))).1, (parse chunk (z.drop (up4 (tN z)))).2) := by
  have h0 : z ≠ [] := by intro e; subst e; have := h.1; simp at this
  rw [parse]; simp [h0, h]
theorem parse_none {chunk : Bool} {z : List UInt8} (h0 : z ≠ []) (h : ¬ Whole z) : parse chunk z = ([], false) := by
  rw [parse]; simp [h0, h]
theorem thing_len {chunk : Bool} {z : List UInt8} (h : Whole z) : (thing chunk z).2.2.length = tN z - 4 := by
  have := h.2.2.1
  have : tN z ≤ up4 (tN z) := by unfold up4; omega
  simp [thing]; omega
theorem up4_le (n : Nat) : n ≤ up4 n ∧ up4 n < n + 4 := by unfold up4; omega
theorem thing_bounds {chunk : Bool} {z : List UInt8} : (thing chunk z).1 < 65536 ∧ (thing chunk z).2.1 < 256 := by
  unfold thing
  cases chunk
  · exact ⟨beNum_lt_of (k := 2) (by simp; omega) rfl, by simp⟩
  · exact ⟨Nat.lt_of_lt_of_le (beNum_lt_of (k := 1) (by simp; omega) rfl : _ < 256) (by decide), beNum_lt_of (k := 1) (by simp; omega) rfl⟩
theorem parse_len {chunk : Bool} : ∀ (z : List UInt8), 4 * (parse chunk z).1.length ≤ z.length := by
  intro z
  induction hn : z.length using Nat.strongRecOn generalizing z with
  | _ n ih =>
    by_cases h0 : z = []
    · subst h0; rw [parse_nil]; simp
    · by_cases h : Whole z
      · rw [parse_some h]
        have h1 := h.1
        have h2 := h.2.1
        have h3 := h.2.2.1
        have := up4_le (tN z)
        have ih' := ih (z.drop (up4 (tN z))).length (by simp; omega) (z.drop (up4 (tN z))) rfl
        simp at ih' ⊢
        omega
      · rw [parse_none h0 h]; simp
theorem beNum_one (x : UInt8) : beNum [x] = x.toNat := by simp [beNum]
theorem take_one {z : List UInt8} {i : Nat} (h : i < z.length) : (z.drop i).take 1 = [z[i]] := by
  rw [List.drop_eq_getElem_cons h]; rfl
theorem take_two {z : List UInt8} {i : Nat} (h : i + 1 < z.length) : (z.drop i).take 2 = [z[i], z[i + 1]] := by
  rw [List.drop_eq_getElem_cons (show i < z.length by omega), List.drop_eq_getElem_cons h]; rfl
theorem beNum_two (x y : UInt8) : beNum [x, y] = x.toNat * 256 + y.toNat := by simp [beNum]
theorem up4_def (n : Nat) : (n + 3) / 4 * 4 = up4 n := rfl
end Go.Proofs.Ytmelgnpogdilgaa

/- tlv: plain: what is put is parsed, and what is parsed whole is put. No conditions. -/
namespace Go.Proofs.Ytmelgnpogdilgaa
set_option linter.unusedVariables false
set_option maxRecDepth 100000
/-- A thing that may be put. -/
def Puts (chunk : Bool) (x : Thing) : Prop := x.1 < 65536 ∧ x.2.1 < 256 ∧ (chunk = true → x.1 ≤ 255) ∧ (chunk = false → x.2.1 = 0) ∧ x.2.2.length ≤ 65531
def tb (chunk : Bool) (x : Thing) : List UInt8 := tlvB chunk x.1 x.2.1 x.2.2
theorem tb_len (chunk : Bool) (x : Thing) : (tb chunk x).length = up4 (x.2.2.length + 4) := tlvB_length _ _ _ _
def hd4 (chunk : Bool) (x : Thing) : List UInt8 := (if chunk then [UInt8.ofNat x.1, UInt8.ofNat x.2.1] else [UInt8.ofNat (x.1 / 256), UInt8.ofNat x.1]) ++ [UInt8.ofNat ((4 + x.2.2.length) / 256), UInt8.ofNat (4 + x.2.2.length)]
theorem hd4_len (chunk : Bool) (x : Thing) : (hd4 chunk x).length = 4 := by cases chunk <;> rfl
theorem tb_eq (chunk : Bool) (x : Thing) : tb chunk x = hd4 chunk x ++ (x.2.2 ++ List.replicate (up4 (x.2.2.length + 4) - 4 - x.2.2.length) 0) := by
  simp only [tb, tlvB, hd4, up4, List.append_assoc]
theorem tb_N {chunk : Bool} {x : Thing} (h : Puts chunk x) (r : List UInt8) : tN (tb chunk x ++ r) = x.2.2.length + 4 := by
  have e : ((tb chunk x ++ r).drop 2).take 2 = [UInt8.ofNat ((4 + x.2.2.length) / 256), UInt8.ofNat (4 + x.2.2.length)] := by
    rw [tb_eq]; cases chunk <;> simp [hd4]
  have hl := h.2.2.2.2
  rw [tN, e, beNum_two]
  simp only [UInt8.toNat_ofNat']
  omega
theorem tb_whole {chunk : Bool} {x : Thing} (h : Puts chunk x) (r : List UInt8) : Whole (tb chunk x ++ r) := by
  have hu := up4_le (x.2.2.length + 4)
  refine ⟨by rw [List.length_append, tb_len]; omega, by rw [tb_N h]; omega, by rw [tb_N h, List.length_append, tb_len]; omega, ?_⟩
  rw [tb_N h]
  have e : ((tb chunk x ++ r).drop (x.2.2.length + 4)).take (up4 (x.2.2.length + 4) - (x.2.2.length + 4)) = List.replicate (up4 (x.2.2.length + 4) - 4 - x.2.2.length) 0 := by
    rw [tb_eq, ← List.append_assoc, List.append_assoc, ← List.append_assoc, List.append_assoc, List.drop_left' (by rw [List.length_append, hd4_len]; omega), List.take_left' (by rw [List.length_replicate]; omega)]
  rw [e]
  simp
theorem tb_thing {chunk : Bool} {x : Thing} (h : Puts chunk x) (r : List UInt8) : thing chunk (tb chunk x ++ r) = x := by
  obtain ⟨k, f, z⟩ := x
  obtain ⟨h1, h2, h3, h4, h5⟩ := h
  simp only at h1 h2 h3 h4 h5
  have hN := tb_N (chunk := chunk) (x := (k, f, z)) ⟨h1, h2, h3, h4, h5⟩ r
  have hv : ((tb chunk (k, f, z) ++ r).drop 4).take (tN (tb chunk (k, f, z) ++ r) - 4) = z := by
    rw [hN, tb_eq, List.append_assoc, List.drop_left' (hd4_len _ _), List.append_assoc]
    exact List.take_left' (by simp)
  cases chunk with
  | false =>
    have e : (tb false (k, f, z) ++ r).take 2 = [UInt8.ofNat (k / 256), UInt8.ofNat k] := by rw [tb_eq]; simp [hd4]
    have := h4 rfl
    subst this
    simp only [thing, hv, e, beNum_two, UInt8.toNat_ofNat', Bool.false_eq_true, if_false]
    congr 1
    omega
  | true =>
    have e : (tb true (k, f, z) ++ r).take 1 = [UInt8.ofNat k] := by rw [tb_eq]; simp [hd4]
    have e2 : ((tb true (k, f, z) ++ r).drop 1).take 1 = [UInt8.ofNat f] := by rw [tb_eq]; simp [hd4]
    have := h3 rfl
    simp only [thing, hv, e, e2, beNum_one, UInt8.toNat_ofNat', if_true]
    congr 1
    · omega
    · congr 1
      omega
theorem parse_tb {chunk : Bool} {x : Thing} (h : Puts chunk x) (r : List UInt8) : parse chunk (tb chunk x ++ r) = (x :: (parse chunk r).1, (parse chunk r).2) := by
  have e : (tb chunk x ++ r).drop (up4 (tN (tb chunk x ++ r))) = r := by
    rw [tb_N h]; exact List.drop_left' (tb_len _ _)
  rw [parse_some (tb_whole h r), tb_thing h r, e]
/-- The bytes of things, one behind the other. -/
def tbs (chunk : Bool) (xs : List Thing) : List UInt8 := (xs.map (tb chunk)).flatten
theorem parse_tbs {chunk : Bool} (xs : List Thing) (h : ∀ x ∈ xs, Puts chunk x) (r : List UInt8) : parse chunk (tbs chunk xs ++ r) = (xs ++ (parse chunk r).1, (parse chunk r).2) := by
  induction xs with
  | nil => simp [tbs]
  | cons x xs ih =>
    have ih' := ih fun y hy => h y (by simp [hy])
    have e : tbs chunk (x :: xs) ++ r = tb chunk x ++ (tbs chunk xs ++ r) := by simp [tbs]
    rw [e, parse_tb (h x (by simp)), ih']
    rfl
theorem thing_puts {chunk : Bool} {z : List UInt8} (h : Whole z) : Puts chunk (thing chunk z) := by
  have hN : tN z < 65536 := beNum_lt_of (k := 2) (by simp; omega) rfl
  have hb := thing_bounds (chunk := chunk) (z := z)
  refine ⟨hb.1, hb.2, fun e => ?_, fun e => ?_, by rw [thing_len h]; omega⟩
  · subst e
    have : beNum (z.take 1) < 256 := beNum_lt_of (k := 1) (by simp; omega) rfl
    simp [thing]; omega
  · subst e; rfl
theorem tb_thing_eq {chunk : Bool} {z : List UInt8} (h : Whole z) : tb chunk (thing chunk z) = z.take (up4 (tN z)) := by
  have hl := thing_len (chunk := chunk) h
  have hu := up4_le (tN z)
  obtain ⟨h1, h2, h3, h4⟩ := h
  have e4 : (thing chunk z).2.2.length + 4 = tN z := by rw [hl]; omega
  have hd : hd4 chunk (thing chunk z) = z.take 4 := by
    have t2 : (z.drop 2).take 2 = beB 2 (tN z) := (beB_beNum_n (by simp; omega)).symm
    have e : z.take 4 = z.take 2 ++ (z.drop 2).take 2 := by rw [← List.take_add]
    rw [e, t2, beB2]
    unfold hd4
    rw [Nat.add_comm 4, e4]
    congr 1
    cases chunk with
    | false =>
      simp only [thing, Bool.false_eq_true, if_false]
      rw [← beB2, beB_beNum_n (by simp; omega)]
    | true =>
      have a0 := take_two (z := z) (i := 0) (by omega)
      have a1 := take_one (z := z) (i := 0) (by omega)
      have a2 := take_one (z := z) (i := 1) (by omega)
      rw [List.drop_zero] at a0 a1
      simp only [thing, if_true, a0, a1, a2, beNum_one]
      simp
  have hv : (thing chunk z).2.2 = (z.drop 4).take (tN z - 4) := rfl
  have hp : List.replicate (up4 ((thing chunk z).2.2.length + 4) - 4 - (thing chunk z).2.2.length) (0 : UInt8) = (z.drop (tN z)).take (up4 (tN z) - tN z) := by
    rw [e4, hl]
    symm
    apply List.eq_replicate_iff.2
    refine ⟨by simp; omega, fun b hb => ?_⟩
    have := List.all_eq_true.1 h4 b hb
    simpa using this
  rw [tb_eq, hd, hp, hv]
  have s1 : z.take (up4 (tN z)) = z.take 4 ++ (z.drop 4).take (up4 (tN z) - 4) := by
    rw [← List.take_add]; congr 1; omega
  have s2 : (z.drop 4).take (up4 (tN z) - 4) = (z.drop 4).take (tN z - 4) ++ ((z.drop 4).drop (tN z - 4)).take (up4 (tN z) - tN z) := by
    rw [← List.take_add]; congr 1; omega
  rw [s1, s2, List.drop_drop]
  congr 4
  omega
theorem tbs_parse {chunk : Bool} : ∀ (z : List UInt8), (parse chunk z).2 = true → tbs chunk (parse chunk z).1 = z ∧ ∀ x ∈ (parse chunk z).1, Puts chunk x := by
  intro z
  induction hn : z.length using Nat.strongRecOn generalizing z with
  | _ n ih =>
    intro hw
    by_cases h0 : z = []
    · subst h0; rw [parse_nil]; exact ⟨rfl, fun x hx => by cases hx⟩
    · by_cases h : Whole z
      · rw [parse_some h] at hw ⊢
        have hu := up4_le (tN z)
        have h2 := h.2.1
        have h1 := h.1
        obtain ⟨i1, i2⟩ := ih (z.drop (up4 (tN z))).length (by simp; omega) (z.drop (up4 (tN z))) rfl hw
        refine ⟨?_, fun x hx => ?_⟩
        · show tb chunk (thing chunk z) ++ tbs chunk _ = z
          rw [i1, tb_thing_eq h]
          exact List.take_append_drop _ _
        · rcases List.mem_cons.1 hx with rfl | hx
          · exact thing_puts h
          · exact i2 x hx
      · rw [parse_none h0 h] at hw; cases hw
end Go.Proofs.Ytmelgnpogdilgaa

/- tlv: contracts on the abstract heap. No conditions. -/
namespace Go.Proofs.Ytmelgnpogdilgaa
set_option linter.unusedVariables false
set_option maxRecDepth 100000
attribute [local irreducible] Go GoR GoL
theorem up_spec (n : Nat) (hn : n ≤ 1000000000) (h : AHeap) : CallS Try.prog [] 42 [.int .i64 n] h fun v h' => v = .int .i64 ((n + 3) / 4 * 4 : Nat) := by
  (refine CallS.of1 Try.func42 rfl Try.ntmps42 Try.results42 rfl ?_)
  (refine Go.run (g:=?_))
  refine GoR.binE _ rfl rfl rfl rfl rfl rfl (iAndNot3 (x := n + 3) (by omega)) ?_
  (refine Go.run (g:=?_))
  (first|refine Go.finT (by first|exact .inr rfl|exact .inl rfl) rfl ?_|refine Go.fin1 (by first|exact .inr rfl|exact .inl rfl) rfl (hq:=?_))
  rfl
/-- A thing, by value. -/
abbrev tlvV (kind flags : Nat) (a : Option Addr) (len cap : Nat) : Value := .agg #[.int .u16 kind, .int .u8 flags, .slice a len cap]
theorem size_spec (kind flags : Nat) (a : Option Addr) (len cap : Nat) (hn : len ≤ 100000000) (h : AHeap) : CallS Try.prog [] 17 [tlvV kind flags a len cap] h fun v h' => v = .int .i64 ((len + 4 + 3) / 4 * 4 : Nat) := by
  (refine CallS.of1 Try.func17 rfl Try.ntmps17 Try.results17 rfl ?_)
  (refine Go.run (g:=?_))
  refine GoR.call rfl rfl rfl rfl rfl rfl rfl (((up_spec (len + 4) (by omega) _).args (by first | rfl | (simp; fail_if_success focus skip) | (simp; omega) | (congr 2; omega))).mono ?_)
  rintro _ h1 rfl s1
  (refine Go.run (g:=?_))
  (first|refine Go.finT (by first|exact .inr rfl|exact .inl rfl) rfl ?_|refine Go.fin1 (by first|exact .inr rfl|exact .inl rfl) rfl (hq:=?_))
  rfl
theorem put_err1 (kind flags : Nat) (a : Option Addr) (len cap : Nat) (hk : 255 < kind) (h : AHeap) : CallS Try.prog [] 15 [.bool true, tlvV kind flags a len cap] h fun v h' => v = .tuple #[.slice none 0 0, .int .i64 2] := by
  (refine CallS.of2 Try.func15 rfl Try.ntmps15 Try.results15 rfl ?_)
  (refine Go.run (g:=?_))
  (first|refine Go.finT (by first|exact .inr rfl|exact .inl rfl) rfl ?_|refine Go.fin1 (by first|exact .inr rfl|exact .inl rfl) rfl (hq:=?_))
  rfl
theorem put_err2 (kind flags : Nat) (a : Option Addr) (len cap : Nat) (hk : flags ≠ 0) (h : AHeap) : CallS Try.prog [] 15 [.bool false, tlvV kind flags a len cap] h fun v h' => v = .tuple #[.slice none 0 0, .int .i64 2] := by
  (refine CallS.of2 Try.func15 rfl Try.ntmps15 Try.results15 rfl ?_)
  (refine Go.run (g:=?_))
  (first|refine Go.finT (by first|exact .inr rfl|exact .inl rfl) rfl ?_|refine Go.fin1 (by first|exact .inr rfl|exact .inl rfl) rfl (hq:=?_))
  rfl
set_option maxHeartbeats 2000000 in
theorem put_err3 (chunk : Bool) (kind flags : Nat) (a : Option Addr) (len cap : Nat) (hl : len ≤ 1000000000) (h1 : chunk = true → kind ≤ 255) (h2 : chunk = false → flags = 0) (hk : 65531 < len) (h : AHeap) : CallS Try.prog [] 15 [.bool chunk, tlvV kind flags a len cap] h fun v h' => v = .tuple #[.slice none 0 0, .int .i64 3] := by
  cases chunk
  · have h2 := h2 rfl
    (refine CallS.of2 Try.func15 rfl Try.ntmps15 Try.results15 rfl ?_)
    (refine Go.run (g:=?_))
    (first|refine Go.finT (by first|exact .inr rfl|exact .inl rfl) rfl ?_|refine Go.fin1 (by first|exact .inr rfl|exact .inl rfl) rfl (hq:=?_))
    rfl
  · have h1 := h1 rfl
    (refine CallS.of2 Try.func15 rfl Try.ntmps15 Try.results15 rfl ?_)
    (refine Go.run (g:=?_))
    (first|refine Go.finT (by first|exact .inr rfl|exact .inl rfl) rfl ?_|refine Go.fin1 (by first|exact .inr rfl|exact .inl rfl) rfl (hq:=?_))
    rfl
/-- A slice of bytes of the call's own. -/
def OwnB (h h' : AHeap) (v : Value) (l : List UInt8) : Prop := ∃ b, v = .tuple #[.slice b l.length l.length, .int .i64 0] ∧ Sv h' 5 1 b l.length l.length (l.map bv) ∧ Own h.n b
set_option maxHeartbeats 4000000 in
theorem put_ok (chunk : Bool) (kind flags : Nat) (a : Option Addr) (cap : Nat) (h1 : chunk = true → kind ≤ 255) (h2 : chunk = false → flags = 0) (hf : flags < 256) (zs : List UInt8) (hk : zs.length ≤ 65531) (h : AHeap) (hz : Rv Try.prog h 1 a zs.length cap (zs.map bv)) : CallS Try.prog [] 15 [.bool chunk, tlvV kind flags a zs.length cap] h fun v h' => OwnB h h' v (tlvB chunk kind flags zs) := by
  generalize hlen : zs.length = len at *
  have hone : (zs.map bv).all Value.oneCell' = true := by simp [bv, Value.oneCell']
  cases chunk
  · have h2 := h2 rfl
    clear h1
    (refine CallS.of2 Try.func15 rfl Try.ntmps15 Try.results15 rfl ?_)
    (refine Go.run (g:=?_))
    refine GoR.call rfl rfl rfl rfl rfl rfl rfl (((size_spec kind flags a len cap (by omega) _).args (by first | rfl | (simp; fail_if_success focus skip) | (simp; omega) | (congr 2; omega))).mono ?_)
    rintro _ h1 rfl s1
    (have nn := (s1).1; try simp only [AHeap.n_push, AHeap.n_put] at nn)
    (refine Go.run (g:=?_))
    refine GoR.makeO rfl rfl rfl rfl rfl rfl rfl (by omega) (by omega) ?_
    intro b h2 hb ob s2 n2
    (refine Go.run (g:=?_))
    refine Go.loud (by kernel_rfl) rfl ?_
    (refine Go.runL (g:=?_))
    refine GoL.store1' rfl rfl rfl rfl rfl rfl (g:=?_)
    intro h3 hb3 k3 n3
    (refine Go.runL (g:=?_))
    refine GoL.store1' rfl rfl rfl rfl rfl rfl (g:=?_)
    intro h4 hb4 k4 n4
    (refine Go.runL (g:=?_))
    refine GoL.store1' rfl rfl rfl rfl rfl rfl (g:=?_)
    intro h5 hb5 k5 n5
    (refine Go.runL (g:=?_))
    refine GoL.store1' rfl rfl rfl rfl rfl rfl (g:=?_)
    intro h6 hb6 k6 n6
    (refine GoL.end_ (g:=?_))
    rw [set4 (by omega)] at hb6
    clear hb3 hb4 hb5
    have S6 : True → Same h h6 := fun _ => ((((((Same.refl h).push _).trans s1).trans s2).ownO k3 ob (by omega)).ownO k4 ob (by omega)).ownO k5 ob (by omega) |>.ownO k6 ob (by omega)
    (refine Go.run (g:=?_))
    refine Go.loud (by kernel_rfl) rfl ?_
    (refine Go.runL (g:=?_))
    refine GoL.sliceV (lo' := some (.int .i64 4)) (hi' := none) (l := 4) (r := (len + 4 + 3) / 4 * 4) rfl rfl rfl rfl rfl rfl rfl (Sv.rv hb6) rfl rfl (by omega) (by omega) ?_
    (refine Go.runL (g:=?_))
    refine GoL.copySub (kk := 4 * 1) (len' := (len + 4 + 3) / 4 * 4 - 4) (cap₂ := (len + 4 + 3) / 4 * 4 - 4) rfl rfl rfl rfl rfl rfl hb6 (by omega) (hz.same (S6 trivial)) (Own.ok ob (by omega)) hone ?_
    intro h7 rd wr hwr hrd hb7 k7 n7
    (refine GoL.end_ (g:=?_))
    (refine Go.run (g:=?_))
    (first|refine Go.finT (by first|exact .inr rfl|exact .inl rfl) rfl ?_|refine Go.fin1 (by first|exact .inr rfl|exact .inl rfl) rfl (hq:=?_))
    have hL : (tlvB false kind flags zs).length = (len + 4 + 3) / 4 * 4 := by rw [tlvB_length, hlen]
    refine ⟨b, by rw [hL]; rfl, ?_, ob.mono (by omega)⟩
    rw [hL]
    have e : min len ((len + 4 + 3) / 4 * 4 - 4) = zs.length := by omega
    rw [e, List.take_of_length_le (by simp)] at hb7
    have e2 := put_bytes (UInt8.ofNat (kind / 256)) (UInt8.ofNat kind) (UInt8.ofNat ((4 + zs.length) / 256)) (UInt8.ofNat (4 + zs.length)) zs (L := (len + 4 + 3) / 4 * 4) (by omega)
    simp only [bv_ofNat] at e2
    rw [hlen] at e2
    have e3 : setL ([Value.int .u8 ((kind / 2 ^ 8 % 256 : Nat) : Int), .int .u8 ((kind % 256 : Nat) : Int), .int .u8 (((4 + len) / 2 ^ 8 % 256 : Nat) : Int), .int .u8 (((4 + len) % 256 : Nat) : Int)] ++ List.replicate ((len + 4 + 3) / 4 * 4 - 4) (Value.int .u8 0)) (4 * 1) (zs.map bv) = (tlvB false kind flags zs).map bv := by
      unfold tlvB
      rw [hlen]
      exact e2
    rw [e3] at hb7
    exact hb7
  · have h1 := h1 rfl
    clear h2
    (refine CallS.of2 Try.func15 rfl Try.ntmps15 Try.results15 rfl ?_)
    (refine Go.run (g:=?_))
    refine GoR.call rfl rfl rfl rfl rfl rfl rfl (((size_spec kind flags a len cap (by omega) _).args (by first | rfl | (simp; fail_if_success focus skip) | (simp; omega) | (congr 2; omega))).mono ?_)
    rintro _ h1 rfl s1
    (have nn := (s1).1; try simp only [AHeap.n_push, AHeap.n_put] at nn)
    (refine Go.run (g:=?_))
    refine GoR.makeO rfl rfl rfl rfl rfl rfl rfl (by omega) (by omega) ?_
    intro b h2 hb ob s2 n2
    (refine Go.run (g:=?_))
    refine Go.loud (by kernel_rfl) rfl ?_
    (refine Go.runL (g:=?_))
    refine GoL.store1' rfl rfl rfl rfl rfl rfl (g:=?_)
    intro h3 hb3 k3 n3
    (refine Go.runL (g:=?_))
    refine GoL.store1' rfl rfl rfl rfl rfl rfl (g:=?_)
    intro h4 hb4 k4 n4
    (refine Go.runL (g:=?_))
    refine GoL.store1' rfl rfl rfl rfl rfl rfl (g:=?_)
    intro h5 hb5 k5 n5
    (refine Go.runL (g:=?_))
    refine GoL.store1' rfl rfl rfl rfl rfl rfl (g:=?_)
    intro h6 hb6 k6 n6
    (refine GoL.end_ (g:=?_))
    rw [set4 (by omega)] at hb6
    clear hb3 hb4 hb5
    have S6 : True → Same h h6 := fun _ => ((((((Same.refl h).push _).trans s1).trans s2).ownO k3 ob (by omega)).ownO k4 ob (by omega)).ownO k5 ob (by omega) |>.ownO k6 ob (by omega)
    (refine Go.run (g:=?_))
    refine Go.loud (by kernel_rfl) rfl ?_
    (refine Go.runL (g:=?_))
    refine GoL.store1' rfl rfl rfl rfl rfl rfl (g:=?_)
    intro h8 hb8 k8 n8
    (refine Go.runL (g:=?_))
    refine GoL.store1' rfl rfl rfl rfl rfl rfl (g:=?_)
    intro h9 hb9 k9 n9
    (refine GoL.end_ (g:=?_))
    have S9 : True → Same h h9 := fun _ => ((S6 trivial).ownO k8 ob (by omega)).ownO k9 ob (by omega)
    clear hb8
    (refine Go.run (g:=?_))
    refine Go.loud (by kernel_rfl) rfl ?_
    (refine Go.runL (g:=?_))
    refine GoL.sliceV (lo' := some (.int .i64 4)) (hi' := none) (l := 4) (r := (len + 4 + 3) / 4 * 4) rfl rfl rfl rfl rfl rfl rfl (Sv.rv hb9) rfl rfl (by omega) (by omega) ?_
    (refine Go.runL (g:=?_))
    refine GoL.copySub (kk := 4 * 1) (len' := (len + 4 + 3) / 4 * 4 - 4) (cap₂ := (len + 4 + 3) / 4 * 4 - 4) rfl rfl rfl rfl rfl rfl hb9 (by omega) (hz.same (S9 trivial)) (Own.ok ob (by omega)) hone ?_
    intro h7 rd wr hwr hrd hb7 k7 n7
    (refine GoL.end_ (g:=?_))
    (refine Go.run (g:=?_))
    (first|refine Go.finT (by first|exact .inr rfl|exact .inl rfl) rfl ?_|refine Go.fin1 (by first|exact .inr rfl|exact .inl rfl) rfl (hq:=?_))
    have hL : (tlvB true kind flags zs).length = (len + 4 + 3) / 4 * 4 := by rw [tlvB_length, hlen]
    refine ⟨b, by rw [hL]; rfl, ?_, ob.mono (by omega)⟩
    rw [hL]
    have e : min len ((len + 4 + 3) / 4 * 4 - 4) = zs.length := by omega
    rw [e, List.take_of_length_le (by simp)] at hb7
    have e2 := put_bytes (UInt8.ofNat kind) (UInt8.ofNat flags) (UInt8.ofNat ((4 + zs.length) / 256)) (UInt8.ofNat (4 + zs.length)) zs (L := (len + 4 + 3) / 4 * 4) (by omega)
    simp only [bv_ofNat] at e2
    rw [hlen, Nat.mod_eq_of_lt hf] at e2
    have e3 : setL ((([Value.int .u8 ((kind / 2 ^ 8 % 256 : Nat) : Int), .int .u8 ((kind % 256 : Nat) : Int), .int .u8 (((4 + len) / 2 ^ 8 % 256 : Nat) : Int), .int .u8 (((4 + len) % 256 : Nat) : Int)] ++ List.replicate ((len + 4 + 3) / 4 * 4 - 4) (Value.int .u8 0)).set 0 (.int .u8 ((kind % 256 : Nat) : Int))).set 1 (.int .u8 (flags : Int))) (4 * 1) (zs.map bv) = (tlvB true kind flags zs).map bv := by
      unfold tlvB
      rw [hlen]
      exact e2
    rw [e3] at hb7
    exact hb7
end Go.Proofs.Ytmelgnpogdilgaa

/- head and its definition: contracts on the abstract heap (1). No conditions. -/
namespace Go.Proofs.Ytmelgnpogdilgaa
set_option linter.unusedVariables false
set_option maxRecDepth 100000
attribute [local irreducible] Go GoR GoL
set_option maxHeartbeats 4000000 in
theorem number_spec (a : Option Addr) (cap : Nat) (zs : List UInt8) (hl : zs.length ≤ 4) (h : AHeap) (hz : Rv Try.prog h 1 a zs.length cap (zs.map bv)) : CallS Try.prog [] 51 [.slice a zs.length cap] h fun v h' => v = .int .u32 (beNum zs : Nat) := by
  generalize hlen : zs.length = len at *
  (refine CallS.of1 Try.func51 rfl Try.ntmps51 Try.results51 rfl ?_)
  (refine Go.run (g:=?_))
  refine Go.loop (α := Nat) (fun k => [(8, .int .i64 k), (3, .int .u32 (beNum (zs.take k) : Nat)), (7, .int .i64 len), (6, .slice a len cap)]) (fun _ => []) (fun _ => h) (fun k => k ≤ len) (fun k => len - k) 0 (Nat.zero_le _) ⟨rfl, rfl, rfl, rfl, trivial⟩ rfl rfl ?_
  rintro k hk
  rcases Nat.lt_or_ge k len with hlt | hge
  · have hcell := byte_at (zs := zs) (k := k) (by omega)
    have hst := beNum_snoc (zs.take k) (zs[k]'(by omega))
    rw [← List.take_succ_eq_append_getElem (by omega)] at hst
    have hr : beNum (zs.take k) < 16777216 := beNum_lt_of (k := 3) (by simp; omega) rfl
    have hcb := (zs[k]'(by omega)).toNat_lt
    generalize beNum (zs.take k) = r at *
    generalize (zs[k]'(by omega)).toNat = c at *
    (refine Go.run (g:=?_))
    refine Go.again (k + 1) hlt (by omega) ⟨rfl, ?_, rfl, rfl, trivial⟩ rfl rfl
    rw [hst, ← or_byte r c hcb]
    rfl
  · obtain rfl : k = len := by omega
    have ht : zs.take k = zs := List.take_of_length_le (by omega)
    rw [ht]
    (refine Go.run (g:=?_))
    (first|refine Go.finT (by first|exact .inr rfl|exact .inl rfl) rfl ?_|refine Go.fin1 (by first|exact .inr rfl|exact .inl rfl) rfl (hq:=?_))
    rfl
theorem refNumber_spec (a : Option Addr) (cap : Nat) (zs : List UInt8) (hl : zs.length ≤ 4) (h : AHeap) (hz : Rv Try.prog h 1 a zs.length cap (zs.map bv)) : CallS Try.prog [] 52 [.slice a zs.length cap] h fun v h' => v = .int .u64 (beNum zs : Nat) := by
  generalize hlen : zs.length = len at *
  (refine CallS.of1 Try.func52 rfl Try.ntmps52 Try.results52 rfl ?_)
  (refine Go.run (g:=?_))
  refine Go.loop (α := Nat) (fun k => [(4, .int .i64 k), (3, .int .u64 (beNum (zs.take k) : Nat)), (0, .slice a len cap)]) (fun _ => []) (fun _ => h) (fun k => k ≤ len) (fun k => len - k) 0 (Nat.zero_le _) ⟨rfl, rfl, rfl, trivial⟩ rfl rfl ?_
  rintro k hk
  rcases Nat.lt_or_ge k len with hlt | hge
  · have hcell := byte_at (zs := zs) (k := k) (by omega)
    have hst := beNum_snoc (zs.take k) (zs[k]'(by omega))
    rw [← List.take_succ_eq_append_getElem (by omega)] at hst
    have hr : beNum (zs.take k) < 16777216 := beNum_lt_of (k := 3) (by simp; omega) rfl
    have hcb := (zs[k]'(by omega)).toNat_lt
    generalize beNum (zs.take k) = r at *
    generalize (zs[k]'(by omega)).toNat = c at *
    (refine Go.run (g:=?_))
    refine Go.again (k + 1) hlt (by omega) ⟨rfl, ?_, rfl, trivial⟩ rfl rfl
    rw [hst, Nat.mul_comm r 256]
    rfl
  · obtain rfl : k = len := by omega
    have ht : zs.take k = zs := List.take_of_length_le (by omega)
    rw [ht]
    (refine Go.run (g:=?_))
    (first|refine Go.finT (by first|exact .inr rfl|exact .inl rfl) rfl ?_|refine Go.fin1 (by first|exact .inr rfl|exact .inl rfl) rfl (hq:=?_))
    rfl
theorem four_spec (x : Nat) (hx : x < 4294967296) (h : AHeap) : CallS Try.prog [] 47 [.int .u32 x] h fun v h' => OwnS h h' v (beB 4 x) := by
  (refine CallS.of1 Try.func47 rfl Try.ntmps47 Try.results47 rfl ?_)
  (refine Go.run (g:=?_))
  refine GoR.buildO (c := (beB 4 x).map bv) rfl rfl rfl rfl rfl (by decide) ?_ (by rfl) ?_
  · rw [beB4]
    simp only [List.map_cons, List.map_nil, bv_ofNat]
    rfl
  intro b h1 hb ob s1 n1
  (refine Go.run (g:=?_))
  (first|refine Go.finT (by first|exact .inr rfl|exact .inl rfl) rfl ?_|refine Go.fin1 (by first|exact .inr rfl|exact .inl rfl) rfl (hq:=?_))
  exact ⟨b, 4, rfl, hb, ob⟩
theorem aEq_nil {P : Program} {h : AHeap} {t e : TypeId} (hu : P.underlying t = some (.slice e)) (a : Option Addr) (len cap : Nat) : aEq P h t (.slice a len cap) (.slice none 0 0) = some (a.isNone, []) := by
  unfold aEq
  rw [hu]
  cases a <;> rfl
theorem bytesU : Try.prog.underlying 23 = some (.slice 5) := by kernel_rfl
theorem Own.app1 {h : AHeap} {a₂ : Option Addr} {b n : Nat} (hb : n ≤ b) {h₁ : AHeap} (hn : n ≤ h₁.n) (k : ∀ i ∈ blk a₂, i ∈ blk (some ⟨b, 0, none⟩) ∨ h₁.n ≤ i) : Own n a₂ := (Own.mk hb).app hn k
theorem clone_spec (a : Option Addr) (cap : Nat) (zs : List UInt8) (hl : zs.length ≤ 1000000000) (h : AHeap) (hz : Rv Try.prog h 1 a zs.length cap (zs.map bv)) : CallS Try.prog [] 45 [.slice a zs.length cap] h fun v h' => OwnS h h' v zs := by
  have hone : (zs.map bv).all Value.oneCell' = true := by simp [bv, Value.oneCell']
  generalize hlen : zs.length = len at *
  cases a with
  | none =>
    obtain ⟨rfl, rfl⟩ : len = 0 ∧ cap = 0 := by
      generalize zs.map bv = cs at hz
      cases hz
      exact ⟨rfl, rfl⟩
    obtain rfl : zs = [] := List.eq_nil_of_length_eq_zero hlen
    (refine CallS.of1 Try.func45 rfl Try.ntmps45 Try.results45 rfl ?_)
    (refine Go.run (g:=?_))
    refine GoR.eqRef rfl rfl rfl rfl (.inl rfl) rfl rfl (aEq_nil bytesU _ _ _) ?_
    (refine Go.run (g:=?_))
    (first|refine Go.finT (by first|exact .inr rfl|exact .inl rfl) rfl ?_|refine Go.fin1 (by first|exact .inr rfl|exact .inl rfl) rfl (hq:=?_))
    exact ⟨none, 0, rfl, .nil, Own.nil _⟩
  | some a =>
    (refine CallS.of1 Try.func45 rfl Try.ntmps45 Try.results45 rfl ?_)
    (refine Go.run (g:=?_))
    refine GoR.eqRef rfl rfl rfl rfl (.inl rfl) rfl rfl (aEq_nil bytesU _ _ _) ?_
    (refine Go.run (g:=?_))
    refine GoR.buildO (c := []) rfl rfl rfl rfl rfl (by decide) (by rfl) (by rfl) ?_
    intro b h1 hb ob s1 n1
    (refine Go.run (g:=?_))
    refine GoR.appendV rfl rfl rfl rfl rfl rfl hb (hz.same s1) (Own.ok ob (by omega)) (by omega) (by omega) hone ?_
    intro b2 c2 h2 hb2 k2 o2
    (refine Go.run (g:=?_))
    (first|refine Go.finT (by first|exact .inr rfl|exact .inl rfl) rfl ?_|refine Go.fin1 (by first|exact .inr rfl|exact .inl rfl) rfl (hq:=?_))
    subst hlen
    rw [Nat.zero_add] at hb2 ⊢
    exact ⟨b2, c2, rfl, hb2, ob.app (by omega) o2⟩
/-- A slice of bytes of the call's own, with room. -/
def OwnC (h h' : AHeap) (v : Value) (n : Nat) : Prop := ∃ b cap, v = .slice b 0 cap ∧ Sv h' 5 1 b 0 cap [] ∧ Own h.n b
theorem intU : Try.prog.underlying 3 = some (.int .i64) := by kernel_rfl
theorem aAppend_zeros {P : Program} {h : AHeap} {t t₂ e : TypeId} {bytes sz by2 : Nat} {z : Value} [hM : MK P t e bytes z] [hA : AP P t t e sz by2] {kd : IntKind} (hu2 : P.underlying t₂ = some (.int kd)) {n : Nat} (h0 : 0 < n) (h1 : n ≤ 1000000000) (h2 : n * bytes ≤ 140737488355328) : aAppend P h t t₂ (.slice none 0 0) (.int kd n) = some (.slice (some ⟨h.n, 0, none⟩) n n, h.push (.cells (List.replicate n z) e), [], []) := by
  obtain ⟨inf, hi, hs, rfl⟩ := hM.i
  obtain ⟨inf', z', hi', _, _, hz, hsz, hzf, hzl⟩ := hA.i
  rw [hi] at hi'
  cases hi'
  have hzl' : z.cells.toList = [z] := by rw [cellsL_eq]; exact hM.f.2
  have hzer : aZeros P e inf.size n = some (List.replicate n z) := by
    unfold aZeros
    rw [if_neg (by rw [hs]; omega)]
    simp only [hM.hz]
    rw [if_pos ⟨hM.f.1, by rw [hzl', hs]; rfl⟩, hzl', zeros_one]
  simp only [aAppend, hM.u, hi, hz]
  rw [if_pos ⟨by omega, hzf, by omega⟩]
  have hnew : aNew P h e inf t₂ (.int kd n) = some (n, List.replicate n z, []) := by
    simp only [aNew, hu2]
    rw [if_pos ⟨by omega, by omega, by have : (n : Int) * inf.bytes = ((n * inf.bytes : Nat) : Int) := (by simp); omega⟩, Int.toNat_natCast, hzer]
    rfl
  simp only [hnew, aGrow]
  rw [if_neg (by omega), if_pos ⟨by omega, h2⟩]
theorem grow_spec (n : Nat) (hn : n ≤ 1000000000) (h : AHeap) : CallS Try.prog [] 68 [.slice none 0 0, .int .i64 n] h fun v h' => OwnC h h' v n := by
  rcases Nat.eq_zero_or_pos n with h0 | h0
  · subst h0
    (refine CallS.of2 Try.func68 rfl Try.ntmps68 Try.results68 rfl ?_)
    (refine Go.run (g:=?_))
    (first|refine Go.finT (by first|exact .inr rfl|exact .inl rfl) rfl ?_|refine Go.fin1 (by first|exact .inr rfl|exact .inl rfl) rfl (hq:=?_))
    exact ⟨none, 0, rfl, .nil, Own.nil _⟩
  · (refine CallS.of2 Try.func68 rfl Try.ntmps68 Try.results68 rfl ?_)
    (refine Go.run (g:=?_))
    simp only [Nat.sub_zero]
    refine GoR.sliceV (lo' := none) (hi' := some (.int .i64 (0 : Nat))) (l := 0) (r := 0) rfl rfl rfl rfl rfl rfl rfl Rv.nil rfl rfl (by omega) (by omega) ?_
    (refine Go.run (g:=?_))
    refine GoR.append rfl rfl rfl rfl rfl rfl (aAppend_zeros intU (by omega) (by omega) (by omega)) (fun i hi => by cases hi) ?_
    have hb := Sv.new h (List.replicate n (Value.int .u8 0)) 5 (sz := 1) (len := n) (by simp)
    (refine Go.run (g:=?_))
    refine GoR.sliceV (lo' := none) (hi' := some (.int .i64 (0 : Nat))) (l := 0) (r := 0) rfl rfl rfl rfl rfl rfl rfl (Sv.rv hb) rfl rfl (by omega) (by omega) ?_
    (refine Go.run (g:=?_))
    (first|refine Go.finT (by first|exact .inr rfl|exact .inl rfl) rfl ?_|refine Go.fin1 (by first|exact .inr rfl|exact .inl rfl) rfl (hq:=?_))
    exact ⟨some ⟨h.n, 0, none⟩, n, rfl, hb.sub (l := 0) (r := 0) (by omega) (by omega), Own.mk (Nat.le_refl _)⟩
/-- Slices of bytes that read so. -/
def SlAll (P : Program) (h : AHeap) (vs : List Value) (ls : List (List UInt8)) : Prop := vs.length = ls.length ∧ ∀ (i : Nat) (zs : List UInt8), ls[i]? = some zs → ∃ a cap, vs[i]? = some (Value.slice a zs.length cap) ∧ Rv P h 1 a zs.length cap (zs.map bv)
theorem flat_take {ls : List (List UInt8)} {k : Nat} {zs : List UInt8} (e : ls[k]? = some zs) : (ls.take (k + 1)).flatten = (ls.take k).flatten ++ zs := by
  rw [List.take_add_one, e]
  simp
theorem flat_le (ls : List (List UInt8)) (k : Nat) : (ls.take k).flatten.length ≤ ls.flatten.length := by
  have e : ls.flatten = (ls.take k).flatten ++ (ls.drop k).flatten := by rw [← List.flatten_append, List.take_append_drop]
  rw [e, List.length_append]
  omega
set_option maxHeartbeats 4000000 in
theorem concat_spec (a : Option Addr) (cap : Nat) (vs : List Value) (ls : List (List UInt8)) (hsm : vs.length ≤ 1000) (htot : ls.flatten.length ≤ 1000000) (h : AHeap) (hA : SlAll Try.prog h vs ls) (hv : Rv Try.prog h 1 a vs.length cap vs) : CallS Try.prog [] 46 [.slice a vs.length cap] h fun v h' => OwnS h h' v ls.flatten := by
  have hone : ∀ l : List UInt8, (l.map bv).all Value.oneCell' = true := fun l => by simp [bv, Value.oneCell']
  obtain ⟨hll, hA⟩ := hA
  generalize hlen : vs.length = len at *
  (refine CallS.of1 Try.func46 rfl Try.ntmps46 Try.results46 rfl ?_)
  (refine Go.run (g:=?_))
  refine Go.loop (α := Nat) (fun k => [(11, .int .i64 k), (3, .int .i64 ((ls.take k).flatten.length : Nat)), (10, .int .i64 len), (9, .slice a len cap), (0, .slice a len cap)]) (fun _ => []) (fun _ => h) (fun k => k ≤ len) (fun k => len - k) 0 (Nat.zero_le _) ⟨rfl, rfl, rfl, rfl, rfl, trivial⟩ rfl rfl ?_
  rintro k hk
  rcases Nat.lt_or_ge k len with hlt | hge
  · obtain ⟨zs, hzs⟩ : ∃ zs, ls[k]? = some zs := ⟨_, List.getElem?_eq_getElem (by omega)⟩
    obtain ⟨a1, c1, hcell, hz⟩ := hA k zs hzs
    have hst := congrArg List.length (flat_take hzs)
    rw [List.length_append] at hst
    have hle := flat_le ls (k + 1)
    generalize (ls.take k).flatten.length = r at *
    (refine Go.run (g:=?_))
    refine Go.again (k + 1) hlt (by omega) ⟨rfl, ?_, rfl, rfl, rfl, trivial⟩ rfl rfl
    rw [hst]
    rfl
  · obtain rfl : k = len := by omega
    have ht : ls.take k = ls := List.take_of_length_le (by omega)
    rw [ht]
    (refine Go.run (g:=?_))
    refine GoR.call rfl rfl rfl rfl rfl rfl rfl (((grow_spec ls.flatten.length (by omega) _).args (by first | rfl | (simp; fail_if_success focus skip) | (simp; omega) | (congr 2; omega))).mono ?_)
    rintro _ h1 ⟨b, c1, rfl, hb, ob⟩ s1
    (refine Go.run (g:=?_))
    refine Go.loop (α := Nat × Option Addr × Nat × AHeap) (fun x => [(27, .int .i64 x.1), (6, .slice x.2.1 (ls.take x.1).flatten.length x.2.2.1), (26, .int .i64 k), (25, .slice a k cap)]) (fun _ => []) (fun x => x.2.2.2)
      (fun x => x.1 ≤ k ∧ Same h x.2.2.2 ∧ Own h.n x.2.1 ∧ Sv x.2.2.2 5 1 x.2.1 (ls.take x.1).flatten.length x.2.2.1 ((ls.take x.1).flatten.map bv)) (fun x => k - x.1) (0, b, c1, h1) ?_ ?_ rfl rfl ?_
    · exact ⟨Nat.zero_le _, s1, ob, hb⟩
    · exact ⟨rfl, rfl, rfl, rfl, trivial⟩
    · clear hb ob s1
      rintro ⟨j, b, c2, h2⟩ ⟨hj, s2, ob, hb⟩
      simp only at hj s2 ob hb ⊢
      rcases Nat.lt_or_ge j k with hlt | hge2
      · obtain ⟨zs, hzs⟩ : ∃ zs, ls[j]? = some zs := ⟨_, List.getElem?_eq_getElem (by omega)⟩
        obtain ⟨a1, c1, hcell, hz⟩ := hA j zs hzs
        have hst := flat_take hzs
        have hle := flat_le ls (j + 1)
        have hv2 := hv.same s2
        have hz2 := hz.same s2
        rw [hst, List.length_append] at hle
        (refine Go.run (g:=?_))
        refine GoR.appendV rfl rfl rfl rfl rfl rfl hb hz2 (Own.ok ob (by omega)) (by omega) (by omega) (hone _) ?_
        intro b3 c3 h3 hb3 k3 o3
        (refine Go.run (g:=?_))
        refine Go.again (j + 1, b3, c3, h3) ⟨hlt, s2.ownO k3 ob (by omega), ob.app s2.1 o3, ?_⟩ (by simp only; omega) ⟨rfl, ?_, rfl, rfl, trivial⟩ rfl rfl
        · simp only [hst, List.length_append, List.map_append]
          exact hb3
        · simp only [hst, List.length_append]
          rfl
      · obtain rfl : j = k := by omega
        rw [ht] at hb ⊢
        (refine Go.run (g:=?_))
        (first|refine Go.finT (by first|exact .inr rfl|exact .inl rfl) rfl ?_|refine Go.fin1 (by first|exact .inr rfl|exact .inl rfl) rfl (hq:=?_))
        exact ⟨b, c2, rfl, hb, ob⟩
end Go.Proofs.Ytmelgnpogdilgaa

/- head and its definition: contracts on the abstract heap (2). No conditions. -/
namespace Go.Proofs.Ytmelgnpogdilgaa
set_option linter.unusedVariables false
set_option maxRecDepth 100000
attribute [local irreducible] Go GoR GoL
theorem crcSum_n (a : Option Addr) (cap : Nat) (zs : List UInt8) (n : Nat) (hn : zs.length = n) (hl : n ≤ 1000000000) (h : AHeap) (hz : Rv Try.prog h 1 a n cap (zs.map bv)) : CallS Try.prog [] 70 [.slice a n cap] h fun v h' => v = .int .u32 (Crc.sum zs : Nat) := by
  subst hn
  exact crcSum_spec a cap zs hl h hz
theorem refSum_n (a : Option Addr) (cap : Nat) (zs : List UInt8) (n : Nat) (hn : zs.length = n) (hl : n ≤ 1000000000) (h : AHeap) (hz : Rv Try.prog h 1 a n cap (zs.map bv)) : CallS Try.prog [] 50 [.slice a n cap] h fun v h' => v = .int .u32 (Crc.sum zs : Nat) := by
  subst hn
  exact refSum_spec a cap zs hl h hz
theorem crcMore_n (s : Nat) (hs : s < 4294967296) (a : Option Addr) (cap : Nat) (zs : List UInt8) (n : Nat) (hn : zs.length = n) (hl : n ≤ 1000000000) (h : AHeap) (hz : Rv Try.prog h 1 a n cap (zs.map bv)) : CallS Try.prog [] 69 [.int .u32 s, .slice a n cap] h fun v h' => v = .int .u32 (Crc.more s zs : Nat) := by
  subst hn
  exact crcMore_spec s hs a cap zs hl h hz
theorem number_n (a : Option Addr) (cap : Nat) (zs : List UInt8) (n : Nat) (hn : zs.length = n) (hl : n ≤ 4) (h : AHeap) (hz : Rv Try.prog h 1 a n cap (zs.map bv)) : CallS Try.prog [] 51 [.slice a n cap] h fun v h' => v = .int .u32 (beNum zs : Nat) := by
  subst hn
  exact number_spec a cap zs hl h hz
theorem refNumber_n (a : Option Addr) (cap : Nat) (zs : List UInt8) (n : Nat) (hn : zs.length = n) (hl : n ≤ 4) (h : AHeap) (hz : Rv Try.prog h 1 a n cap (zs.map bv)) : CallS Try.prog [] 52 [.slice a n cap] h fun v h' => v = .int .u64 (beNum zs : Nat) := by
  subst hn
  exact refNumber_spec a cap zs hl h hz
theorem clone_n (a : Option Addr) (cap : Nat) (zs : List UInt8) (n : Nat) (hn : zs.length = n) (hl : n ≤ 1000000000) (h : AHeap) (hz : Rv Try.prog h 1 a n cap (zs.map bv)) : CallS Try.prog [] 45 [.slice a n cap] h fun v h' => OwnS h h' v zs := by
  subst hn
  exact clone_spec a cap zs hl h hz
theorem zeros4 : (List.replicate 4 (Value.int .u8 0)) = (([0, 0, 0, 0] : List UInt8).map bv) := rfl
set_option maxHeartbeats 4000000 in
theorem sum_spec (a : Option Addr) (cap : Nat) (zs : List UInt8) (h12 : 12 ≤ zs.length) (hl : zs.length ≤ 1000000) (h : AHeap) (hz : Rv Try.prog h 1 a zs.length cap (zs.map bv)) : CallS Try.prog [] 48 [.slice a zs.length cap] h fun v h' => v = .int .u32 (headSum zs : Nat) := by
  generalize hlen : zs.length = len at *
  (refine CallS.of1 Try.func48 rfl Try.ntmps48 Try.results48 rfl ?_)
  (refine Go.run (g:=?_))
  refine GoR.bHi (r := 8) rfl rfl rfl rfl rfl rfl hz (by omega) ?_
  intro a1 hz1 _
  (refine Go.run (g:=?_))
  refine GoR.call rfl rfl rfl rfl rfl rfl rfl (((crcSum_n a1 cap (zs.take 8) 8 (by simp; omega) (by omega) _ hz1).args (by first | rfl | (simp; fail_if_success focus skip) | (simp; omega) | (congr 2; omega))).mono ?_)
  rintro _ h1 rfl s1
  (refine Go.run (g:=?_))
  refine GoR.makeO (l := 4) (c := 4) rfl rfl rfl rfl rfl rfl rfl (by decide) (by decide) ?_
  intro b h2 hb ob s2 n2
  (refine Go.run (g:=?_))
  refine GoR.call rfl rfl rfl rfl rfl rfl rfl (((crcMore_n (Crc.sum (zs.take 8)) (Crc.more_lt _ _) b 4 [0, 0, 0, 0] 4 rfl (by omega) _ (Sv.rv hb)).args (by first | rfl | (simp; fail_if_success focus skip) | (simp; omega) | (congr 2; omega))).mono ?_)
  rintro _ h3 rfl s3
  (refine Go.run (g:=?_))
  have hz3 := ((hz.same s1).same s2).same s3
  refine GoR.bLo (l := 12) rfl rfl rfl rfl rfl rfl hz3 (by omega) ?_
  intro a4 hz4 _
  (refine Go.run (g:=?_))
  have e4 : ((zs.drop 12).take (len - 12)) = zs.drop 12 := List.take_of_length_le (by simp; omega)
  rw [e4] at hz4
  refine GoR.call rfl rfl rfl rfl rfl rfl rfl (((crcMore_n (Crc.more (Crc.sum (zs.take 8)) [0, 0, 0, 0]) (Crc.more_lt _ _) a4 (cap - 12) (zs.drop 12) (len - 12) (by simp; omega) (by omega) _ hz4).args (by first | rfl | (simp; fail_if_success focus skip) | (simp; omega) | (congr 2; omega))).mono ?_)
  rintro _ h5 rfl s5
  (refine Go.run (g:=?_))
  (first|refine Go.finT (by first|exact .inr rfl|exact .inl rfl) rfl ?_|refine Go.fin1 (by first|exact .inr rfl|exact .inl rfl) rfl (hq:=?_))
  rw [← headSum_eq]
  rfl
theorem GoL.callS {P : Program} {W : Nat → Prop} {q : Bool} {N : Nat} {k : List It} {ov : Ov} {df : List Nat} {h : AHeap} {Q : PQ} {ops : Array Oper} {os : List Oper} {o : Oper} {d : Nat} {tr : List (Option LE)} {f : Operand} {xs : Array Operand} {ts : Array TypeId} {g : FuncId} {first cap : Array Value} {us : List Value} (ho : o.op = .call ⟨.value f, xs, ts⟩) (hd : o.dst = some d) (hN : dOk d N = true) (hgd : o.guard = none) (hf : evO ov f = some (.func (.func g) first cap)) (hx : evOs ov xs.toList = some us) (hc : calls P g = true)
    (hk : CallS P [] g (first.toList ++ us ++ cap.toList) h fun v h' => Same h h' → GoL P W q N ops (tr ++ [some ⟨h.n, h'.n, [], [], true, false⟩]) os k ((d, v) :: ov) df h' Q) : GoL P W q N ops tr (o :: os) k ov df h Q :=
  GoL.call (wr := []) ho hd hN hgd hf hx hc (hk.mono fun v h' g kp => ⟨fun i hi => absurd hi List.not_mem_nil, g ⟨kp.1, fun i hi => kp.2 i hi List.not_mem_nil⟩⟩)
/-- A header, by value. -/
abbrev hdV (f t g : Nat) : Value := .agg #[.int .u16 f, .int .u16 t, .int .u32 g]
theorem headPut_err1 (f t g : Nat) (a : Option Addr) (n cap : Nat) (hb : n % 4 ≠ 0) (h : AHeap) : CallS Try.prog [] 24 [hdV f t g, .slice a n cap] h fun v h' => v = .tuple #[.slice none 0 0, .int .i64 32] := by
  (refine CallS.of2 Try.func24 rfl Try.ntmps24 Try.results24 rfl ?_)
  (refine Go.run (g:=?_))
  (first|refine Go.finT (by first|exact .inr rfl|exact .inl rfl) rfl ?_|refine Go.fin1 (by first|exact .inr rfl|exact .inl rfl) rfl (hq:=?_))
  rfl
theorem headPut_err2 (f t g : Nat) (a : Option Addr) (n cap : Nat) (hb : n % 4 = 0) (hn : 1488 < n) (h : AHeap) : CallS Try.prog [] 24 [hdV f t g, .slice a n cap] h fun v h' => v = .tuple #[.slice none 0 0, .int .i64 3] := by
  (refine CallS.of2 Try.func24 rfl Try.ntmps24 Try.results24 rfl ?_)
  (refine Go.run (g:=?_))
  (first|refine Go.finT (by first|exact .inr rfl|exact .inl rfl) rfl ?_|refine Go.fin1 (by first|exact .inr rfl|exact .inl rfl) rfl (hq:=?_))
  rfl
theorem hbytes_take (f t g s : Nat) (v : List UInt8) : (hbytes f t g s v).take 8 = beB 2 f ++ beB 2 t ++ beB 4 g := by
  unfold hbytes
  rw [List.append_assoc (beB 2 f ++ beB 2 t ++ beB 4 g), List.take_append_of_le_length (by simp [beB_length]), List.take_of_length_le (by simp [beB_length])]
theorem hbytes_drop (f t g s : Nat) (v : List UInt8) : (hbytes f t g s v).drop 12 = v := by
  unfold hbytes
  rw [List.drop_append]
  simp [beB_length]
theorem headSum_hbytes (f t g s : Nat) (v : List UInt8) : headSum (hbytes f t g s v) = Crc.sum (hbytes f t g 0 v) := by
  unfold headSum
  rw [hbytes_take, hbytes_drop]
  rfl
theorem hbytes_set (f t g s : Nat) (v : List UInt8) : setL ((hbytes f t g 0 v).map bv) (8 * 1) (((beB 4 s).map bv).take (min 4 (12 - 8))) = (hbytes f t g s v).map bv := by
  unfold hbytes
  rw [List.append_assoc (beB 2 f ++ beB 2 t ++ beB 4 g), List.map_append, setL_tail _ _ _ (by simp [beB_length]), List.take_of_length_le (by simp [beB_length]), List.map_append (l₁ := beB 4 0), List.drop_append_of_le_length (by simp [beB_length]), List.drop_of_length_le (by simp [beB_length])]
  simp
set_option maxHeartbeats 4000000 in
theorem headPut_ok (f t g : Nat) (hf : f < 65536) (ht : t < 65536) (hg : g < 4294967296) (a : Option Addr) (n cap : Nat) (zs : List UInt8) (hlen : zs.length = n) (hb : n % 4 = 0) (hn : n ≤ 1488) (h : AHeap) (hz : Rv Try.prog h 1 a n cap (zs.map bv)) : CallS Try.prog [] 24 [hdV f t g, .slice a n cap] h fun v h' => OwnE h h' v (hput f t g zs) := by
  have e := or_of_lt (a := f) (n := 16) ht
  (refine CallS.of2 Try.func24 rfl Try.ntmps24 Try.results24 rfl ?_)
  (refine Go.run (g:=?_))
  rw [e]
  refine GoR.call rfl rfl rfl rfl rfl rfl rfl (((four_spec (f * 2 ^ 16 + t) (by omega) _).args (by first | rfl | (simp; fail_if_success focus skip) | (simp; omega) | (congr 2; omega))).mono ?_)
  rintro _ h1 ⟨b1, c1, rfl, hb1, ob1⟩ s1
  simp only [beB_length] at hb1 ⊢
  (refine Go.run (g:=?_))
  refine GoR.call rfl rfl rfl rfl rfl rfl rfl (((four_spec g hg _).args (by first | rfl | (simp; fail_if_success focus skip) | (simp; omega) | (congr 2; omega))).mono ?_)
  rintro _ h2 ⟨b2, c2, rfl, hb2, ob2⟩ s2
  simp only [beB_length] at hb2 ⊢
  (refine Go.run (g:=?_))
  refine GoR.makeO (l := 4) (c := 4) rfl rfl rfl rfl rfl rfl rfl (by decide) (by decide) ?_
  intro b3 h3 hb3 ob3 s3 n3
  (refine Go.run (g:=?_))
  refine GoR.buildO (c := [.slice b1 4 c1, .slice b2 4 c2, .slice b3 4 4, .slice a n cap]) rfl rfl rfl rfl rfl (by decide) (by rfl) (by rfl) ?_
  intro b4 h4 hb4 ob4 s4 n4
  have S4 : True → Same h h4 := fun _ => (((((Same.refl h).push _).trans s1).trans s2).trans s3).trans s4
  have hA : SlAll Try.prog h4 [.slice b1 4 c1, .slice b2 4 c2, .slice b3 4 4, .slice a n cap] [beB 4 (f * 2 ^ 16 + t), beB 4 g, [0, 0, 0, 0], zs] := by
    refine ⟨rfl, fun i l hi => ?_⟩
    match i, hi with
    | 0, hi => cases hi; exact ⟨b1, c1, rfl, (((hb1.same s2).same s3).same s4).rv⟩
    | 1, hi => cases hi; exact ⟨b2, c2, rfl, ((hb2.same s3).same s4).rv⟩
    | 2, hi => cases hi; exact ⟨b3, 4, rfl, (hb3.same s4).rv⟩
    | 3, hi => cases hi; exact ⟨a, cap, by rw [hlen]; rfl, by rw [hlen]; exact hz.same (S4 trivial)⟩
  have hfl : [beB 4 (f * 2 ^ 16 + t), beB 4 g, [0, 0, 0, 0], zs].flatten = hbytes f t g 0 zs := by
    have e0 : beB 4 0 = [0, 0, 0, 0] := rfl
    have e1 := beB4_split f t ht
    rw [show f * 2 ^ 16 = f * 65536 from rfl, e1]
    simp [hbytes, e0]
  refine GoR.call rfl rfl rfl rfl rfl rfl rfl (((concat_spec b4 4 [.slice b1 4 c1, .slice b2 4 c2, .slice b3 4 4, .slice a n cap] _ (show 4 ≤ 1000 by decide) (by rw [hfl, hbytes_length]; omega) _ hA (Sv.rv hb4)).args (by first | rfl | (simp; fail_if_success focus skip) | (simp; omega) | (congr 2; omega))).mono ?_)
  rintro _ h5 ⟨b6, c6, rfl, hb6, ob6⟩ s5
  rw [hfl, hbytes_length, hlen] at hb6 ⊢
  clear hA hb1 hb2 hb3 hb4 ob1 ob2 ob3 ob4
  have S5 : True → Same h h5 := fun _ => (S4 trivial).trans s5
  have hn4 := (S4 trivial).1
  have hn5 := s5.1
  clear s1 s2 s3 s4 s5 S4 n3 n4
  (refine Go.run (g:=?_))
  refine Go.loud (by kernel_rfl) rfl ?_
  (refine Go.runL (g:=?_))
  refine GoL.sliceV (lo' := some (.int .i64 8)) (hi' := some (.int .i64 12)) (l := 8) (r := 12) rfl rfl rfl rfl rfl rfl rfl (Sv.rv hb6) rfl rfl (by omega) (by have := hb6.le; omega) ?_
  (refine Go.runL (g:=?_))
  have hbl := hbytes_length f t g 0 zs
  have hsum := sum_spec b6 c6 (hbytes f t g 0 zs) (by omega) (by omega) h5 (by rw [hbl, hlen]; exact Sv.rv hb6)
  rw [hbl, hlen] at hsum
  refine GoL.callS rfl rfl rfl rfl rfl rfl rfl (((hsum).args (by first | rfl | (simp; fail_if_success focus skip) | (simp; omega) | (congr 2; omega))).mono ?_)
  rintro _ h7 rfl s7
  (refine Go.runL (g:=?_))
  rw [headSum_hbytes]
  have hsl : Crc.sum (hbytes f t g 0 zs) < 4294967296 := Crc.more_lt _ _
  refine GoL.callS rfl rfl rfl rfl rfl rfl rfl (((four_spec (Crc.sum (hbytes f t g 0 zs)) hsl _).args (by first | rfl | (simp; fail_if_success focus skip) | (simp; omega) | (congr 2; omega))).mono ?_)
  rintro _ h8 ⟨b8, c8, rfl, hb8, ob8⟩ s8
  simp only [beB_length] at hb8 ⊢
  (refine Go.runL (g:=?_))
  have hb6' := (hb6.same s7).same s8
  have hn7 := s7.1
  have hn8 := s8.1
  refine GoL.copySub (kk := 8 * 1) (len' := 12 - 8) (cap₂ := c6 - 8) rfl rfl rfl rfl rfl rfl hb6' (by omega) (Sv.rv hb8) (Own.ok ob6 (by omega)) (by simp [bv, Value.oneCell']) ?_
  intro h9 rd wr hwr hrd hb9 k9 n9
  clear hb6 hsum
  (refine GoL.end_ (g:=?_))
  (refine Go.run (g:=?_))
  (first|refine Go.finT (by first|exact .inr rfl|exact .inl rfl) rfl ?_|refine Go.fin1 (by first|exact .inr rfl|exact .inl rfl) rfl (hq:=?_))
  have hL : (hput f t g zs).length = 12 + n := by rw [hput, hbytes_length, hlen]
  refine ⟨b6, c6, by rw [hL]; rfl, ?_, ob6.mono (by omega)⟩
  rw [hL]
  rw [hbytes_set] at hb9
  exact hb9
end Go.Proofs.Ytmelgnpogdilgaa

/- lanyardref04: Same, SameAll, One, All: contracts on the abstract heap. No conditions. -/
namespace Go.Proofs.Ytmelgnpogdilgaa
set_option linter.unusedVariables false
set_option maxRecDepth 100000
attribute [local irreducible] Go GoR GoL
set_option maxHeartbeats 4000000 in
theorem same_spec (k f : Nat) (a : Option Addr) (cap : Nat) (zs : List UInt8) (k' f' : Nat) (a' : Option Addr) (cap' : Nat) (zs' : List UInt8) (h : AHeap) (hz : Rv Try.prog h 1 a zs.length cap (zs.map bv)) (hz' : Rv Try.prog h 1 a' zs'.length cap' (zs'.map bv)) : CallS Try.prog [] 20 [tlvV k f a zs.length cap, tlvV k' f' a' zs'.length cap'] h fun v h' => v = .bool (decide (((k, f, zs) : Thing) = (k', f', zs'))) := by
  by_cases e1 : k = k'
  · subst e1
    by_cases e2 : f = f'
    · subst e2
      (refine CallS.of2 Try.func20 rfl Try.ntmps20 Try.results20 rfl ?_)
      (refine Go.run (g:=?_))
      (first|refine Go.finT (by first|exact .inr rfl|exact .inl rfl) rfl ?_|refine Go.fin1 (by first|exact .inr rfl|exact .inl rfl) rfl (hq:=?_))
      simp [retV]
    · have e2' : ¬ (f : Int) = (f' : Int) := by omega
      (refine CallS.of2 Try.func20 rfl Try.ntmps20 Try.results20 rfl ?_)
      (refine Go.run (g:=?_))
      (first|refine Go.finT (by first|exact .inr rfl|exact .inl rfl) rfl ?_|refine Go.fin1 (by first|exact .inr rfl|exact .inl rfl) rfl (hq:=?_))
      simp [retV, e2, e2']
  · have e1' : ¬ (k : Int) = (k' : Int) := by omega
    (refine CallS.of2 Try.func20 rfl Try.ntmps20 Try.results20 rfl ?_)
    (refine Go.run (g:=?_))
    (first|refine Go.finT (by first|exact .inr rfl|exact .inl rfl) rfl ?_|refine Go.fin1 (by first|exact .inr rfl|exact .inl rfl) rfl (hq:=?_))
    simp [retV, e1, e1']
/-- A thing that stands in memory. -/
structure TV where
  k : Nat
  f : Nat
  z : List UInt8
  a : Option Addr
  cap : Nat
def TV.thing (t : TV) : Thing := (t.k, t.f, t.z)
def TV.cells (t : TV) : List Value := [.int .u16 t.k, .int .u8 t.f, .slice t.a t.z.length t.cap]
def tcells (ts : List TV) : List Value := (ts.map TV.cells).flatten
def TV.ok (h : AHeap) (t : TV) : Prop := Rv Try.prog h 1 t.a t.z.length t.cap (t.z.map bv)
def TVs (h : AHeap) (ts : List TV) : Prop := ∀ t ∈ ts, t.ok h
theorem TVs.same {h h' : AHeap} {ts : List TV} (k : TVs h ts) (s : Same h h') : TVs h' ts := fun t ht => Rv.same (k t ht) s
theorem tcells_len (ts : List TV) : (tcells ts).length = ts.length * 3 := by
  induction ts with
  | nil => rfl
  | cons t ts ih => simp only [tcells, List.map_cons, List.flatten_cons, List.length_append, List.length_cons] at ih ⊢; rw [ih]; simp [TV.cells]; omega
theorem tcells_snoc (ts : List TV) (t : TV) : tcells (ts ++ [t]) = tcells ts ++ t.cells := by simp [tcells]
theorem tcells_get {ts : List TV} {i : Nat} (hi : i < ts.length) : ((tcells ts).drop (i * 3)).take 3 = ts[i].cells := by
  induction ts generalizing i with
  | nil => simp at hi
  | cons t ts ih =>
    cases i with
    | zero => simp [tcells, TV.cells]
    | succ i =>
      have e : (tcells (t :: ts)).drop ((i + 1) * 3) = (tcells ts).drop (i * 3) := by
        have : tcells (t :: ts) = t.cells ++ tcells ts := by simp [tcells]
        rw [this, show (i + 1) * 3 = 3 + i * 3 from by omega, ← List.drop_drop]
        congr 1
      rw [e]
      exact ih (by simpa using hi)
set_option maxHeartbeats 4000000 in
theorem sameAll_spec (a : Option Addr) (cap : Nat) (ts : List TV) (a' : Option Addr) (cap' : Nat) (ts' : List TV) (hl : ts.length ≤ 1000000) (h : AHeap) (hz : Rv Try.prog h 3 a ts.length cap (tcells ts)) (hz' : Rv Try.prog h 3 a' ts'.length cap' (tcells ts')) (ht : TVs h ts) (ht' : TVs h ts') : CallS Try.prog [] 22 [.slice a ts.length cap, .slice a' ts'.length cap'] h fun v h' => v = .bool (decide (ts.map TV.thing = ts'.map TV.thing)) := by
  by_cases hn : ts.length = ts'.length
  · (refine CallS.of2 Try.func22 rfl Try.ntmps22 Try.results22 rfl ?_)
    (refine Go.run (g:=?_))
    refine Go.loop (α := Nat × AHeap) (fun x => [(5, .int .i64 x.1), (0, .slice a ts.length cap), (1, .slice a' ts'.length cap')]) (fun _ => []) (fun x => x.2) (fun x => x.1 ≤ ts.length ∧ Same h x.2 ∧ (ts.map TV.thing).take x.1 = (ts'.map TV.thing).take x.1) (fun x => ts.length - x.1) (0, h) ?_ ?_ rfl rfl ?_
    · exact ⟨Nat.zero_le _, Same.refl h, rfl⟩
    · exact ⟨rfl, rfl, rfl, trivial⟩
    · rintro ⟨i, h1⟩ ⟨hi, s1, hp⟩
      simp only at hi s1 hp ⊢
      rcases Nat.lt_or_ge i ts.length with i0 | i0
      · have i0' : i < ts'.length := by omega
        have r1 := hz.same s1
        have r2 := hz'.same s1
        have t1 := (ht.same s1) ts[i] (List.getElem_mem i0)
        have t2 := (ht'.same s1) ts'[i] (List.getElem_mem i0')
        (refine Go.run (g:=?_))
        refine GoR.loadVN rfl rfl rfl rfl rfl r1 (by rw [tcells_len]; omega) (by decide) (tcells_get i0) ?_
        (refine Go.run (g:=?_))
        refine GoR.loadVN rfl rfl rfl rfl rfl r2 (by rw [tcells_len]; omega) (by decide) (tcells_get i0') ?_
        (refine Go.run (g:=?_))
        refine GoR.call rfl rfl rfl rfl rfl rfl rfl (((same_spec ts[i].k ts[i].f ts[i].a ts[i].cap ts[i].z ts'[i].k ts'[i].f ts'[i].a ts'[i].cap ts'[i].z _ t1 t2).args (by first | rfl | (simp; fail_if_success focus skip) | (simp; omega) | (congr 2; omega))).mono ?_)
        rintro _ h2 rfl s2
        by_cases e : ts[i].thing = ts'[i].thing
        · have e' : ((ts[i].k, ts[i].f, ts[i].z) : Thing) = (ts'[i].k, ts'[i].f, ts'[i].z) := e
          rw [decide_eq_true e']
          (refine Go.run (g:=?_))
          refine Go.again (i + 1, h2) ⟨by simp only; omega, s1.trans s2, ?_⟩ (by simp only; omega) ⟨rfl, rfl, rfl, trivial⟩ rfl rfl
          simp only
          rw [List.take_add_one, List.take_add_one, hp]
          congr 1
          rw [List.getElem?_map, List.getElem?_map, List.getElem?_eq_getElem i0, List.getElem?_eq_getElem i0']
          simp [e]
        · have e' : ¬ ((ts[i].k, ts[i].f, ts[i].z) : Thing) = (ts'[i].k, ts'[i].f, ts'[i].z) := e
          have hne : ts.map TV.thing ≠ ts'.map TV.thing := fun e2 => e (by
            have := congrArg (fun l => l[i]?) e2
            simp only [List.getElem?_map, List.getElem?_eq_getElem i0, List.getElem?_eq_getElem i0', Option.map_some] at this
            exact Option.some.inj this)
          rw [decide_eq_false e']
          (refine Go.run (g:=?_))
          (first|refine Go.finT (by first|exact .inr rfl|exact .inl rfl) rfl ?_|refine Go.fin1 (by first|exact .inr rfl|exact .inl rfl) rfl (hq:=?_))
          simp [retV, hne]
      · (refine Go.run (g:=?_))
        (first|refine Go.finT (by first|exact .inr rfl|exact .inl rfl) rfl ?_|refine Go.fin1 (by first|exact .inr rfl|exact .inl rfl) rfl (hq:=?_))
        rw [List.take_of_length_le (by simpa using i0), List.take_of_length_le (by simp; omega)] at hp
        simp [retV, hp]
  · have hne : ts.map TV.thing ≠ ts'.map TV.thing := fun e => hn (by simpa using congrArg List.length e)
    have hn' : ¬ (ts.length : Int) = (ts'.length : Int) := by omega
    (refine CallS.of2 Try.func22 rfl Try.ntmps22 Try.results22 rfl ?_)
    (refine Go.run (g:=?_))
    (first|refine Go.finT (by first|exact .inr rfl|exact .inl rfl) rfl ?_|refine Go.fin1 (by first|exact .inr rfl|exact .inl rfl) rfl (hq:=?_))
    simp [retV, hne]
end Go.Proofs.Ytmelgnpogdilgaa

/- lanyardref04: One: its contract on the abstract heap. No conditions. -/
namespace Go.Proofs.Ytmelgnpogdilgaa
set_option linter.unusedVariables false
set_option maxRecDepth 100000
attribute [local irreducible] Go GoR GoL
/-- What 'One' tells. -/
def OneV (h h' : AHeap) (chunk : Bool) (z : List UInt8) (at_ : Nat) (v : Value) : Prop :=
  (¬ Whole z ∧ v = .tuple #[tlvV 0 0 none 0 0, .int .i64 at_, .bool false]) ∨ (Whole z ∧ ∃ (t : TV), v = .tuple #[tlvV t.k t.f t.a t.z.length t.cap, .int .i64 (at_ + up4 (tN z) : Nat), .bool true] ∧ t.thing = thing chunk z ∧ t.ok h' ∧ Own h.n t.a)
set_option maxHeartbeats 8000000 in
theorem one_spec (chunk : Bool) (a : Option Addr) (n cap : Nat) (zs : List UInt8) (hlen : zs.length = n) (at_ : Nat) (hat : at_ ≤ n) (hn : n ≤ 1000000) (h : AHeap) (hz : Rv Try.prog h 1 a n cap (zs.map bv)) : CallS Try.prog [] 43 [.bool chunk, .slice a n cap, .int .i64 at_] h fun v h' => OneV h h' chunk (zs.drop at_) at_ v := by
  have hle := hz.le
  have hzl : (zs.drop at_).length = n - at_ := by simp [hlen]
  rcases Nat.lt_or_ge (n - at_) 4 with g1 | g1
  · (refine CallS.of3 Try.func43 rfl Try.ntmps43 Try.results43 rfl ?_)
    (refine Go.run (g:=?_))
    (refine Go.fin (by first|exact .inr rfl|exact .inl rfl) (.cellN rfl inferInstance (by (first | assumption | exact AHeap.get_push_same _ _ | ((repeat first | exact AHeap.get_push_same _ _ | assumption | refine get_push_lt ?_ | exact AHeap.get_put_same _ (by first | omega | (simp only [AHeap.n_push, AHeap.n_put]; omega)) _ | exact get_put_self (by assumption) | apply get_put_self | refine get_put_other (by first | omega | (simp only [AHeap.n_push, AHeap.n_put]; omega)) ?_ | refine Same.get (by assumption) ?_ | refine Keeps.get (by assumption) ?_ (fun hi => by have hx := Own.out (by assumption) hi; omega)) ; fail_if_success focus skip) | fail)) (by first | exact Nat.le_refl _ | (simp [setL, cellsL]; fail_if_success focus skip) | (simp; omega)) rfl (.tmp rfl (.tmp rfl .nil))) ?_)
    exact .inl ⟨fun w => by have := w.1; omega, rfl⟩
  have hN : tN (zs.drop at_) < 65536 := beNum_lt_of (k := 2) (by simp; omega) rfl
  have hN' : tN (zs.drop at_) = beNum ((zs.drop (at_ + 2)).take 2) := by rw [tN, List.drop_drop]
  generalize hw : tN (zs.drop at_) = w at *
  (refine CallS.of3 Try.func43 rfl Try.ntmps43 Try.results43 rfl ?_)
  (refine Go.run (g:=?_))
  have hz1 := hz.push (.cells [.int .u16 0, .int .u8 0, .slice none 0 0] 25)
  refine GoR.bLH (l := at_ + 2) (r := at_ + 4) rfl rfl rfl rfl rfl rfl rfl hz1 (by omega) (by omega) ?_
  intro a1 hz2 _
  have e42 : at_ + 4 - (at_ + 2) = 2 := by omega
  rw [e42] at hz2 ⊢
  (refine Go.run (g:=?_))
  refine GoR.call rfl rfl rfl rfl rfl rfl rfl (((refNumber_n a1 (cap - (at_ + 2)) ((zs.drop (at_ + 2)).take 2) 2 (by simp; omega) (by omega) _ hz2).args (by first | rfl | (simp; fail_if_success focus skip) | (simp; omega) | (congr 2; omega))).mono ?_)
  rw [← hN']
  rintro _ h2 rfl s2
  (refine Go.run (g:=?_))
  have hz3 := hz1.same s2
  have G2 := s2.get (AHeap.get_push_same h (.cells [.int .u16 0, .int .u8 0, .slice none 0 0] 25))
  have S2 : Same h h2 := ((Same.refl h).push _).trans s2
  have N2 : h.n + 1 ≤ h2.n := by have := s2.1; simpa using this
  clear hz1 hz2 s2
  refine Go.loop (α := Nat) (fun j => [(10, .int .i64 (at_ + w + j : Nat)), (9, .int .i64 w), (0, .bool chunk), (1, .slice a n cap), (2, .int .i64 at_), (6, .pointer (some ⟨h.n, 0, none⟩))]) (fun _ => []) (fun _ => h2) (fun j => w + j ≤ up4 w) (fun j => up4 w - (w + j)) 0 ?_ ?_ rfl rfl ?_
  · exact (up4_le w).1
  · exact ⟨rfl, rfl, rfl, rfl, rfl, rfl, trivial⟩
  · intro j hj
    have hj : w + j ≤ up4 w := hj
    have hu := up4_le w
    by_cases hm : (at_ + w + j) % 4 = at_ % 4
    case neg =>
      have hm' : ¬ (((at_ + w + j : Nat) : Int) % 4 = ((at_ : Nat) : Int) % 4) := by omega
      (refine Go.run (g:=?_))
      exact Go.again (j + 1) (show w + (j + 1) ≤ up4 w by unfold up4 at hj ⊢; omega) (show up4 w - (w + (j + 1)) < up4 w - (w + j) by unfold up4 at hj ⊢; omega) ⟨rfl, rfl, rfl, rfl, rfl, rfl, trivial⟩ rfl rfl
    have hj' : w + j = up4 w := by unfold up4 at hj ⊢; omega
    have ej : at_ + w + j = at_ + up4 w := by omega
    rw [ej]
    have hT : tN (zs.drop at_) = w := hw
    rcases Nat.lt_or_ge w 4 with g2 | g2
    · (refine Go.run (g:=?_))
      (refine Go.fin (by first|exact .inr rfl|exact .inl rfl) (.cellN rfl inferInstance (by (first | assumption | exact AHeap.get_push_same _ _ | ((repeat first | exact AHeap.get_push_same _ _ | assumption | refine get_push_lt ?_ | exact AHeap.get_put_same _ (by first | omega | (simp only [AHeap.n_push, AHeap.n_put]; omega)) _ | exact get_put_self (by assumption) | apply get_put_self | refine get_put_other (by first | omega | (simp only [AHeap.n_push, AHeap.n_put]; omega)) ?_ | refine Same.get (by assumption) ?_ | refine Keeps.get (by assumption) ?_ (fun hi => by have hx := Own.out (by assumption) hi; omega)) ; fail_if_success focus skip) | fail)) (by first | exact Nat.le_refl _ | (simp [setL, cellsL]; fail_if_success focus skip) | (simp; omega)) rfl (.tmp rfl (.tmp rfl .nil))) ?_)
      exact .inl ⟨fun q => by have := q.2.1; rw [hT] at this; omega, rfl⟩
    rcases Nat.lt_or_ge n (at_ + up4 w) with g3 | g3
    · (refine Go.run (g:=?_))
      (refine Go.fin (by first|exact .inr rfl|exact .inl rfl) (.cellN rfl inferInstance (by (first | assumption | exact AHeap.get_push_same _ _ | ((repeat first | exact AHeap.get_push_same _ _ | assumption | refine get_push_lt ?_ | exact AHeap.get_put_same _ (by first | omega | (simp only [AHeap.n_push, AHeap.n_put]; omega)) _ | exact get_put_self (by assumption) | apply get_put_self | refine get_put_other (by first | omega | (simp only [AHeap.n_push, AHeap.n_put]; omega)) ?_ | refine Same.get (by assumption) ?_ | refine Keeps.get (by assumption) ?_ (fun hi => by have hx := Own.out (by assumption) hi; omega)) ; fail_if_success focus skip) | fail)) (by first | exact Nat.le_refl _ | (simp [setL, cellsL]; fail_if_success focus skip) | (simp; omega)) rfl (.tmp rfl (.tmp rfl .nil))) ?_)
      exact .inl ⟨fun q => by have := q.2.2.1; rw [hT, hzl] at this; omega, rfl⟩
    (refine Go.run (g:=?_))
    have hz4 := hz.same S2
    refine Go.loop (α := Nat) (fun j => [(11, .int .i64 (at_ + w + j : Nat)), (10, .int .i64 (at_ + up4 w : Nat)), (9, .int .i64 w), (0, .bool chunk), (1, .slice a n cap), (2, .int .i64 at_), (6, .pointer (some ⟨h.n, 0, none⟩))]) (fun _ => []) (fun _ => h2) (fun j => w + j ≤ up4 w ∧ ((zs.drop (at_ + w)).take j).all (· == 0) = true) (fun j => up4 w - (w + j)) 0 ?_ ?_ rfl rfl ?_
    · exact ⟨hu.1, by simp⟩
    · exact ⟨rfl, rfl, rfl, rfl, rfl, rfl, rfl, trivial⟩
    · rintro i ⟨hi, hall⟩
      rcases Nat.lt_or_ge (w + i) (up4 w) with i0 | i0
      · have hq : at_ + w + i < zs.length := by omega
        (refine Go.run (g:=?_))
        refine GoR.loadV rfl rfl rfl rfl rfl hz4 (byte_at hq) ?_
        have hgi : ((zs.drop (at_ + w)))[i]? = some zs[at_ + w + i] := by rw [List.getElem?_drop, List.getElem?_eq_getElem hq]
        rcases Nat.eq_zero_or_pos zs[at_ + w + i].toNat with b0 | b0
        · rw [b0]
          (refine Go.run (g:=?_))
          refine Go.again (i + 1) ⟨show w + (i + 1) ≤ up4 w by omega, ?_⟩ (show up4 w - (w + (i + 1)) < up4 w - (w + i) by omega) ⟨rfl, rfl, rfl, rfl, rfl, rfl, rfl, trivial⟩ rfl rfl
          rw [List.take_add_one, hgi, List.all_append, hall]
          have : zs[at_ + w + i] = 0 := UInt8.toNat_inj.1 (by simpa using b0)
          simp [this]
        · (refine Go.run (g:=?_))
          (refine Go.fin (by first|exact .inr rfl|exact .inl rfl) (.cellN rfl inferInstance (by (first | assumption | exact AHeap.get_push_same _ _ | ((repeat first | exact AHeap.get_push_same _ _ | assumption | refine get_push_lt ?_ | exact AHeap.get_put_same _ (by first | omega | (simp only [AHeap.n_push, AHeap.n_put]; omega)) _ | exact get_put_self (by assumption) | apply get_put_self | refine get_put_other (by first | omega | (simp only [AHeap.n_push, AHeap.n_put]; omega)) ?_ | refine Same.get (by assumption) ?_ | refine Keeps.get (by assumption) ?_ (fun hi => by have hx := Own.out (by assumption) hi; omega)) ; fail_if_success focus skip) | fail)) (by first | exact Nat.le_refl _ | (simp [setL, cellsL]; fail_if_success focus skip) | (simp; omega)) rfl (.tmp rfl (.tmp rfl .nil))) ?_)
          refine .inl ⟨fun q => ?_, rfl⟩
          have h4 := q.2.2.2
          rw [hT, List.drop_drop] at h4
          have hm2 : zs[at_ + w + i] ∈ (zs.drop (at_ + w)).take (up4 w - w) := by
            refine List.mem_of_getElem? (i := i) ?_
            rw [List.getElem?_take_of_lt (by omega), hgi]
          have := List.all_eq_true.1 h4 _ hm2
          simp at this
          rw [this] at b0
          simp at b0
      · have hi' : w + i = up4 w := by omega
        have hW : Whole (zs.drop at_) := ⟨by omega, by rw [hT]; exact g2, by rw [hT, hzl]; omega, by rw [hT, List.drop_drop, show up4 w - w = i from by omega]; exact hall⟩
        have ei : at_ + w + i = at_ + up4 w := by omega
        rw [ei]
        clear hall hm hj hj' ej
        (refine Go.run (g:=?_))
        refine GoR.buildRo (c := []) rfl rfl rfl rfl rfl (by decide) (by rfl) (by rfl) ?_
        intro b8 h8 hb8 rb8 ob8 s8 n8
        have z8 := hz4.same s8
        have G8 := s8.get G2
        (refine Go.run (g:=?_))
        refine GoR.bLH (l := at_ + 4) (r := at_ + w) rfl rfl rfl rfl rfl rfl rfl z8 (by omega) (by omega) ?_
        intro a9 hz9 _
        (refine Go.run (g:=?_))
        refine GoR.appendRo rfl rfl rfl rfl rfl rfl hb8 rb8 hz9 (by omega) (by omega) ?_
        intro b9 h9 hs9 s9 o9
        have m9 := s9.1
        have o8 : ∀ i ∈ blk b8, h2.n ≤ i := ob8
        have ob9 : Own (h.n + 1) b9 := fun i hi => (o9 i hi).elim (fun x => by have := o8 i x; omega) (fun x => by omega)
        have G9 := s9.get G8
        have z9 := z8.same s9
        have ez : ((zs.drop (at_ + 4)).take (at_ + w - (at_ + 4))) = (thing chunk (zs.drop at_)).2.2 := by
          simp only [thing, List.drop_drop, hT]
          congr 1
          omega
        have el : 0 + (at_ + w - (at_ + 4)) = (thing chunk (zs.drop at_)).2.2.length := by
          rw [thing_len hW, hT]; omega
        rw [List.nil_append, ez, el] at hs9
        rw [el]
        have hk1 : (thing chunk (zs.drop at_)).1 = if chunk then beNum ((zs.drop at_).take 1) else beNum ((zs.drop at_).take 2) := rfl
        have hk2 : (thing chunk (zs.drop at_)).2.1 = if chunk then beNum (((zs.drop at_).drop 1).take 1) else 0 := rfl
        generalize hTT : thing chunk (zs.drop at_) = T at *
        obtain ⟨Tk, Tf, Tz⟩ := T
        simp only at hk1 hk2 hs9 ⊢
        clear hz9 hb8 z8 G8 ez el
        (refine Go.run (g:=?_))
        have q0 : at_ < zs.length := by omega
        have q1 : at_ + 1 < zs.length := by omega
        have ez4 : ∀ A b B, h9.n ≤ b → Rv Try.prog ((h9.push A).put b B) 1 a n cap (zs.map bv) := fun A b B hb => z9.same (((Same.refl h9).push A).put hb B)
        cases chunk
        · simp only [Bool.false_eq_true, if_false] at hk1 hk2
          subst hk1 hk2
          (refine Go.run (g:=?_))
          refine GoR.bLH (l := at_) (r := at_ + 2) rfl rfl rfl rfl rfl rfl rfl (ez4 _ _ _ (Nat.le_refl _)) (by omega) (by omega) ?_
          intro a10 hz10 _
          have e2 : at_ + 2 - at_ = 2 := by omega
          rw [e2] at hz10 ⊢
          (refine Go.run (g:=?_))
          have hlt : beNum ((zs.drop at_).take 2) < 65536 := beNum_lt_of (k := 2) (by simp; omega) rfl
          refine GoR.call rfl rfl rfl rfl rfl rfl rfl (((refNumber_n a10 (cap - at_) ((zs.drop at_).take 2) 2 (by simp; omega) (by omega) _ hz10).args (by first | rfl | (simp; fail_if_success focus skip) | (simp; omega) | (congr 2; omega))).mono ?_)
          rintro _ h11 rfl s11
          (have nn := (s11).1; try simp only [AHeap.n_push, AHeap.n_put] at nn)
          have z11 := (ez4 _ _ _ (Nat.le_refl _)).same s11
          have hs11 := (hs9.pushPut (.cells [.int .u16 0, .int .u8 0, .slice none 0 0] 25) (some (.cells [.int .u16 0, .int .u8 0, .slice b9 Tz.length Tz.length] 25))).same s11
          have G11 := s11.get (((AHeap.get_put_ne (h9.push (.cells [.int .u16 0, .int .u8 0, .slice none 0 0] 25)) (i := h9.n) (j := h.n) (some (.cells [.int .u16 0, .int .u8 0, .slice b9 Tz.length Tz.length] 25)) (by omega)).trans ((AHeap.get_push_ne h9 _ (by omega)))).trans G9)
          (refine Go.run (g:=?_))
          (refine Go.fin (by first|exact .inr rfl|exact .inl rfl) (.cellN rfl inferInstance (by (first | assumption | exact AHeap.get_push_same _ _ | ((repeat first | exact AHeap.get_push_same _ _ | assumption | refine get_push_lt ?_ | exact AHeap.get_put_same _ (by first | omega | (simp only [AHeap.n_push, AHeap.n_put]; omega)) _ | exact get_put_self (by assumption) | apply get_put_self | refine get_put_other (by first | omega | (simp only [AHeap.n_push, AHeap.n_put]; omega)) ?_ | refine Same.get (by assumption) ?_ | refine Keeps.get (by assumption) ?_ (fun hi => by have hx := Own.out (by assumption) hi; omega)) ; fail_if_success focus skip) | fail)) (by first | exact Nat.le_refl _ | (simp [setL, cellsL]; fail_if_success focus skip) | (simp; omega)) rfl (.tmp rfl (.tmp rfl .nil))) ?_)
          refine .inr ⟨hW, ⟨beNum ((zs.drop at_).take 2), 0, Tz, b9, Tz.length⟩, (by rw [hT]; rfl), hTT.symm, ?_, ob9.mono (by omega)⟩
          exact (hs11.put (fun hm => by have := hs9.lt _ hm; omega) _).put (fun hm => by have := ob9 _ hm; omega) _
        · simp only [if_true] at hk1 hk2
          rw [take_one q0, beNum_one] at hk1
          rw [List.drop_drop, take_one q1, beNum_one] at hk2
          subst hk1 hk2
          (refine Go.run (g:=?_))
          refine GoR.indexN rfl rfl rfl rfl rfl rfl (hS := ez4 _ _ _ (Nat.le_refl _)) (h1 := by omega) ?_
          refine GoR.loadV rfl rfl rfl rfl rfl (ez4 _ _ _ (Nat.le_refl _)) (byte_at q0) ?_
          have hx0 : zs[at_].toNat < 65536 := Nat.lt_of_lt_of_le (UInt8.toNat_lt _) (by decide)
          (refine Go.run (g:=?_))
          have ez5 : ∀ A b B b' B', h9.n ≤ b → h9.n ≤ b' → Rv Try.prog (((h9.push A).put b B).put b' B') 1 a n cap (zs.map bv) := fun A b B b' B' hb hb' => z9.same ((((Same.refl h9).push A).put hb B).put hb' B')
          refine GoR.indexN (i := at_ + 1) (len := n) rfl rfl rfl rfl rfl rfl (hS := ez5 _ _ _ _ _ (Nat.le_refl _) (Nat.le_refl _)) (h1 := by omega) ?_
          refine GoR.loadV rfl rfl rfl rfl rfl (ez5 _ _ _ _ _ (Nat.le_refl _) (Nat.le_refl _)) (byte_at q1) ?_
          have hs11 : ∀ A b B b' B' b'' B'' b₃ B₃, h9.n ≤ b → h9.n ≤ b' → h9.n ≤ b'' → h.n = b₃ → Rv Try.prog (((((h9.push A).put b B).put b' B').put b'' B'').put b₃ B₃) 1 b9 Tz.length Tz.length (Tz.map bv) := fun A b B b' B' b'' B'' b₃ B₃ hb hb' hb'' e => (hs9.same (((((Same.refl h9).push A).put hb B).put hb' B').put hb'' B'')).put (fun hm => by have := ob9 _ hm; omega) B₃
          (refine Go.run (g:=?_))
          (refine Go.fin (by first|exact .inr rfl|exact .inl rfl) (.cellN rfl inferInstance (by (first | assumption | exact AHeap.get_push_same _ _ | ((repeat first | exact AHeap.get_push_same _ _ | assumption | refine get_push_lt ?_ | exact AHeap.get_put_same _ (by first | omega | (simp only [AHeap.n_push, AHeap.n_put]; omega)) _ | exact get_put_self (by assumption) | apply get_put_self | refine get_put_other (by first | omega | (simp only [AHeap.n_push, AHeap.n_put]; omega)) ?_ | refine Same.get (by assumption) ?_ | refine Keeps.get (by assumption) ?_ (fun hi => by have hx := Own.out (by assumption) hi; omega)) ; fail_if_success focus skip) | fail)) (by first | exact Nat.le_refl _ | (simp [setL, cellsL]; fail_if_success focus skip) | (simp; omega)) rfl (.tmp rfl (.tmp rfl .nil))) ?_)
          refine .inr ⟨hW, ⟨zs[at_].toNat, zs[at_ + 1].toNat, Tz, b9, Tz.length⟩, (by rw [hT]; rfl), hTT.symm, ?_, ob9.mono (by omega)⟩
          exact hs11 _ _ _ _ _ _ _ _ _ (Nat.le_refl _) (Nat.le_refl _) (Nat.le_refl _) rfl
end Go.Proofs.Ytmelgnpogdilgaa

/- lanyardref04: All: its contract on the abstract heap. No conditions. -/
namespace Go.Proofs.Ytmelgnpogdilgaa
set_option linter.unusedVariables false
set_option maxRecDepth 100000
attribute [local irreducible] Go GoR GoL
/-- A row of things of the call's own, and what they hold. -/
structure TRow (h h' : AHeap) (a : Option Addr) (cap : Nat) (ts : List TV) : Prop where
  sv : Sv h' 25 3 a ts.length cap (tcells ts)
  own : Own h.n a
  tv : TVs h' ts
  apart : ∀ t ∈ ts, ∀ i ∈ blk t.a, i ∉ blk a
  ownv : ∀ t ∈ ts, Own h.n t.a
theorem TRow.nil (h h' : AHeap) : TRow h h' none 0 [] := ⟨.nil, Own.nil _, (fun t ht => by cases ht), (fun t ht => by cases ht), fun t ht => by cases ht⟩
theorem TRow.same {h h' h'' : AHeap} {a : Option Addr} {cap : Nat} {ts : List TV} (k : TRow h h' a cap ts) (s : Same h' h'') : TRow h h'' a cap ts := ⟨k.sv.same s, k.own, k.tv.same s, k.apart, k.ownv⟩
theorem TRow.snoc {h h₁ h₂ : AHeap} {a a₂ : Option Addr} {cap cap₂ : Nat} {ts : List TV} {t : TV} (k : TRow h h₁ a cap ts) (hn : h.n ≤ h₁.n) (ht : t.ok h₁) (hta : ∀ i ∈ blk t.a, i ∉ blk a) (hto : Own h.n t.a) (sv : Sv h₂ 25 3 a₂ (ts.length + 1) cap₂ (tcells ts ++ t.cells)) (kp : Keeps (blk a) h₁ h₂) (hb : ∀ i ∈ blk a₂, i ∈ blk a ∨ h₁.n ≤ i) : TRow h h₂ a₂ cap₂ (ts ++ [t]) := by
  have all : ∀ u ∈ ts ++ [t], u.ok h₁ ∧ ∀ i ∈ blk u.a, i ∉ blk a := fun u hu => by
    rcases List.mem_append.1 hu with hu | hu
    · exact ⟨k.tv u hu, k.apart u hu⟩
    · simp at hu; subst hu; exact ⟨ht, hta⟩
  refine ⟨by rw [tcells_snoc, List.length_append]; exact sv, fun i hi => (hb i hi).elim (k.own i) (fun x => by omega), fun u hu => ?_, fun u hu i hi hm => ?_, fun u hu => ?_⟩
  · exact Rv.keeps (all u hu).1 kp (all u hu).2
  · rcases hb i hm with x | x
    · exact (all u hu).2 i hi x
    · have := Rv.lt (all u hu).1 i hi; omega
  · rcases List.mem_append.1 hu with hu | hu
    · exact k.ownv u hu
    · simp at hu; subst hu; exact hto
set_option maxHeartbeats 8000000 in
theorem refAll_spec (chunk : Bool) (a : Option Addr) (n cap : Nat) (zs : List UInt8) (hlen : zs.length = n) (hn : n ≤ 1000000) (h : AHeap) (hz : Rv Try.prog h 1 a n cap (zs.map bv)) : CallS Try.prog [] 18 [.bool chunk, .slice a n cap] h fun v h' => ∃ b c ts, v = .tuple #[.slice b ts.length c, .bool (parse chunk zs).2] ∧ ts.map TV.thing = (parse chunk zs).1 ∧ TRow h h' b c ts := by
  (refine CallS.of2 Try.func18 rfl Try.ntmps18 Try.results18 rfl ?_)
  (refine Go.run (g:=?_))
  refine Go.loop (α := Nat × List TV × Option Addr × Nat × AHeap) (fun x => [(7, .int .i64 x.1), (6, .slice x.2.2.1 x.2.1.length x.2.2.2.1), (0, .bool chunk), (1, .slice a n cap)]) (fun _ => []) (fun x => x.2.2.2.2) (fun x => x.1 ≤ n ∧ Same h x.2.2.2.2 ∧ TRow h x.2.2.2.2 x.2.2.1 x.2.2.2.1 x.2.1 ∧ 4 * x.2.1.length ≤ x.1 ∧ parse chunk zs = (x.2.1.map TV.thing ++ (parse chunk (zs.drop x.1)).1, (parse chunk (zs.drop x.1)).2)) (fun x => n - x.1) (0, [], none, 0, h) ?_ ?_ rfl rfl ?_
  · exact ⟨Nat.zero_le _, Same.refl h, TRow.nil h h, Nat.le_refl _, by simp⟩
  · exact ⟨rfl, rfl, rfl, rfl, trivial⟩
  · rintro ⟨at_, ts, b, c, h1⟩ ⟨hat, s1, hr, h4, hp⟩
    simp only at hat s1 hr h4 hp ⊢
    have n1 := s1.1
    have hz1 := hz.same s1
    rcases Nat.lt_or_ge at_ n with i0 | i0
    · (refine Go.run (g:=?_))
      refine GoR.call rfl rfl rfl rfl rfl rfl rfl (((one_spec chunk a n cap zs hlen at_ hat hn _ hz1).args (by first | rfl | (simp; fail_if_success focus skip) | (simp; omega) | (congr 2; omega))).mono ?_)
      rintro v h2 hv s2
      (have nn := (s2).1; try simp only [AHeap.n_push, AHeap.n_put] at nn)
      have hne : zs.drop at_ ≠ [] := by intro e; have := congrArg List.length e; simp at this; omega
      rcases hv with ⟨hW, rfl⟩ | ⟨hW, t, rfl, ht, hok, hown⟩
      · rw [parse_none hne hW] at hp
        (refine Go.run (g:=?_))
        (first|refine Go.finT (by first|exact .inr rfl|exact .inl rfl) rfl ?_|refine Go.fin1 (by first|exact .inr rfl|exact .inl rfl) rfl (hq:=?_))
        exact ⟨b, c, ts, by rw [hp]; rfl, by rw [hp]; simp, (hr.same s2).same (((Same.refl h2).push _).put (Nat.le_refl _) _)⟩
      · rw [parse_some hW] at hp
        have hw1 := hW.2.2.1
        have hw2 := hW.2.1
        have hw3 := up4_le (tN (zs.drop at_))
        rw [List.length_drop, hlen] at hw1
        (refine Go.run (g:=?_))
        have r2 := (hr.same s2).same (((Same.refl h2).push (.cells [.int .u16 0, .int .u8 0, .slice none 0 0] 25)).put (Nat.le_refl _) (some (.cells t.cells 25)))
        have ok2 : t.ok _ := Rv.pushPut hok (.cells [.int .u16 0, .int .u8 0, .slice none 0 0] 25) (some (.cells t.cells 25))
        refine GoR.buildRo (c := t.cells) rfl rfl rfl rfl rfl (by decide) (by rfl) (by rfl) ?_
        intro b8 h8 hb8 rb8 ob8 s8 n8
        have r8 := r2.same s8
        have ok8 := Rv.same ok2 s8
        simp only [AHeap.n_push, AHeap.n_put] at n8
        refine GoR.appendV rfl rfl rfl rfl rfl rfl r8.sv hb8 (Own.ok r8.own (Nat.le_refl _)) (by omega) (by omega) (by rfl) ?_
        intro b9 c9 h9 hs9 k9 o9
        have m9 := k9.1
        have r9 := r8.snoc (by omega) ok8 (fun i hi hm => by have := hown i hi; have := hr.sv.lt i hm; omega) (hown.mono (by omega)) hs9 k9 o9
        (refine Go.run (g:=?_))
        refine Go.again (at_ + up4 (tN (zs.drop at_)), ts ++ [t], b9, c9, h9) ⟨by simp only; omega, ?_, r9, by simp only [List.length_append, List.length_cons, List.length_nil]; omega, ?_⟩ (by simp only; omega) ⟨rfl, by simp only [List.length_append, List.length_cons, List.length_nil]; rfl, rfl, rfl, trivial⟩ rfl rfl
        · exact ((((s1.trans s2).push _).put (by omega) _).trans s8).ownO k9 r8.own (Nat.le_refl _)
        · simp only
          rw [hp, List.map_append, List.map_cons, List.map_nil, ht, List.append_assoc, List.drop_drop]
          rfl
    · have ha : at_ = n := by omega
      subst ha
      rw [List.drop_eq_nil_of_le (by omega), parse_nil] at hp
      (refine Go.run (g:=?_))
      (first|refine Go.finT (by first|exact .inr rfl|exact .inl rfl) rfl ?_|refine Go.fin1 (by first|exact .inr rfl|exact .inl rfl) rfl (hq:=?_))
      exact ⟨b, c, ts, by rw [hp]; rfl, by rw [hp]; simp, hr⟩
end Go.Proofs.Ytmelgnpogdilgaa

/- tlv.All: what it goes over, for any body. No conditions. -/
namespace Go.Proofs.Ytmelgnpogdilgaa
set_option linter.unusedVariables false
set_option maxRecDepth 100000
attribute [local irreducible] Go GoR GoL
theorem Keeps.rfl (wr : List Nat) (h : AHeap) : Keeps wr h h := ⟨Nat.le_refl _, fun _ _ _ => Eq.refl _⟩
theorem Keeps.put {wr : List Nat} {h h' : AHeap} (k : Keeps wr h h') {b : Nat} (hb : b ∈ wr) (o : Option AObj) : Keeps wr h (h'.put b o) := ⟨k.1, fun i hi hn => by rw [AHeap.get_put_ne _ _ (fun e => hn (by rw [← e]; exact hb))]; exact k.2 i hi hn⟩
/-- A body of a range over things: 's' is what it holds, 'wrO' what it may write. -/
structure Yl (n0 : Nat) (l : Nat) {σ : Type} (wrO : σ → List Nat) (inv stop : σ → Nat → AHeap → Prop) (items : List Thing) (bad : Bool) : Prop where
  same : ∀ s i h h', inv s i h → Same h h' → inv s i h'
  lt : ∀ s i h, inv s i h → ∀ b ∈ l :: wrO s, b < h.n
  item : ∀ s i h (t : TV), inv s i h → items[i]? = some t.thing → t.ok h → (∀ j ∈ blk t.a, j ∉ l :: wrO s) → Own n0 t.a → YieldS Try.prog (l :: wrO s) l [tlvV t.k t.f t.a t.z.length t.cap, .int .i64 0] h fun c h' => ∃ s', (∀ b ∈ wrO s', b ∈ wrO s ∨ h.n ≤ b) ∧ (c = true → inv s' (i + 1) h') ∧ (c = false → stop s' (i + 1) h')
  ends : ∀ s h, bad = true → inv s items.length h → YieldS Try.prog (l :: wrO s) l [tlvV 0 0 none 0 0, .int .i64 40] h fun c h' => ∃ s', stop s' (items.length + 1) h'
set_option maxHeartbeats 16000000 in
theorem all1_spec {l : Nat} {σ : Type} {wrO : σ → List Nat} {inv stop : σ → Nat → AHeap → Prop} (chunk : Bool) (bb cb : Nat) (a : Option Addr) (n cap : Nat) (zs : List UInt8) (hlen : zs.length = n) (hn : n ≤ 1000000) (h : AHeap) (s0 : σ) (Y : Yl h.n l wrO inv stop (parse chunk zs).1 (!(parse chunk zs).2)) (hi0 : inv s0 0 h) (hb : h.get bb = some (.cells [.slice a n cap] 23)) (hc : h.get cb = some (.cells [.bool chunk] 4)) (hz : Rv Try.prog h 1 a n cap (zs.map bv)) (p1 : bb ∉ l :: wrO s0) (p2 : cb ∉ l :: wrO s0) (p3 : ∀ i ∈ blk a, i ∉ l :: wrO s0) :
    CallS Try.prog (l :: wrO s0) 44 [.func (.yield l) #[] #[], .pointer (some ⟨bb, 0, none⟩), .pointer (some ⟨cb, 0, none⟩)] h fun v h' => (∃ s, (parse chunk zs).2 = true ∧ inv s (parse chunk zs).1.length h') ∨ ∃ s i, stop s i h' := by
  have hle := hz.le
  have hlb := AHeap.lt hb
  have hlc := AHeap.lt hc
  have hla : ∀ i ∈ blk a, i < h.n := hz.lt
  (refine CallS.of3 Try.func44 rfl Try.ntmps44 Try.results44 rfl ?_)
  (refine Go.run (g:=?_))
  refine Go.label ?_
  refine Go.seq ?_
  refine Go.join1 (α := Nat × Option Addr × σ × AHeap) (fun x => [(4, .slice x.2.1 (n - x.1) (cap - x.1)), (0, .func (.yield l) #[] #[])]) (fun _ => []) (fun x => x.2.2.2) (fun x => x.1 ≤ n ∧ inv x.2.2.1 (parse chunk zs).1.length x.2.2.2 ∧ (∀ b ∈ wrO x.2.2.1, b ∈ wrO s0 ∨ h.n ≤ b) ∧ (parse chunk zs).2 = decide (x.1 = n)) ?_ ?_
  case refine_2 =>
    rintro ⟨p, a1, s, h1⟩ ⟨hp, hi1, hw1, hwell⟩
    simp only at hp hi1 hw1 hwell ⊢
    by_cases hpn : p = n
    · subst hpn
      rw [decide_eq_true rfl] at hwell
      (refine Go.run (g:=?_))
      (first|refine Go.finT (by first|exact .inr rfl|exact .inl rfl) rfl ?_|refine Go.fin1 (by first|exact .inr rfl|exact .inl rfl) rfl (hq:=?_))
      exact .inl ⟨s, hwell, hi1⟩
    · rw [decide_eq_false hpn] at hwell
      (refine Go.run (g:=?_))
      refine GoR.yield rfl rfl rfl rfl rfl rfl ((Y.ends s h1 (by rw [hwell]; rfl) hi1).mono ?_)
      rintro c h2 ⟨s', hst⟩ k2
      refine ⟨fun b hb => ?_, ?_⟩
      · rcases List.mem_cons.1 hb with rfl | hb
        · exact .inl (List.mem_cons_self ..)
        · exact (hw1 b hb).imp (fun x => List.mem_cons_of_mem _ x) id
      (refine Go.run (g:=?_))
      (first|refine Go.finT (by first|exact .inr rfl|exact .inl rfl) rfl ?_|refine Go.fin1 (by first|exact .inr rfl|exact .inl rfl) rfl (hq:=?_))
      exact .inr ⟨s', _, hst⟩
  · refine Go.block ?_
    refine Go.loop (α := Nat × Option Addr × σ × List Thing × AHeap) (fun x => [(4, .slice x.2.1 (n - x.1) (cap - x.1)), (0, .func (.yield l) #[] #[]), (1, .pointer (some ⟨bb, 0, none⟩)), (2, .pointer (some ⟨cb, 0, none⟩))]) (fun _ => []) (fun x => x.2.2.2.2) (fun x => x.1 ≤ n ∧ inv x.2.2.1 x.2.2.2.1.length x.2.2.2.2 ∧ (∀ b ∈ wrO x.2.2.1, b ∈ wrO s0 ∨ h.n ≤ b) ∧ h.n ≤ x.2.2.2.2.n ∧ x.2.2.2.2.get cb = some (.cells [.bool chunk] 4) ∧ Rv Try.prog x.2.2.2.2 1 x.2.1 (n - x.1) (cap - x.1) ((zs.drop x.1).map bv) ∧ (∀ i ∈ blk x.2.1, i ∈ blk a) ∧ parse chunk zs = (x.2.2.2.1 ++ (parse chunk (zs.drop x.1)).1, (parse chunk (zs.drop x.1)).2)) (fun x => n - x.1) (0, a, s0, [], h) ?_ ?_ rfl rfl ?_
    · exact ⟨Nat.zero_le _, hi0, fun b hb => .inl hb, Nat.le_refl _, hc, hz, fun i hi => hi, by simp⟩
    · exact ⟨rfl, rfl, rfl, rfl, trivial⟩
    · rintro ⟨p, a1, s, done, h1⟩ ⟨hp, hi1, hw1, hn1, hc1, hz1, hb1, hpar⟩
      simp only at hp hi1 hw1 hn1 hc1 hz1 hb1 hpar ⊢
      have hzl : (zs.drop p).length = n - p := by simp [hlen]
      rcases Nat.eq_or_lt_of_le hp with hpn | hpn
      · subst hpn
        have ed : zs.drop p = [] := List.drop_eq_nil_of_le (by omega)
        rw [ed, parse_nil, List.append_nil] at hpar
        (refine Go.run (g:=?_))
        exact Go.joined (p, a1, s, h1) ⟨Nat.le_refl _, by rw [hpar]; exact hi1, hw1, by rw [hpar]; simp⟩ ⟨rfl, rfl, trivial⟩ rfl rfl
      have hne : zs.drop p ≠ [] := by intro e; rw [e] at hzl; simp at hzl; omega
      have out : ∀ h2 : AHeap, Same h1 h2 → ¬ Whole (zs.drop p) → p ≤ n ∧ inv s (parse chunk zs).1.length h2 ∧ (∀ b ∈ wrO s, b ∈ wrO s0 ∨ h.n ≤ b) ∧ (parse chunk zs).2 = decide (p = n) := fun h2 s2 hW => by
        rw [parse_none hne hW, List.append_nil] at hpar
        exact ⟨hp, by rw [hpar]; exact Y.same _ _ _ _ hi1 s2, hw1, by rw [hpar]; simp; omega⟩
      have hdd : ∀ u, (zs.drop p).drop u = zs.drop (p + u) := fun u => List.drop_drop
      generalize hzz : zs.drop p = z at *
      rcases Nat.lt_or_ge (n - p) 4 with g1 | g1
      · (refine Go.run (g:=?_))
        exact Go.joined (p, a1, s, h1) (out h1 (Same.refl _) (fun w => by have := w.1; omega)) ⟨rfl, rfl, trivial⟩ rfl rfl
      have l2 : 2 < z.length := by omega
      have l3 : 3 < z.length := by omega
      have v2 : (z.map bv)[2]? = some (.int .u8 (z[2].toNat : Int)) := byte_at l2
      have v3 : (z.map bv)[3]? = some (.int .u8 (z[3].toNat : Int)) := byte_at l3
      have x2 : z[2].toNat < 256 := UInt8.toNat_lt _
      have x3 : z[3].toNat < 256 := UInt8.toNat_lt _
      have hT : z[2].toNat * 2 ^ 8 ||| z[3].toNat = tN z := by
        rw [or_byte _ _ x3, tN, take_two l3, beNum_two]
      have hw : tN z < 65536 := beNum_lt_of (k := 2) (by simp; omega) rfl
      (refine Go.run (g:=?_))
      rw [hT]
      have hu := up4_le (tN z)
      rcases Nat.lt_or_ge (tN z) 4 with g2 | g2
      · (refine Go.run (g:=?_))
        exact Go.joined (p, a1, s, h1) (out h1 (Same.refl _) (fun w => by have := w.2.1; omega)) ⟨rfl, rfl, trivial⟩ rfl rfl
      (refine Go.run (g:=?_))
      refine GoR.call rfl rfl rfl rfl rfl rfl rfl (((up_spec (tN z) (by omega) _).args (by first | rfl | (simp; fail_if_success focus skip) | (simp; omega) | (congr 2; omega))).mono ?_)
      rintro _ h2 rfl s2
      rw [up4_def]
      rcases Nat.lt_or_ge (n - p) (up4 (tN z)) with g3 | g3
      · (refine Go.run (g:=?_))
        exact Go.joined (p, a1, s, h2) (out h2 s2 (fun w => by have := w.2.2.1; omega)) ⟨rfl, rfl, trivial⟩ rfl rfl
      (refine Go.run (g:=?_))
      refine GoR.call rfl rfl rfl rfl rfl rfl rfl (((up_spec (tN z) (by omega) _).args (by first | rfl | (simp; fail_if_success focus skip) | (simp; omega) | (congr 2; omega))).mono ?_)
      rintro _ h3 rfl s3
      rw [up4_def]
      have S3 := s2.trans s3
      have hz3 := hz1.same S3
      (refine Go.run (g:=?_))
      refine GoR.bLH (l := tN z) (r := up4 (tN z)) rfl rfl rfl rfl rfl rfl rfl hz3 (by omega) (by omega) ?_
      intro a4 hz4 hb4
      (refine Go.run (g:=?_))
      have hyl : ((z.drop (tN z)).take (up4 (tN z) - tN z)).length = up4 (tN z) - tN z := by simp; omega
      generalize hy : (z.drop (tN z)).take (up4 (tN z) - tN z) = y at *
      refine Go.loop (α := Nat) (fun j => [(41, .int .i64 j), (40, .int .i64 (up4 (tN z) - tN z : Nat)), (39, .slice a4 (up4 (tN z) - tN z) (cap - p - tN z)), (5, .int .i64 (tN z)), (4, .slice a1 (n - p) (cap - p)), (0, .func (.yield l) #[] #[]), (1, .pointer (some ⟨bb, 0, none⟩)), (2, .pointer (some ⟨cb, 0, none⟩))]) (fun _ => []) (fun _ => h3) (fun j => j ≤ up4 (tN z) - tN z ∧ (y.take j).all (· == 0) = true) (fun j => up4 (tN z) - tN z - j) 0 ?_ ?_ rfl rfl ?_
      · exact ⟨Nat.zero_le _, by simp⟩
      · exact ⟨rfl, rfl, rfl, rfl, rfl, rfl, rfl, rfl, trivial⟩
      · rintro j ⟨hj, hall⟩
        rcases Nat.lt_or_ge j (up4 (tN z) - tN z) with j0 | j0
        · have hq : j < y.length := by omega
          have vj := byte_at hq
          (refine Go.run (g:=?_))
          rcases Nat.eq_zero_or_pos y[j].toNat with b0 | b0
          · rw [b0]
            (refine Go.run (g:=?_))
            refine Go.again (j + 1) ⟨show j + 1 ≤ up4 (tN z) - tN z by omega, ?_⟩ (show up4 (tN z) - tN z - (j + 1) < up4 (tN z) - tN z - j by omega) ⟨rfl, rfl, rfl, rfl, rfl, rfl, rfl, rfl, trivial⟩ rfl rfl
            rw [List.take_add_one, List.getElem?_eq_getElem hq, List.all_append, hall]
            have : y[j] = 0 := UInt8.toNat_inj.1 (by simpa using b0)
            simp [this]
          · (refine Go.run (g:=?_))
            refine Go.joined (p, a1, s, h3) (out h3 S3 (fun w => ?_)) ⟨rfl, rfl, trivial⟩ rfl rfl
            have h4 := w.2.2.2
            rw [hy] at h4
            have := List.all_eq_true.1 h4 _ (List.getElem_mem hq)
            simp at this
            rw [this] at b0
            simp at b0
        · have hj' : j = up4 (tN z) - tN z := by omega
          have hW : Whole z := ⟨by omega, g2, by omega, by rw [hy, ← List.take_of_length_le (show y.length ≤ j by omega)]; exact hall⟩
          rw [parse_some hW] at hpar
          clear out hall hz4 hyl hy hz1
          (refine Go.run (g:=?_))
          have l0 : 0 < z.length := by omega
          have l1 : 1 < z.length := by omega
          have v0 : (z.map bv)[0]? = some (.int .u8 (z[0].toNat : Int)) := byte_at l0
          have v1 : (z.map bv)[1]? = some (.int .u8 (z[1].toNat : Int)) := byte_at l1
          have x0 : z[0].toNat < 256 := UInt8.toNat_lt _
          have x1 : z[1].toNat < 256 := UInt8.toNat_lt _
          refine Go.loud (by kernel_rfl) rfl ?_
          (refine Go.runL (g:=?_))
          refine GoL.bLH (l := 4) (r := tN z) rfl rfl rfl rfl rfl rfl rfl hz3 (by omega) (by omega) ?_
          intro a5 hz5 hb5
          (refine Go.runL (g:=?_))
          refine GoL.callS rfl rfl rfl rfl rfl rfl rfl (((clone_n a5 (cap - p - 4) ((z.drop 4).take (tN z - 4)) (tN z - 4) (by simp; omega) (by omega) _ hz5).args (by first | rfl | (simp; fail_if_success focus skip) | (simp; omega) | (congr 2; omega))).mono ?_)
          rintro _ h6 ⟨b6, c6, rfl, hs6, ob6⟩ s6
          (have nn := (s6).1; try simp only [AHeap.n_push, AHeap.n_put] at nn)
          (refine Go.runL (g:=?_))
          have hk : z[0].toNat * 2 ^ 8 ||| z[1].toNat = beNum (z.take 2) := by
            have := take_two (z := z) (i := 0) (by omega)
            rw [List.drop_zero] at this
            rw [or_byte _ _ x1, this, beNum_two]
          rw [hk]
          have m3 := S3.1
          refine GoL.store rfl rfl rfl rfl rfl (AHeap.get_push_same _ _) rfl rfl (Nat.le_refl 3) rfl rfl (.inr (by omega)) ?_
          (refine GoL.end_ (g:=?_))
          refine Go.name ?_
          intro h7 e7
          have s7 : Same h6 h7 := by subst e7; exact ((Same.refl h6).push _).put (Nat.le_refl _) _
          have n7 : h7.n = h6.n + 1 := by subst e7; rfl
          generalize hV : (z.drop 4).take (tN z - 4) = V at *
          have g7 : h7.get h6.n = some (.cells [.int .u16 (beNum (z.take 2)), .int .u8 (0 : Nat), .slice b6 V.length c6] 25) := by subst e7; exact AHeap.get_put_same _ (by simp) _
          clear e7
          have S7 := S3.trans (s6.trans s7)
          have c7 := S7.get hc1
          have r7 : Rv Try.prog h7 1 b6 V.length c6 (V.map bv) := (Sv.rv hs6).same s7
          have hz7 := hz3.same (s6.trans s7)
          (refine Go.run (g:=?_))
          refine Go.join1 (α := Nat × Nat × AHeap) (fun x => [(8, .pointer (some ⟨h6.n, 0, none⟩)), (5, .int .i64 (tN z)), (4, .slice a1 (n - p) (cap - p)), (0, .func (.yield l) #[] #[]), (1, .pointer (some ⟨bb, 0, none⟩)), (2, .pointer (some ⟨cb, 0, none⟩))]) (fun _ => []) (fun x => x.2.2) (fun x => thing chunk z = (x.1, x.2.1, V) ∧ Keeps [h6.n] h7 x.2.2 ∧ x.2.2.get h6.n = some (.cells [.int .u16 x.1, .int .u8 x.2.1, .slice b6 V.length c6] 25)) ?_ ?_
          · cases chunk
            · (refine Go.run (g:=?_))
              exact Go.joined (beNum (z.take 2), 0, h7) ⟨by simp [thing, hV], ⟨Nat.le_refl _, fun i _ _ => rfl⟩, g7⟩ ⟨rfl, rfl, rfl, rfl, rfl, rfl, trivial⟩ rfl rfl
            · (refine Go.run (g:=?_))
              have m6 := s6.1
              have lta : ∀ i ∈ blk a1, i < h6.n := fun i hi => by have := hz3.lt i hi; omega
              refine Go.loud (by kernel_rfl) rfl ?_
              (refine Go.runL (g:=?_))
              refine GoL.store rfl rfl rfl rfl rfl g7 rfl rfl (by simp [cellsL]) rfl rfl (.inr (by omega)) ?_
              (refine Go.runL (g:=?_))
              refine GoL.store rfl rfl rfl rfl rfl (get_put_self g7) rfl rfl (by simp [cellsL, setL]) rfl rfl (.inr (by omega)) ?_
              (refine Go.runL (g:=?_))
              refine GoL.end (by
                simp only [List.nil_append, List.cons_append]
                repeat (first | exact loudP.nil | refine loudP.none ?_ | refine loudP.new (fun _ hb => absurd hb List.not_mem_nil) ?_ | refine loudP.row (by repeat (first | exact loudRowP.nil | refine loudRowP.none ?_ | refine loudRowP.bef (by decide +kernel) ?_ | refine loudRowP.apart (.inl rfl) rfl (by intro i hi; simp only [List.mem_singleton] at hi; subst hi; exact ⟨fun hm => absurd (lta _ hm) (Nat.lt_irrefl _), List.not_mem_nil, .inl (by simp; omega)⟩) ?_)) ?_)) ?_
              have hk2 : thing true z = (z[0].toNat, z[1].toNat, V) := by
                have e1 := take_one (z := z) (i := 0) l0
                have e2 := take_one (z := z) (i := 1) l1
                rw [List.drop_zero] at e1
                show (beNum (z.take 1), beNum ((z.drop 1).take 1), (z.drop 4).take (tN z - 4)) = _
                rw [e1, e2, beNum_one, beNum_one, hV]
              refine Go.joined (z[0].toNat, z[1].toNat, _) ⟨hk2, ?_, ?_⟩ ⟨rfl, rfl, rfl, rfl, rfl, rfl, trivial⟩ rfl rfl
              · exact ((Keeps.rfl [h6.n] h7).put (by simp) _).put (by simp) _
              · exact get_put_self (get_put_self g7)
          · rintro ⟨k, f, h8⟩ ⟨hth, k8, g8⟩
            simp only at hth k8 g8 ⊢
            have m6 := s6.1
            have m8 := k8.1
            have lta : ∀ i ∈ blk a1, i < h6.n := fun i hi => by have := hz3.lt i hi; omega
            have r8 := r7.keeps k8 (fun i hi hm => by simp only [List.mem_singleton] at hm; subst hm; have := (Sv.rv (P := Try.prog) hs6).lt _ hi; omega)
            have hz8 := hz7.keeps k8 (fun i hi hm => by simp only [List.mem_singleton] at hm; subst hm; have := lta _ hi; omega)
            have S8 : Same h1 h8 := ⟨by omega, fun i hi => by rw [k8.2 i (by have := S7.1; omega) (by simp; omega)]; exact S7.2 i hi⟩
            (refine Go.run (g:=?_))
            have hi8 : inv s done.length h8 := Y.same _ _ _ _ hi1 S8
            have hit : (parse chunk zs).1[done.length]? = some (TV.mk k f V b6 c6).thing := by rw [hpar]; simp [TV.thing, hth]
            have hnw : ∀ j, j < h.n → j ∉ l :: wrO s0 → j ∉ l :: wrO s := fun j hj hn hm => by
              rcases List.mem_cons.1 hm with rfl | hm
              · exact hn (List.mem_cons_self ..)
              · rcases hw1 j hm with x | x
                · exact hn (List.mem_cons_of_mem _ x)
                · omega
            have hb6 : ∀ j ∈ blk b6, j ∉ l :: wrO s := fun j hj hm => by have := Y.lt _ _ _ hi1 j hm; have := ob6 j hj; omega
            refine GoR.yield rfl rfl rfl rfl rfl rfl ((Y.item s done.length h8 ⟨k, f, V, b6, c6⟩ hi8 hit r8 hb6 (ob6.mono (by omega))).mono ?_)
            rintro cc h9 ⟨s', hw', ht, hf⟩ k9
            have m9 := k9.1
            refine ⟨fun b hb => ?_, ?_⟩
            · rcases List.mem_cons.1 hb with rfl | hb
              · exact .inl (List.mem_cons_self ..)
              · exact (hw1 b hb).imp (fun x => List.mem_cons_of_mem _ x) id
            cases cc
            · (refine Go.run (g:=?_))
              (first|refine Go.finT (by first|exact .inr rfl|exact .inl rfl) rfl ?_|refine Go.fin1 (by first|exact .inr rfl|exact .inl rfl) rfl (hq:=?_))
              exact .inr ⟨s', _, hf rfl⟩
            · have hi9 := ht rfl
              have hz9 := hz8.keeps k9 (fun i hi => hnw i (hla i (hb1 i hi)) (p3 i (hb1 i hi)))
              have hc9 := k9.get (S8.get hc1) (hnw cb hlc p2)
              (refine Go.run (g:=?_))
              refine GoR.call rfl rfl rfl rfl rfl rfl rfl (((up_spec (tN z) (by omega) _).args (by first | rfl | (simp; fail_if_success focus skip) | (simp; omega) | (congr 2; omega))).mono ?_)
              rintro _ h10 rfl s10
              rw [up4_def]
              have hz10 := hz9.same s10
              have m10 := s10.1
              (refine Go.run (g:=?_))
              refine GoR.bLo (l := up4 (tN z)) rfl rfl rfl rfl rfl rfl hz10 (by omega) ?_
              intro a11 hz11 hb11
              (refine Go.run (g:=?_))
              have e1 : n - p - up4 (tN z) = n - (p + up4 (tN z)) := by omega
              have e2 : cap - p - up4 (tN z) = cap - (p + up4 (tN z)) := by omega
              have e3 : (z.drop (up4 (tN z))).take (n - p - up4 (tN z)) = zs.drop (p + up4 (tN z)) := by
                rw [hdd]
                exact List.take_of_length_le (by simp; omega)
              rw [e3] at hz11
              rw [e1, e2] at hz11 ⊢
              refine Go.again (p + up4 (tN z), a11, s', done ++ [thing chunk z], h10) ⟨by simp only; omega, ?_, ?_, by simp only; omega, s10.get hc9, hz11, fun i hi => hb1 i (hb11 i hi), ?_⟩ (by simp only; omega) ⟨rfl, rfl, rfl, rfl, trivial⟩ rfl rfl
              · simp only [List.length_append, List.length_cons, List.length_nil]
                exact Y.same _ _ _ _ hi9 s10
              · intro b hb
                rcases hw' b hb with x | x
                · exact hw1 b x
                · exact .inr (by omega)
              · simp only
                rw [hpar, ← hdd]
                simp
end Go.Proofs.Ytmelgnpogdilgaa

/- tlv.List: its contract on the abstract heap. No conditions. -/
namespace Go.Proofs.Ytmelgnpogdilgaa
set_option linter.unusedVariables false
set_option maxRecDepth 100000
attribute [local irreducible] Go GoR GoL
theorem allCall_spec (chunk : Bool) (a : Option Addr) (n cap : Nat) (h : AHeap) : CallS Try.prog [] 19 [.bool chunk, .slice a n cap] h fun v h' => v = .func (.func 44) #[] #[.pointer (some ⟨h.n + 1, 0, none⟩), .pointer (some ⟨h.n, 0, none⟩)] ∧ h' = (h.push (.cells [.bool chunk] 4)).push (.cells [.slice a n cap] 23) := by
  (refine CallS.of2 Try.func19 rfl Try.ntmps19 Try.results19 rfl ?_)
  (refine Go.run (g:=?_))
  (first|refine Go.finT (by first|exact .inr rfl|exact .inl rfl) rfl ?_|refine Go.fin1 (by first|exact .inr rfl|exact .inl rfl) rfl (hq:=?_))
  exact ⟨rfl, rfl⟩
theorem TRow.keeps {h h' h'' : AHeap} {a : Option Addr} {cap : Nat} {ts : List TV} {wr : List Nat} (k : TRow h h' a cap ts) (kp : Keeps wr h' h'') (h1 : ∀ i ∈ blk a, i ∉ wr) (h2 : ∀ t ∈ ts, ∀ i ∈ blk t.a, i ∉ wr) : TRow h h'' a cap ts := ⟨k.sv.keeps kp h1, k.own, (fun t ht => Rv.keeps (k.tv t ht) kp (h2 t ht)), k.apart, k.ownv⟩
theorem takeAll_one {h : AHeap} {d : Nat} (g : h.get d = some (.deferred true)) : takeAll h [d] = some (h.put d (some (.deferred false))) := by simp [takeAll, g]
structure LInv (h0 : AHeap) (tm : List Value) (ps : Array Tmp) (asg bo : Code) (l d ob r4 r5 : Nat) (s : List TV × Option Addr × Nat) (h : AHeap) : Prop where
  loop : h.get l = some (.loop .ready none tm ps asg bo d)
  mark : h.get d = some (.deferred true)
  out : h.get ob = some (.cells [.slice s.2.1 s.1.length s.2.2] 32)
  c4 : h.get r4 = some (.cells [.slice none 0 0] 32)
  c5 : h.get r5 = some (.cells [.int .i64 0] 27)
  row : TRow h0 h s.2.1 s.2.2 s.1
  n0 : h0.n ≤ h.n
  sep : ∀ t ∈ s.1, ∀ i ∈ blk t.a, i ∉ [l, r4, r5, ob, d]
set_option maxHeartbeats 16000000 in
theorem list_spec (chunk : Bool) (a : Option Addr) (n cap : Nat) (zs : List UInt8) (hlen : zs.length = n) (hn : n ≤ 1000000) (h : AHeap) (hz : Rv Try.prog h 1 a n cap (zs.map bv)) : CallS Try.prog [] 21 [.bool chunk, .slice a n cap] h fun v h' => if (parse chunk zs).2 = true then ∃ b c ts, v = .tuple #[.slice b ts.length c, .int .i64 0] ∧ ts.map TV.thing = (parse chunk zs).1 ∧ TRow h h' b c ts else v = .tuple #[.slice none 0 0, .int .i64 40] := by
  (refine CallS.of2 Try.func21 rfl Try.ntmps21 Try.results21 rfl ?_)
  (refine Go.run (g:=?_))
  refine GoR.name ?_
  intro h1 e1
  have s1 : Same h h1 := by subst e1; exact (((Same.refl h).push _).push _).push _
  have n1 : h1.n = h.n + 3 := by subst e1; rfl
  have gr4 : h1.get h.n = some (.cells [.slice none 0 0] 32) := by subst e1; exact get_push_lt (get_push_lt (AHeap.get_push_same _ _))
  have gr5 : h1.get (h.n + 1) = some (.cells [.int .i64 0] 27) := by subst e1; exact get_push_lt (AHeap.get_push_same (h.push _) _)
  have gob : h1.get (h.n + 2) = some (.cells [.slice none 0 0] 32) := by subst e1; exact AHeap.get_push_same ((h.push _).push _) _
  clear e1
  refine GoR.call rfl rfl rfl rfl rfl rfl rfl (((allCall_spec chunk a n cap _).args (by first | rfl | (simp; fail_if_success focus skip) | (simp; omega) | (congr 2; omega))).mono ?_)
  rintro _ _ ⟨rfl, rfl⟩ -
  (refine Go.run (g:=?_))
  refine Go.name ?_
  intro h2 e2
  have s2 : Same h1 h2 := by subst e2; exact ((Same.refl h1).push _).push _
  have n2 : h2.n = h1.n + 2 := by subst e2; rfl
  have gcb : h2.get h1.n = some (.cells [.bool chunk] 4) := by subst e2; exact get_push_lt (AHeap.get_push_same _ _)
  have gbb : h2.get (h1.n + 1) = some (.cells [.slice a n cap] 23) := by subst e2; exact AHeap.get_push_same (h1.push _) _
  clear e2
  have S2 := s1.trans s2
  have hz2 := hz.same S2
  refine Go.rangeFunc' (wr := [h2.n + 1, h.n, h.n + 1, h.n + 2, h2.n]) rfl (by rfl) (by kernel_rfl) ?_
  intro tm ps asg bo HH eps easg ebo eH hN hr
  have Hs : Same h2 HH := by subst eH; exact ((Same.refl h2).push _).push _
  have Hl : HH.get (h2.n + 1) = some (.loop .ready none tm ps asg bo h2.n) := by subst eH; exact AHeap.get_push_same (h2.push _) _
  have Hd : HH.get h2.n = some (.deferred true) := by subst eH; exact get_push_lt (AHeap.get_push_same _ _)
  have Hn : HH.n = h2.n + 2 := by subst eH; rfl
  clear eH
  refine ((all1_spec (l := h2.n + 1) (σ := List TV × Option Addr × Nat) (wrO := fun s => [h.n, h.n + 1, h.n + 2, h2.n] ++ blk s.2.1) (inv := fun s i H => LInv HH tm ps asg bo (h2.n + 1) h2.n (h.n + 2) h.n (h.n + 1) s H ∧ s.1.map TV.thing = (parse chunk zs).1.take i ∧ s.1.length = i ∧ h2.n + 2 ≤ H.n) (stop := fun s i H => (parse chunk zs).2 = false ∧ (∃ tm' ps' as' bo' df', H.get (h2.n + 1) = some (.loop .done (some .ret) tm' ps' as' bo' df')) ∧ H.get h2.n = some (.deferred true) ∧ H.get h.n = some (.cells [.slice none 0 0] 32) ∧ H.get (h.n + 1) = some (.cells [.int .i64 40] 27)) chunk (h1.n + 1) h1.n a n cap zs hlen hn _ ([], none, 0) ?Y ?i0 (Hs.get gbb) (Hs.get gcb) (hz2.same Hs) ?p1 ?p2 ?p3).args rfl).mono ?_
  case p1 => simp [blk]; omega
  case p2 => simp [blk]; omega
  case p3 => intro i hi; have := hz.lt i hi; simp [blk]; omega
  case i0 => exact ⟨⟨Hl, Hd, Hs.get (s2.get gob), Hs.get (s2.get gr4), Hs.get (s2.get gr5), TRow.nil _ _, Nat.le_refl _, fun t ht => by cases ht⟩, by simp, rfl, by omega⟩
  case Y =>
    refine ⟨?_, ?_, ?_, ?_⟩
    · rintro s i H H' ⟨I, x1, x2, x3⟩ sm
      exact ⟨⟨sm.get I.loop, sm.get I.mark, sm.get I.out, sm.get I.c4, sm.get I.c5, I.row.same sm, Nat.le_trans I.n0 sm.1, I.sep⟩, x1, x2, Nat.le_trans x3 sm.1⟩
    · rintro s i H ⟨I, x1, x2, x3⟩ b hb
      simp only [List.mem_cons, List.mem_append, List.not_mem_nil, or_false] at hb
      rcases hb with rfl | (rfl | rfl | rfl | rfl) | hb
      · omega
      · exact AHeap.lt I.c4
      · exact AHeap.lt I.c5
      · exact AHeap.lt I.out
      · exact AHeap.lt I.mark
      · exact I.row.sv.lt _ hb
    · rintro ⟨ts, oa, oc⟩ i H t ⟨I, x1, x2, x3⟩ hit hok hnw hto
      simp only at I x1 x2 hnw ⊢
      refine YieldS.of' I.loop hN hr eps easg ebo rfl (by rfl) rfl (List.mem_cons_self ..) ?_
      (refine Go.run (g:=?_))
      refine Go.name ?_
      intro h5 e5
      have s5 : Same H h5 := by subst e5; exact ((Same.refl H).push _).put (Nat.le_refl _) _
      have n5 : h5.n = H.n + 1 := by subst e5; rfl
      have g5 : h5.get H.n = some (.cells t.cells 25) := by subst e5; exact AHeap.get_put_same _ (by simp) _
      clear e5
      refine Go.body (s5.get I.loop) ?_
      refine Go.name ?_
      intro h6 e6
      have k6 : Keeps [h2.n + 1] h5 h6 := by subst e6; exact (Keeps.rfl _ _).put (by simp) _
      have n6 : h6.n = h5.n := by subst e6; rfl
      have l6 : h6.get (h2.n + 1) = some (.loop .busy none tm ps asg bo h2.n) := by subst e6; exact get_put_self (s5.get I.loop)
      clear e6
      have Iout : H.get (h.n + 2) = some (.cells [.slice oa ts.length oc] 32) := I.out
      have go6 := k6.get (s5.get Iout) (by simp; omega)
      have gt6 := k6.get g5 (by simp; omega)
      have row6 : TRow HH h6 oa oc ts := ⟨(I.row.same s5).sv.keeps k6 (fun i hi hm => by simp only [List.mem_singleton] at hm; subst hm; have := I.row.own _ hi; omega), I.row.own, fun u hu => Rv.keeps ((I.row.same s5).tv u hu) k6 (fun i hi hm => by simp only [List.mem_singleton] at hm; subst hm; exact I.sep u hu _ hi (by simp)), I.row.apart, I.row.ownv⟩
      have ok6 : t.ok h6 := Rv.keeps (Rv.same hok s5) k6 (fun i hi hm => by simp only [List.mem_singleton] at hm; subst hm; exact hnw _ hi (by simp))
      have md6 := k6.get (s5.get I.mark) (by simp)
      have mr4 := k6.get (s5.get I.c4) (by simp; omega)
      have mr5 := k6.get (s5.get I.c5) (by simp; omega)
      have hta : ∀ i ∈ blk t.a, i < H.n := hok.lt
      have hib : ts.length < (parse chunk zs).1.length := by rw [x2]; exact (List.getElem?_eq_some_iff.1 hit).1
      have hpl := parse_len (chunk := chunk) zs
      (refine Go.run (g:=?_))
      refine GoR.buildRo (c := t.cells) rfl rfl rfl rfl rfl (by decide) (by rfl) (by rfl) ?_
      intro b8 h8 hb8 rb8 ob8 s8 n8
      have r8 := row6.same s8
      have ok8 := Rv.same ok6 s8
      refine GoR.appendV rfl rfl rfl rfl rfl rfl r8.sv hb8 (fun i hi => .inl (by simp [hi])) (by omega) (by omega) (by rfl) ?_
      intro b9 c9 h9 hs9 k9 o9
      have m9 := k9.1
      have r9 := r8.snoc (by omega) ok8 (fun i hi hm => hnw i hi (by simp [hm])) hto hs9 k9 o9
      have nob : ∀ i, i < h2.n + 2 → i ∉ blk oa := fun i hi hm => by have := I.row.own _ hm; omega
      have go9 := k9.get (s8.get go6) (nob _ (by omega))
      have md9 := k9.get (s8.get md6) (nob _ (by omega))
      have mr9 := k9.get (s8.get mr4) (nob _ (by omega))
      have mq9 := k9.get (s8.get mr5) (nob _ (by omega))
      have ml9 := k9.get (s8.get l6) (nob _ (by omega))
      refine GoR.store rfl rfl rfl rfl rfl go9 rfl rfl (by simp [cellsL]) rfl rfl (.inl (by simp)) ?_
      (refine Go.run (g:=?_))
      refine Go.roundEnd rfl (get_put_other (by simp; omega) ml9) ?_
      have nob9 : ∀ i, i < h2.n + 2 → i ∉ blk b9 := fun i hi hm => by have := r9.own _ hm; omega
      have n8' : H.n ≤ h9.n := by omega
      refine ⟨(ts ++ [t], b9, c9), fun b hb => ?_, fun _ => ⟨⟨AHeap.get_put_same _ (by simp only [AHeap.n_put]; omega) _, ?_, ?_, ?_, ?_, ?_, ?_, ?_⟩, ?_, ?_, ?_⟩, fun e => by cases e⟩
      · rcases List.mem_append.1 hb with x | x
        · exact .inl (List.mem_append_left _ x)
        · rcases o9 b x with y | y
          · exact .inl (List.mem_append_right _ y)
          · exact .inr (by omega)
      · exact get_put_other (by omega) (get_put_other (by simp; omega) md9)
      · refine get_put_other (by omega) ?_
        rw [List.length_append]
        exact AHeap.get_put_same h9 (show h.n + 2 < h9.n by omega) _
      · exact get_put_other (by omega) (get_put_other (by simp only [AHeap.n_push]; omega) mr9)
      · exact get_put_other (by omega) (get_put_other (by simp only [AHeap.n_push]; omega) mq9)
      · have sep : ∀ u ∈ ts ++ [t], ∀ i ∈ blk u.a, i ∉ [h2.n + 1, h.n, h.n + 1, h.n + 2, h2.n] := fun u hu i hi hm => by
          rcases List.mem_append.1 hu with hu | hu
          · exact I.sep u hu i hi hm
          · simp only [List.mem_singleton] at hu; subst hu
            exact hnw i hi (by simp only [List.mem_cons, List.mem_append, List.not_mem_nil, or_false] at hm ⊢; omega)
        refine r9.keeps (((Keeps.rfl [h.n + 2, h2.n + 1] h9).put (by simp) _).put (by simp) _) (fun i hi hm => ?_) (fun u hu i hi hm => ?_)
        · simp only [List.mem_cons, List.not_mem_nil, or_false] at hm
          exact nob9 i (by omega) hi
        · exact sep u hu i hi (by simp only [List.mem_cons, List.not_mem_nil, or_false] at hm ⊢; omega)
      · simp; omega
      · intro u hu i hi hm
        rcases List.mem_append.1 hu with hu | hu
        · exact I.sep u hu i hi hm
        · simp only [List.mem_singleton] at hu; subst hu
          exact hnw i hi (by simp only [List.mem_cons, List.mem_append, List.not_mem_nil, or_false] at hm ⊢; omega)
      · rw [List.map_append, x1, List.take_add_one, hit]; rfl
      · simp [x2]
      · simp; omega
    · rintro ⟨ts, oa, oc⟩ H hbad ⟨I, x1, x2, x3⟩
      simp only at I x1 x2 ⊢
      refine YieldS.of' I.loop hN hr eps easg ebo rfl (by rfl) rfl (List.mem_cons_self ..) ?_
      (refine Go.run (g:=?_))
      refine Go.name ?_
      intro h5 e5
      have s5 : Same H h5 := by subst e5; exact ((Same.refl H).push _).put (Nat.le_refl _) _
      have n5 : h5.n = H.n + 1 := by subst e5; rfl
      -- have g5 : h5.get H.n = some (.cells t.cells 25) := by subst e5; exact AHeap.get_put_same _ (by simp) _
      clear e5
      refine Go.body (s5.get I.loop) ?_
      refine Go.name ?_
      intro h6 e6
      have k6 : Keeps [h2.n + 1] h5 h6 := by subst e6; exact (Keeps.rfl _ _).put (by simp) _
      have n6 : h6.n = h5.n := by subst e6; rfl
      have l6 : h6.get (h2.n + 1) = some (.loop .busy none tm ps asg bo h2.n) := by subst e6; exact get_put_self (s5.get I.loop)
      clear e6
      have g46 := k6.get (s5.get I.c4) (by simp; omega)
      have g56 := k6.get (s5.get I.c5) (by simp; omega)
      (refine Go.run (g:=?_))
      have l6' := get_put_other (o := some (.cells [.int .i64 40] 27)) (b := h.n + 1) (by omega) (get_put_other (o := some (.cells [.slice none 0 0] 32)) (b := h.n) (by omega) l6)
      refine Go.roundEnd rfl l6' ?_
      have md6 := k6.get (s5.get I.mark) (by simp)
      refine ⟨(ts, oa, oc), by simpa using hbad, ⟨_, _, _, _, _, AHeap.get_put_same _ (by simp; omega) _⟩, ?_, ?_, ?_⟩
      · exact get_put_other (by omega) (get_put_other (by simp; omega) (get_put_other (by omega) md6))
      · exact get_put_other (by omega) (get_put_other (by simp) (AHeap.get_put_same _ (by omega) _))
      · exact get_put_other (by omega) (AHeap.get_put_same (h6.put h.n _) (show h.n + 1 < h6.n by omega) _)
  intro v H3 hres kp
  refine ⟨fun i hi => .inr (by simp only [List.mem_cons, List.not_mem_nil, or_false] at hi; omega), .inr (by omega), ?_⟩
  rcases hres with ⟨⟨ts, oa, oc⟩, hwell, I, x1, x2, x3⟩ | ⟨s, i, hbad, ⟨tm', ps', as', bo', df', hl⟩, hd, h4, h5⟩
  · rw [List.take_length] at x1
    refine ⟨_, _, _, _, _, _, _, .normal, I.loop, by rfl, rfl, ?_⟩
    have Iout : H3.get (h.n + 2) = some (.cells [.slice oa ts.length oc] 32) := I.out
    have row3 : TRow HH H3 oa oc ts := I.row
    refine Go.name ?_
    intro h9 e9
    have k9 : Keeps [h2.n + 1] H3 h9 := by subst e9; exact (Keeps.rfl _ _).put (by simp) _
    have n9 : h9.n = H3.n := by subst e9; rfl
    clear e9
    have go9 := k9.get Iout (by simp; omega)
    have g49 := k9.get I.c4 (by simp; omega)
    have g59 := k9.get I.c5 (by simp; omega)
    have gd9 := k9.get I.mark (by simp)
    have row9 : TRow HH h9 oa oc ts := row3.keeps k9 (fun i hi hm => by simp only [List.mem_singleton] at hm; subst hm; have := row3.own _ hi; omega) (fun t ht i hi hm => by simp only [List.mem_singleton] at hm; subst hm; exact I.sep t ht _ hi (by simp))
    (refine Go.run (g:=?_))
    refine Go.fin_marks (.inr rfl) (by intro d hd; simp only [List.mem_singleton] at hd; omega) (takeAll_one (get_put_other (by simp only [AHeap.n_push]; omega) (get_put_other (by omega) gd9))) (.cell rfl inferInstance (get_put_other (by omega) (get_put_other (by simp only [AHeap.n_push]; omega) (AHeap.get_put_same h9 (by omega) _))) rfl (.cell rfl inferInstance (get_put_other (by simp only [AHeap.n_push]; omega) (AHeap.get_put_same (h9.put h.n _) (by simp only [AHeap.n_push, AHeap.n_put]; omega) _)) rfl .nil)) ?_
    rw [if_pos hwell]
    have rowF := row9.keeps (((Keeps.rfl [h.n, h.n + 1, h2.n] h9).put (b := h.n) (by simp) (some (.cells [.slice oa ts.length oc] 32))).put (b := h.n + 1) (by simp) (some (.cells [.int .i64 0] 27)) |>.put (b := h2.n) (by simp) (some (.deferred false))) (fun i hi hm => by simp only [List.mem_cons, List.not_mem_nil, or_false] at hm; have := row9.own _ hi; omega) (fun t ht i hi hm => I.sep t ht i hi (by simp only [List.mem_cons, List.not_mem_nil, or_false] at hm ⊢; omega))
    exact ⟨oa, oc, ts, rfl, x1, rowF.sv, rowF.own.mono (by omega), rowF.tv, rowF.apart, fun t ht => (rowF.ownv t ht).mono (by omega)⟩
  · refine ⟨_, _, _, _, _, _, _, .ret, hl, by rfl, rfl, ?_⟩
    (refine Go.run (g:=?_))
    refine Go.fin_marks (.inr rfl) (by intro d hd; simp only [List.mem_singleton] at hd; omega) (takeAll_one (get_put_other (by omega) hd)) (.cell rfl inferInstance (get_put_other (by omega) (get_put_other (by omega) h4)) rfl (.cell rfl inferInstance (get_put_other (by simp only [AHeap.n_push]; omega) (get_put_other (by simp only [AHeap.n_push]; omega) h5)) rfl .nil)) ?_
    rw [if_neg (by rw [hbad]; decide)]
    rfl
end Go.Proofs.Ytmelgnpogdilgaa

/- TlvGoes on the abstract heap: it answers true. No conditions. -/
namespace Go.Proofs.Ytmelgnpogdilgaa
open Go.RowKit
set_option linter.unusedVariables false
set_option maxRecDepth 100000
attribute [local irreducible] Go GoR GoL
theorem known04Run : callK (A := Bool) Try.prog rowS (fev Try.prog rowS 5000) 14 [] emptyH asB = some true := by kernel_rfl
theorem noGlobals04 : Try.prog.globals.size = 0 := by kernel_rfl
theorem known04 (h : AHeap) : CallS Try.prog [] 14 [] h fun u h' => u = .bool true ∧ h' = h := by
  obtain ⟨v, h', wr, hc, he⟩ := callRun_of rowS_ok known04Run
  obtain rfl := asB_true he
  exact CallS.known noGlobals04 hc rfl h
theorem boolU : Try.prog.underlying 4 = some .bool := by kernel_rfl
theorem takeAll_two {h : AHeap} {d e : Nat} (g : h.get d = some (.deferred true)) (k : h.get e = some (.deferred true)) (hne : d ≠ e) : takeAll h [d, e] = some ((h.put d (some (.deferred false))).put e (some (.deferred false))) := by simp [takeAll, g, AHeap.get_put_ne _ _ hne, k]
/-- Within the first range. -/
structure GInv (h0 : AHeap) (tm : List Value) (ps : Array Tmp) (asg bo : Code) (l d n9 b10 r6 : Nat) (i : Nat) (bad : Bool) (h : AHeap) : Prop where
  loop : h.get l = some (.loop .ready none tm ps asg bo d)
  mark : h.get d = some (.deferred true)
  g9 : h.get n9 = some (.cells [.int .i64 i] 3)
  g10 : h.get b10 = some (.cells [.bool bad] 4)
  g6 : h.get r6 = some (.cells [.bool false] 4)
  keep : Keeps [l, n9, b10, r6, d] h0 h
theorem GInv.same {h0 h h' : AHeap} {tm : List Value} {ps : Array Tmp} {asg bo : Code} {l d n9 b10 r6 i : Nat} {bad : Bool} (I : GInv h0 tm ps asg bo l d n9 b10 r6 i bad h) (s : Same h h') : GInv h0 tm ps asg bo l d n9 b10 r6 i bad h' := ⟨s.get I.loop, s.get I.mark, s.get I.g9, s.get I.g10, s.get I.g6, Nat.le_trans I.keep.1 s.1, fun i hi hn => (s.2 i (by have := I.keep.1; omega)).trans (I.keep.2 i hi hn)⟩
theorem Keeps.trans {wr : List Nat} {a b c : AHeap} (h : Keeps wr a b) (k : Keeps wr b c) : Keeps wr a c := ⟨Nat.le_trans h.1 k.1, fun i hi hn => (k.2 i (by have := h.1; omega) hn).trans (h.2 i hi hn)⟩
theorem Keeps.weak {wr wr' : List Nat} {a b : AHeap} (h : Keeps wr a b) (hw : ∀ i ∈ wr, i < a.n → i ∈ wr') : Keeps wr' a b := ⟨h.1, fun i hi hn => h.2 i hi fun x => hn (hw i x hi)⟩
set_option maxHeartbeats 16000000 in
theorem tlvGoes_spec (chunk : Bool) (a : Option Addr) (cap : Nat) (zs : List UInt8) (most : Int) (hmost : -9223372036854775808 ≤ most ∧ most ≤ 9223372036854775807) (hcap : cap ≤ maxLen) (h : AHeap) (hz : Rv Try.prog h 1 a zs.length cap (zs.map bv)) : CallS Try.prog [] 4 [.bool chunk, .slice a zs.length cap, .int .i64 most] h fun v _ => v = .bool true := by
  unfold maxLen at hcap
  have hle := hz.le
  generalize hlen : zs.length = n at *
  (refine CallS.of3 Try.func4 rfl Try.ntmps4 Try.results4 rfl ?_)
  (refine Go.run (g:=?_))
  refine GoR.call rfl rfl rfl rfl rfl rfl rfl (((known04 _).args (by first | rfl | (simp; fail_if_success focus skip) | (simp; omega) | (congr 2; omega))).mono ?_)
  rintro _ h1 ⟨rfl, rfl⟩ -
  rcases Nat.lt_or_ge 5000 n with g1 | g1
  · (refine Go.run (g:=?_))
    (first|refine Go.finT (by first|exact .inr rfl|exact .inl rfl) rfl ?_|refine Go.fin1 (by first|exact .inr rfl|exact .inl rfl) rfl (hq:=?_))
    rfl
  (refine Go.run (g:=?_))
  refine GoR.name ?_
  intro h1 e1
  have s1 : Same h h1 := by subst e1; exact ((Same.refl h).push _).push _
  have g15 : h1.get h.n = some (.cells [.int .i64 most] 3) := by subst e1; exact get_push_lt (AHeap.get_push_same _ _)
  have g16 : h1.get (h.n + 1) = some (.cells [.bool false] 4) := by subst e1; exact AHeap.get_push_same (h.push _) _
  have n1 : h1.n = h.n + 2 := by subst e1; rfl
  clear e1
  have hz1 := hz.same s1
  refine GoR.call rfl rfl rfl rfl rfl rfl rfl (((refAll_spec chunk a n cap zs hlen (by omega) _ hz1).args (by first | rfl | (simp; fail_if_success focus skip) | (simp; omega) | (congr 2; omega))).mono ?_)
  rintro _ h2 ⟨oa, oc, ts, rfl, hts, row⟩ s2
  have m2 := s2.1
  have hpl := parse_len (chunk := chunk) zs
  have htl : ts.length = (parse chunk zs).1.length := by rw [← hts]; simp
  (refine Go.run (g:=?_))
  refine GoR.name ?_
  intro h3 e3
  have s3 : Same h2 h3 := by subst e3; exact ((((((((Same.refl h2).push _).push _).put (by simp) _).put (by simp) _).push _).push _).put (by simp; omega) _).put (by simp; omega) _
  have g37 : h3.get h2.n = some (.cells [.slice oa ts.length oc] 32) := by subst e3; (first | assumption | exact AHeap.get_push_same _ _ | ((repeat first | exact AHeap.get_push_same _ _ | assumption | refine get_push_lt ?_ | exact AHeap.get_put_same _ (by first | omega | (simp only [AHeap.n_push, AHeap.n_put]; omega)) _ | exact get_put_self (by assumption) | apply get_put_self | refine get_put_other (by first | omega | (simp only [AHeap.n_push, AHeap.n_put]; omega)) ?_ | refine Same.get (by assumption) ?_ | refine Keeps.get (by assumption) ?_ (fun hi => by have hx := Own.out (by assumption) hi; omega)) ; fail_if_success focus skip) | fail)
  have g38 : h3.get (h2.n + 1) = some (.cells [.bool (parse chunk zs).2] 4) := by subst e3; (first | assumption | exact AHeap.get_push_same _ _ | ((repeat first | exact AHeap.get_push_same _ _ | assumption | refine get_push_lt ?_ | exact AHeap.get_put_same _ (by first | omega | (simp only [AHeap.n_push, AHeap.n_put]; omega)) _ | exact get_put_self (by assumption) | apply get_put_self | refine get_put_other (by first | omega | (simp only [AHeap.n_push, AHeap.n_put]; omega)) ?_ | refine Same.get (by assumption) ?_ | refine Keeps.get (by assumption) ?_ (fun hi => by have hx := Own.out (by assumption) hi; omega)) ; fail_if_success focus skip) | fail)
  have g39 : h3.get (h2.n + 2) = some (.cells [.int .i64 0] 3) := by subst e3; (first | assumption | exact AHeap.get_push_same _ _ | ((repeat first | exact AHeap.get_push_same _ _ | assumption | refine get_push_lt ?_ | exact AHeap.get_put_same _ (by first | omega | (simp only [AHeap.n_push, AHeap.n_put]; omega)) _ | exact get_put_self (by assumption) | apply get_put_self | refine get_put_other (by first | omega | (simp only [AHeap.n_push, AHeap.n_put]; omega)) ?_ | refine Same.get (by assumption) ?_ | refine Keeps.get (by assumption) ?_ (fun hi => by have hx := Own.out (by assumption) hi; omega)) ; fail_if_success focus skip) | fail)
  have g310 : h3.get (h2.n + 3) = some (.cells [.bool false] 4) := by subst e3; (first | assumption | exact AHeap.get_push_same _ _ | ((repeat first | exact AHeap.get_push_same _ _ | assumption | refine get_push_lt ?_ | exact AHeap.get_put_same _ (by first | omega | (simp only [AHeap.n_push, AHeap.n_put]; omega)) _ | exact get_put_self (by assumption) | apply get_put_self | refine get_put_other (by first | omega | (simp only [AHeap.n_push, AHeap.n_put]; omega)) ?_ | refine Same.get (by assumption) ?_ | refine Keeps.get (by assumption) ?_ (fun hi => by have hx := Own.out (by assumption) hi; omega)) ; fail_if_success focus skip) | fail)
  have n3 : h3.n = h2.n + 4 := by subst e3; rfl
  clear e3
  refine GoR.call rfl rfl rfl rfl rfl rfl rfl (((allCall_spec chunk a n cap _).args (by first | rfl | (simp; fail_if_success focus skip) | (simp; omega) | (congr 2; omega))).mono ?_)
  rintro _ _ ⟨rfl, rfl⟩ -
  (refine Go.run (g:=?_))
  refine Go.name ?_
  intro h4 e4
  have s4 : Same h3 h4 := by subst e4; exact ((Same.refl h3).push _).push _
  have n4 : h4.n = h3.n + 2 := by subst e4; rfl
  have gcb : h4.get h3.n = some (.cells [.bool chunk] 4) := by subst e4; exact get_push_lt (AHeap.get_push_same _ _)
  have gbb : h4.get (h3.n + 1) = some (.cells [.slice a n cap] 23) := by subst e4; exact AHeap.get_push_same (h3.push _) _
  clear e4
  refine Go.weaken (ov' := [(29, .func (.func 44) #[] #[.pointer (some ⟨h3.n + 1, 0, none⟩), .pointer (some ⟨h3.n, 0, none⟩)]), (5, .pointer (some ⟨h.n, 0, none⟩)), (6, .pointer (some ⟨h.n + 1, 0, none⟩)), (7, .pointer (some ⟨h2.n, 0, none⟩)), (8, .pointer (some ⟨h2.n + 1, 0, none⟩)), (9, .pointer (some ⟨h2.n + 2, 0, none⟩)), (10, .pointer (some ⟨h2.n + 3, 0, none⟩)), (0, .bool chunk), (1, .slice a n cap)]) ⟨rfl, rfl, rfl, rfl, rfl, rfl, rfl, rfl, rfl, trivial⟩ ?_
  refine Go.rangeFunc' (wr := [h4.n + 1, h2.n + 2, h2.n + 3, h.n + 1, h4.n]) rfl (by rfl) (by kernel_rfl) ?_
  intro tm ps asg bo HH eps easg ebo eH hN hr
  have Hs : Same h4 HH := by subst eH; exact ((Same.refl h4).push _).push _
  have Hl : HH.get (h4.n + 1) = some (.loop .ready none tm ps asg bo h4.n) := by subst eH; exact AHeap.get_push_same (h4.push _) _
  have Hd : HH.get h4.n = some (.deferred true) := by subst eH; exact get_push_lt (AHeap.get_push_same _ _)
  have Hn : HH.n = h4.n + 2 := by subst eH; rfl
  clear eH
  have S14 : Same h1 HH := s2.trans (s3.trans (s4.trans Hs))
  have rowH := ((row.same s3).same s4).same Hs
  have hzH := (hz1.same S14)
  have ltA : ∀ i ∈ blk a, i < h.n := hz.lt
  have ltO : ∀ i ∈ blk oa, h1.n ≤ i ∧ i < h2.n := fun i hi => ⟨row.own i hi, row.sv.lt i hi⟩
  have ltT : ∀ t ∈ ts, ∀ i ∈ blk t.a, h1.n ≤ i ∧ i < h2.n := fun t ht i hi => ⟨row.ownv t ht i hi, (row.tv t ht).lt i hi⟩
  refine ((all1_spec (l := h4.n + 1) (σ := Unit) (wrO := fun _ => [h2.n + 2, h2.n + 3, h.n + 1, h4.n]) (inv := fun _ i H => GInv HH tm ps asg bo (h4.n + 1) h4.n (h2.n + 2) (h2.n + 3) (h.n + 1) i false H) (stop := fun _ i H => (parse chunk zs).2 = false ∧ GInv HH tm ps asg bo (h4.n + 1) h4.n (h2.n + 2) (h2.n + 3) (h.n + 1) (parse chunk zs).1.length true H) chunk (h3.n + 1) h3.n a n cap zs hlen (by omega) _ () ?Y ?i0 (Hs.get gbb) (Hs.get gcb) hzH ?p1 ?p2 ?p3).args rfl).mono ?_
  case p1 => simp; omega
  case p2 => simp; omega
  case p3 => intro i hi; have := ltA i hi; simp; omega
  case i0 => exact ⟨Hl, Hd, Hs.get (s4.get g39), Hs.get (s4.get g310), Hs.get (s4.get (s3.get (s2.get g16))), ⟨Nat.le_refl _, fun _ _ _ => rfl⟩⟩
  case Y =>
    refine ⟨fun s i H H' I sm => I.same sm, fun s i H I b hb => ?_, ?_, ?_⟩
    · simp only [List.mem_cons, List.not_mem_nil, or_false] at hb
      have := I.keep.1
      omega
    · rintro - i H t I hit hok hnw hto
      have hi : i < ts.length := by rw [htl]; exact (List.getElem?_eq_some_iff.1 hit).1
      have hti : ts[i].thing = t.thing := by
        rw [← hts, List.getElem?_map, List.getElem?_eq_getElem hi] at hit
        exact Option.some.inj hit
      refine YieldS.of' I.loop hN hr eps easg ebo rfl (by rfl) rfl (List.mem_cons_self ..) ?_
      (refine Go.run (g:=?_))
      refine Go.name ?_
      intro h5 e5
      have s5 : Same H h5 := by subst e5; exact ((Same.refl H).push _).put (Nat.le_refl _) _
      have n5 : h5.n = H.n + 1 := by subst e5; rfl
      have g5 : h5.get H.n = some (.cells t.cells 25) := by subst e5; exact AHeap.get_put_same _ (by simp) _
      clear e5
      refine Go.body (s5.get I.loop) ?_
      refine Go.name ?_
      intro h6 e6
      have k6 : Keeps [h4.n + 1] h5 h6 := by subst e6; exact (Keeps.rfl _ _).put (by simp) _
      have n6 : h6.n = h5.n := by subst e6; rfl
      have l6 : h6.get (h4.n + 1) = some (.loop .busy none tm ps asg bo h4.n) := by subst e6; exact get_put_self (s5.get I.loop)
      clear e6
      have kH : ∀ (b : Nat) (o : AObj), HH.get b = some o → b < h4.n → b ≠ h2.n + 2 → b ≠ h2.n + 3 → b ≠ h.n + 1 → h6.get b = some o := fun b o hg h1 h2 h3 h4 => k6.get (s5.get (I.keep.get hg (by simp; omega))) (by simp; omega)
      have w67 := kH _ _ (Hs.get (s4.get g37)) (by omega) (by omega) (by omega) (by omega)
      have w68 := kH _ _ (Hs.get (s4.get g38)) (by omega) (by omega) (by omega) (by omega)
      have w69 := k6.get (s5.get I.g9) (by simp; omega)
      have w610 := k6.get (s5.get I.g10) (by simp; omega)
      have w6t : h6.get H.n = some (.cells [.int .u16 t.k, .int .u8 t.f, .slice t.a t.z.length t.cap] 25) := k6.get g5 (by simp; have := I.keep.1; omega)
      have nw : ∀ i, h1.n ≤ i → i < h2.n → i ∉ [h4.n + 1, h2.n + 2, h2.n + 3, h.n + 1, h4.n] := fun i x y => by simp; omega
      have rowW : Rv Try.prog h6 3 oa ts.length oc (tcells ts) := (((Sv.rv rowH.sv).keeps I.keep (fun i hi => nw i (ltO i hi).1 (ltO i hi).2)).same s5).keeps k6 (fun i hi hm => nw i (ltO i hi).1 (ltO i hi).2 (by simp only [List.mem_singleton] at hm; subst hm; simp))
      have ti6 : ts[i].ok h6 := Rv.keeps (Rv.same (Rv.keeps (rowH.tv _ (List.getElem_mem hi)) I.keep (fun j hj => nw j (ltT _ (List.getElem_mem hi) j hj).1 (ltT _ (List.getElem_mem hi) j hj).2)) s5) k6 (fun j hj hm => nw j (ltT _ (List.getElem_mem hi) j hj).1 (ltT _ (List.getElem_mem hi) j hj).2 (by simp only [List.mem_singleton] at hm; subst hm; simp))
      have ok6 : t.ok h6 := Rv.keeps (Rv.same hok s5) k6 (fun i hi hm => by simp only [List.mem_singleton] at hm; subst hm; exact hnw _ hi (by simp))
      have hsame : ((t.k, t.f, t.z) : Thing) = (ts[i].k, ts[i].f, ts[i].z) := hti.symm
      (refine Go.run (g:=?_))
      have mI := I.keep.1
      refine GoR.name ?_
      intro h6' e6'
      have k6' : Keeps [h2.n + 3] h6 h6' := by subst e6'; exact (Keeps.rfl _ _).put (by simp) _
      have n6' : h6'.n = h6.n := by subst e6'; rfl
      have w610' : h6'.get (h2.n + 3) = some (.cells [.bool false] 4) := by subst e6'; exact AHeap.get_put_same _ (by omega) _
      clear e6'
      have rowW := rowW.keeps k6' (fun i hi hm => nw i (ltO i hi).1 (ltO i hi).2 (by simp only [List.mem_singleton] at hm; subst hm; simp))
      have ti6 := Rv.keeps ti6 k6' (fun j hj hm => nw j (ltT _ (List.getElem_mem hi) j hj).1 (ltT _ (List.getElem_mem hi) j hj).2 (by simp only [List.mem_singleton] at hm; subst hm; simp))
      have ok6 := Rv.keeps ok6 k6' (fun i hi hm => by simp only [List.mem_singleton] at hm; subst hm; exact hnw _ hi (by simp))
      have w67 := k6'.get w67 (by simp only [List.mem_singleton]; omega)
      have w68 := k6'.get w68 (by simp only [List.mem_singleton]; omega)
      have w69 := k6'.get w69 (by simp)
      have mI := I.keep.1
      have w6t := k6'.get w6t (by simp only [List.mem_singleton]; omega)
      (refine Go.run (g:=?_))
      refine GoR.loadVN rfl rfl rfl rfl rfl rowW (by rw [tcells_len]; omega) (by decide) (tcells_get hi) ?_
      (refine Go.run (g:=?_))
      refine GoR.call rfl rfl rfl rfl rfl rfl rfl (((same_spec t.k t.f t.a t.cap t.z ts[i].k ts[i].f ts[i].a ts[i].cap ts[i].z _ ok6 ti6).args (by first | rfl | (simp; fail_if_success focus skip) | (simp; omega) | (congr 2; omega))).mono ?_)
      rw [decide_eq_true hsame]
      rintro _ h7 rfl s7
      have l7 := s7.get (k6'.get l6 (by simp only [List.mem_singleton]; omega))
      have md7 := s7.get (k6'.get (k6.get (s5.get I.mark) (by simp)) (by simp only [List.mem_singleton]; omega))
      have w79 := s7.get w69
      have w710 := s7.get w610'
      have w76 := s7.get (k6'.get (k6.get (s5.get I.g6) (by simp only [List.mem_singleton]; omega)) (by simp only [List.mem_singleton]; omega))
      have m7 := s7.1
      (refine Go.run (g:=?_))
      refine Go.name ?_
      intro h8 e8
      have k8 : Keeps [h2.n + 2] h7 h8 := by subst e8; exact (Keeps.rfl _ _).put (by simp) _
      have w89 : h8.get (h2.n + 2) = some (.cells [.int .i64 (i + 1 : Nat)] 3) := by subst e8; exact AHeap.get_put_same _ (by omega) _
      have n8 : h8.n = h7.n := by subst e8; rfl
      clear e8
      refine Go.roundEnd rfl (k8.get l7 (by simp only [List.mem_singleton]; omega)) ?_
      refine ⟨(), fun b hb => .inl hb, fun _ => ⟨AHeap.get_put_same _ (by omega) _, ?_, ?_, ?_, ?_, ⟨by simp only [AHeap.n_put]; omega, fun j hj hn => ?_⟩⟩, fun e => by cases e⟩
      · exact get_put_other (by omega) (k8.get md7 (by simp only [List.mem_singleton]; omega))
      · exact get_put_other (by omega) w89
      · exact get_put_other (by omega) (k8.get w710 (by simp only [List.mem_singleton]; omega))
      · exact get_put_other (by omega) (k8.get w76 (by simp only [List.mem_singleton]; omega))
      · simp only [List.mem_cons, List.not_mem_nil, or_false] at hn
        rw [AHeap.get_put_ne _ _ (by omega), k8.2 j (by omega) (by simp only [List.mem_singleton]; omega), s7.2 j (by omega), k6'.2 j (by omega) (by simp only [List.mem_singleton]; omega), k6.2 j (by omega) (by simp only [List.mem_singleton]; omega), s5.2 j (by omega)]
        exact I.keep.2 j hj (by simp only [List.mem_cons, List.not_mem_nil, or_false]; omega)
    · rintro - H hbad I
      refine YieldS.of' I.loop hN hr eps easg ebo rfl (by rfl) rfl (List.mem_cons_self ..) ?_
      (refine Go.run (g:=?_))
      refine Go.name ?_
      intro h5 e5
      have s5 : Same H h5 := by subst e5; exact ((Same.refl H).push _).put (Nat.le_refl _) _
      have n5 : h5.n = H.n + 1 := by subst e5; rfl
      have g5 : h5.get H.n = some (.cells [.int .u16 (0 : Nat), .int .u8 (0 : Nat), .slice none ([] : List UInt8).length 0] 25) := by subst e5; exact AHeap.get_put_same _ (by simp) _
      clear e5
      refine Go.body (s5.get I.loop) ?_
      refine Go.name ?_
      intro h6 e6
      have k6 : Keeps [h4.n + 1] h5 h6 := by subst e6; exact (Keeps.rfl _ _).put (by simp) _
      have n6 : h6.n = h5.n := by subst e6; rfl
      have l6 : h6.get (h4.n + 1) = some (.loop .busy none tm ps asg bo h4.n) := by subst e6; exact get_put_self (s5.get I.loop)
      clear e6
      have mI := I.keep.1
      have kH : ∀ (b : Nat) (o : AObj), HH.get b = some o → b < h4.n → b ≠ h2.n + 2 → b ≠ h2.n + 3 → b ≠ h.n + 1 → h6.get b = some o := fun b o hg h1 h2 h3 h4 => k6.get (s5.get (I.keep.get hg (by simp; omega))) (by simp; omega)
      have hwf : (parse chunk zs).2 = false := by simpa using hbad
      have w67 := kH _ _ (Hs.get (s4.get g37)) (by omega) (by omega) (by omega) (by omega)
      have w68 := kH _ _ (Hs.get (s4.get g38)) (by omega) (by omega) (by omega) (by omega)
      rw [hwf] at w68
      have w69 := k6.get (s5.get I.g9) (by simp only [List.mem_singleton]; omega)
      rw [← htl] at w69
      have w610 := k6.get (s5.get I.g10) (by simp only [List.mem_singleton]; omega)
      have w66 := k6.get (s5.get I.g6) (by simp only [List.mem_singleton]; omega)
      have w6t := k6.get g5 (by simp only [List.mem_singleton]; omega)
      (refine Go.run (g:=?_))
      refine GoR.call rfl rfl rfl rfl rfl rfl rfl (((same_spec 0 0 none 0 [] 0 0 none 0 [] _ Rv.nil Rv.nil).args (by first | rfl | (simp; fail_if_success focus skip) | (simp; omega) | (congr 2; omega))).mono ?_)
      rw [decide_eq_true rfl]
      rintro _ h7 rfl s7
      have l7 := s7.get l6
      have md7 := s7.get (k6.get (s5.get I.mark) (by simp only [List.mem_singleton]; omega))
      have w79 := s7.get w69
      have w710 := s7.get w610
      have w76 := s7.get w66
      have m7 := s7.1
      (refine Go.run (g:=?_))
      refine Go.name ?_
      intro h8 e8
      have k8 : Keeps [h2.n + 3] h7 h8 := by subst e8; exact (Keeps.rfl _ _).put (by simp) _
      have w810 : h8.get (h2.n + 3) = some (.cells [.bool true] 4) := by subst e8; exact AHeap.get_put_same _ (by omega) _
      have n8 : h8.n = h7.n := by subst e8; rfl
      clear e8
      refine Go.roundEnd rfl (k8.get l7 (by simp only [List.mem_singleton]; omega)) ?_
      refine ⟨(), hwf, ⟨AHeap.get_put_same _ (by omega) _, ?_, ?_, ?_, ?_, ⟨by simp only [AHeap.n_put]; omega, fun j hj hn => ?_⟩⟩⟩
      · exact get_put_other (by omega) (k8.get md7 (by simp only [List.mem_singleton]; omega))
      · rw [← htl]
        exact get_put_other (by omega) (k8.get w79 (by simp only [List.mem_singleton]; omega))
      · exact get_put_other (by omega) w810
      · exact get_put_other (by omega) (k8.get w76 (by simp only [List.mem_singleton]; omega))
      · simp only [List.mem_cons, List.not_mem_nil, or_false] at hn
        rw [AHeap.get_put_ne _ _ (by omega), k8.2 j (by omega) (by simp only [List.mem_singleton]; omega), s7.2 j (by omega), k6.2 j (by omega) (by simp only [List.mem_singleton]; omega), s5.2 j (by omega)]
        exact I.keep.2 j hj (by simp only [List.mem_cons, List.not_mem_nil, or_false]; omega)
  intro v H3 hres kp
  refine ⟨fun i hi => .inr (by simp only [List.mem_cons, List.not_mem_nil, or_false] at hi; omega), .inr (by omega), ?_⟩
  obtain ⟨bad, hbad, I⟩ : ∃ bad, (bad = !(parse chunk zs).2) ∧ GInv HH tm ps asg bo (h4.n + 1) h4.n (h2.n + 2) (h2.n + 3) (h.n + 1) (parse chunk zs).1.length bad H3 := by
    rcases hres with ⟨_, hw, I⟩ | ⟨_, _, hw, I⟩
    · exact ⟨false, by rw [hw]; rfl, I⟩
    · exact ⟨true, by rw [hw]; rfl, I⟩
  rw [← htl] at I
  refine ⟨_, _, _, _, _, _, _, .normal, I.loop, by rfl, rfl, ?_⟩
  refine Go.name ?_
  intro h5 e5
  have k5 : Keeps [h4.n + 1] H3 h5 := by subst e5; exact (Keeps.rfl _ _).put (by simp) _
  have n5 : h5.n = H3.n := by subst e5; rfl
  clear e5
  have mI := I.keep.1
  have kH : ∀ (b : Nat) (o : AObj), HH.get b = some o → b < h4.n → b ≠ h2.n + 2 → b ≠ h2.n + 3 → b ≠ h.n + 1 → h5.get b = some o := fun b o hg h1 h2 h3 h4 => k5.get (I.keep.get hg (by simp; omega)) (by simp; omega)
  have w5 := kH _ _ (S14.get g15) (by omega) (by omega) (by omega) (by omega)
  have w7 := kH _ _ (Hs.get (s4.get g37)) (by omega) (by omega) (by omega) (by omega)
  have w8 := kH _ _ (Hs.get (s4.get g38)) (by omega) (by omega) (by omega) (by omega)
  have w9 := k5.get I.g9 (by simp only [List.mem_singleton]; omega)
  have w10 := k5.get I.g10 (by simp only [List.mem_singleton]; omega)
  have w6 := k5.get I.g6 (by simp only [List.mem_singleton]; omega)
  have wd := k5.get I.mark (by simp only [List.mem_singleton]; omega)
  rw [hbad] at w10
  clear hres
  generalize hwl : (parse chunk zs).2 = well at *
  (refine Go.run (g:=?_))
  refine GoR.boolEq rfl rfl rfl rfl rfl rfl boolU ?_
  rw [show ((!well) == well) = false from by cases well <;> rfl]
  (refine Go.run (g:=?_))
  refine GoR.name ?_
  intro h6 e6
  have s6 : Same h5 h6 := by subst e6; exact ((Same.refl h5).push _).put (Nat.le_refl _) _
  have x13 : h6.get h5.n = some (.cells [.int .i64 (0 : Nat)] 3) := by subst e6; exact AHeap.get_put_same _ (by simp) _
  have n6 : h6.n = h5.n + 1 := by subst e6; rfl
  clear e6
  have nw : ∀ i, i < h2.n → i ≠ h.n + 1 → i ∉ [h4.n + 1, h2.n + 2, h2.n + 3, h.n + 1, h4.n] := fun i x y => by simp; omega
  have hz6 : Rv Try.prog h6 1 a n cap (zs.map bv) := ((hzH.keeps I.keep (fun i hi => nw i (by have := ltA i hi; omega) (by have := ltA i hi; omega))).keeps k5 (fun i hi hm => by simp only [List.mem_singleton] at hm; have := ltA i hi; omega)).same s6
  have row6 : Rv Try.prog h6 3 oa ts.length oc (tcells ts) := (((Sv.rv rowH.sv).keeps I.keep (fun i hi => nw i (ltO i hi).2 (by have := (ltO i hi).1; omega))).keeps k5 (fun i hi hm => by simp only [List.mem_singleton] at hm; have := (ltO i hi).2; omega)).same s6
  have tvs6 : TVs h6 ts := fun t ht => Rv.same (Rv.keeps (Rv.keeps (rowH.tv t ht) I.keep (fun i hi => nw i (ltT t ht i hi).2 (by have := (ltT t ht i hi).1; omega))) k5 (fun i hi hm => by simp only [List.mem_singleton] at hm; have := (ltT t ht i hi).2; omega)) s6
  have x5 := s6.get w5
  have x6 := s6.get w6
  have x7 := s6.get w7
  have x8 := s6.get w8
  have xd := s6.get wd
  clear w5 w6 w7 w8 w9 w10 wd kH kp
  refine GoR.call rfl rfl rfl rfl rfl rfl rfl (((allCall_spec chunk a n cap _).args (by first | rfl | (simp; fail_if_success focus skip) | (simp; omega) | (congr 2; omega))).mono ?_)
  rintro _ _ ⟨rfl, rfl⟩ -
  (refine Go.run (g:=?_))
  refine Go.name ?_
  intro h7 e7
  have s7 : Same h6 h7 := by subst e7; exact ((Same.refl h6).push _).push _
  have n7 : h7.n = h6.n + 2 := by subst e7; rfl
  have ycb : h7.get h6.n = some (.cells [.bool chunk] 4) := by subst e7; exact get_push_lt (AHeap.get_push_same _ _)
  have ybb : h7.get (h6.n + 1) = some (.cells [.slice a n cap] 23) := by subst e7; exact AHeap.get_push_same (h6.push _) _
  clear e7
  refine Go.weaken (ov' := [(85, .func (.func 44) #[] #[.pointer (some ⟨h6.n + 1, 0, none⟩), .pointer (some ⟨h6.n, 0, none⟩)]), (5, .pointer (some ⟨h.n, 0, none⟩)), (6, .pointer (some ⟨h.n + 1, 0, none⟩)), (7, .pointer (some ⟨h2.n, 0, none⟩)), (8, .pointer (some ⟨h2.n + 1, 0, none⟩)), (13, .pointer (some ⟨h5.n, 0, none⟩)), (0, .bool chunk), (1, .slice a n cap)]) ⟨rfl, rfl, rfl, rfl, rfl, rfl, rfl, rfl, trivial⟩ ?_
  refine Go.rangeFunc' (wr := [h7.n + 1, h5.n, h7.n]) rfl (by rfl) (by kernel_rfl) ?_
  intro tm2 ps2 asg2 bo2 H2 eps2 easg2 ebo2 eH2 hN2 hr2
  have Hs2 : Same h7 H2 := by subst eH2; exact ((Same.refl h7).push _).push _
  have Hl2 : H2.get (h7.n + 1) = some (.loop .ready none tm2 ps2 asg2 bo2 h7.n) := by subst eH2; exact AHeap.get_push_same (h7.push _) _
  have Hd2 : H2.get h7.n = some (.deferred true) := by subst eH2; exact get_push_lt (AHeap.get_push_same _ _)
  have Hn2 : H2.n = h7.n + 2 := by subst eH2; rfl
  clear eH2
  have one : ∀ (i : Nat) (us : List Value) (H : AHeap), us.length = 2 → H.get (h7.n + 1) = some (.loop .ready none tm2 ps2 asg2 bo2 h7.n) → H.get h7.n = some (.deferred true) → H.get h5.n = some (.cells [.int .i64 i] 3) → Keeps [h7.n + 1, h5.n, h7.n] H2 H → i ≤ 1000000 → YieldS Try.prog ((h7.n + 1) :: [h5.n, h7.n]) (h7.n + 1) us H fun c h' => h'.get (h7.n + 1) = some (.loop (if c then .ready else .done) (if c then none else some (.exit 2)) tm2 ps2 asg2 bo2 h7.n) ∧ h'.get h7.n = some (.deferred true) ∧ h'.get h5.n = some (.cells [.int .i64 (i + 1 : Nat)] 3) ∧ Keeps [h7.n + 1, h5.n, h7.n] H2 h' ∧ (c = true → ((i + 1 : Nat) : Int) < most) ∧ (c = false → most ≤ ((i + 1 : Nat) : Int)) := fun i us H hus hl hd hk hkp hi => by
    obtain ⟨u0, u1, rfl⟩ : ∃ u0 u1, us = [u0, u1] := by
      match us, hus with
      | [u0, u1], _ => exact ⟨u0, u1, rfl⟩
    have mH := hkp.1
    refine YieldS.of' hl hN2 hr2 eps2 easg2 ebo2 rfl (by rfl) rfl (List.mem_cons_self ..) ?_
    (refine Go.run (g:=?_))
    refine Go.body hl ?_
    refine Go.name ?_
    intro h8 e8
    have k8 : Keeps [h7.n + 1] H h8 := by subst e8; exact (Keeps.rfl _ _).put (by simp) _
    have n8 : h8.n = H.n := by subst e8; rfl
    have l8 : h8.get (h7.n + 1) = some (.loop .busy none tm2 ps2 asg2 bo2 h7.n) := by subst e8; exact get_put_self hl
    clear e8
    have y5 := k8.get (hkp.get (Hs2.get (s7.get x5)) (by simp; omega)) (by simp only [List.mem_singleton]; omega)
    have y13 := k8.get hk (by simp only [List.mem_singleton]; omega)
    have yd := k8.get hd (by simp only [List.mem_singleton]; omega)
    rcases Int.lt_or_le ((i + 1 : Nat) : Int) most with c0 | c0
    · (refine Go.run (g:=?_))
      refine Go.name ?_
      intro h9 e9
      have k9 : Keeps [h5.n] h8 h9 := by subst e9; exact (Keeps.rfl _ _).put (by simp) _
      have y139 : h9.get h5.n = some (.cells [.int .i64 (i + 1 : Nat)] 3) := by subst e9; exact AHeap.get_put_same _ (by omega) _
      have n9 : h9.n = h8.n := by subst e9; rfl
      clear e9
      refine Go.roundEnd rfl (k9.get l8 (by simp only [List.mem_singleton]; omega)) ?_
      refine ⟨AHeap.get_put_same _ (by omega) _, get_put_other (by omega) (k9.get yd (by simp only [List.mem_singleton]; omega)), get_put_other (by omega) y139, ⟨by simp only [AHeap.n_put]; omega, fun j hj hn => ?_⟩, fun _ => c0, fun e => by cases e⟩
      simp only [List.mem_cons, List.not_mem_nil, or_false] at hn
      rw [AHeap.get_put_ne _ _ (by omega), k9.2 j (by omega) (by simp only [List.mem_singleton]; omega), k8.2 j (by omega) (by simp only [List.mem_singleton]; omega)]
      exact hkp.2 j hj (by simp only [List.mem_cons, List.not_mem_nil, or_false]; omega)
    · (refine Go.run (g:=?_))
      refine Go.name ?_
      intro h9 e9
      have k9 : Keeps [h5.n] h8 h9 := by subst e9; exact (Keeps.rfl _ _).put (by simp) _
      have y139 : h9.get h5.n = some (.cells [.int .i64 (i + 1 : Nat)] 3) := by subst e9; exact AHeap.get_put_same _ (by omega) _
      have n9 : h9.n = h8.n := by subst e9; rfl
      clear e9
      refine Go.roundEnd rfl (k9.get l8 (by simp only [List.mem_singleton]; omega)) ?_
      refine ⟨AHeap.get_put_same _ (by omega) _, get_put_other (by omega) (k9.get yd (by simp only [List.mem_singleton]; omega)), get_put_other (by omega) y139, ⟨by simp only [AHeap.n_put]; omega, fun j hj hn => ?_⟩, (fun e => absurd e (by decide)), fun _ => c0⟩
      simp only [List.mem_cons, List.not_mem_nil, or_false] at hn
      rw [AHeap.get_put_ne _ _ (by omega), k9.2 j (by omega) (by simp only [List.mem_singleton]; omega), k8.2 j (by omega) (by simp only [List.mem_singleton]; omega)]
      exact hkp.2 j hj (by simp only [List.mem_cons, List.not_mem_nil, or_false]; omega)
  have hpl' : (parse chunk zs).1.length ≤ 100000 := by omega
  refine ((all1_spec (l := h7.n + 1) (σ := Unit) (wrO := fun _ => [h5.n, h7.n]) (inv := fun _ i H => H.get (h7.n + 1) = some (.loop .ready none tm2 ps2 asg2 bo2 h7.n) ∧ H.get h7.n = some (.deferred true) ∧ H.get h5.n = some (.cells [.int .i64 i] 3) ∧ Keeps [h7.n + 1, h5.n, h7.n] H2 H ∧ (i = 0 ∨ (i : Int) < most)) (stop := fun _ i H => (∃ c : Bool, H.get (h7.n + 1) = some (.loop (if c then .ready else .done) (if c then none else some (.exit 2)) tm2 ps2 asg2 bo2 h7.n)) ∧ H.get h7.n = some (.deferred true) ∧ H.get h5.n = some (.cells [.int .i64 i] 3) ∧ Keeps [h7.n + 1, h5.n, h7.n] H2 H ∧ (well = true → 1 ≤ i ∧ i ≤ (parse chunk zs).1.length ∧ most ≤ (i : Int) ∧ (i = 1 ∨ (i : Int) - 1 < most))) chunk (h6.n + 1) h6.n a n cap zs hlen (by omega) _ () ?Y2 ?i02 (Hs2.get ybb) (Hs2.get ycb) ((hz6.same s7).same Hs2) ?p12 ?p22 ?p32).args rfl).mono ?_
  case p12 => simp; omega
  case p22 => simp; omega
  case p32 => intro i hi; have := ltA i hi; simp; omega
  case i02 => exact ⟨Hl2, Hd2, Hs2.get (s7.get x13), ⟨Nat.le_refl _, fun _ _ _ => rfl⟩, .inl rfl⟩
  case Y2 =>
    refine ⟨fun s i H H' ⟨i1, i2, i3, i4, i5⟩ sm => ⟨sm.get i1, sm.get i2, sm.get i3, ⟨Nat.le_trans i4.1 sm.1, fun j hj hn => (sm.2 j (by have := i4.1; omega)).trans (i4.2 j hj hn)⟩, i5⟩, fun s i H ⟨i1, i2, i3, i4, i5⟩ b hb => ?_, ?_, ?_⟩
    · simp only [List.mem_cons, List.not_mem_nil, or_false] at hb
      have := i4.1
      omega
    · rintro - i H t ⟨i1, i2, i3, i4, i5⟩ hit - - -
      have hi : i < (parse chunk zs).1.length := (List.getElem?_eq_some_iff.1 hit).1
      refine (one i _ H rfl i1 i2 i3 i4 (by omega)).mono ?_
      rintro c h' ⟨j1, j2, j3, j4, j5, j6⟩
      refine ⟨(), fun b hb => .inl hb, fun e => ?_, fun e => ?_⟩
      · subst e; exact ⟨j1, j2, j3, j4, .inr (j5 rfl)⟩
      · exact ⟨⟨c, j1⟩, j2, j3, j4, fun _ => ⟨by omega, by omega, j6 e, by rcases i5 with x | x <;> omega⟩⟩
    · rintro - H hbad ⟨i1, i2, i3, i4, i5⟩
      refine (one _ _ H rfl i1 i2 i3 i4 (by omega)).mono ?_
      rintro c h' ⟨j1, j2, j3, j4, j5, j6⟩
      exact ⟨(), ⟨c, j1⟩, j2, j3, j4, fun e => by rw [hwl, e] at hbad; cases hbad⟩
  intro v H4 hres kp
  refine ⟨fun i hi => .inr (by simp only [List.mem_cons, List.not_mem_nil, or_false] at hi; omega), .inr (by omega), ?_⟩
  obtain ⟨c, j, j1, j2, j3, j4, j5⟩ : ∃ (c : Bool) (j : Nat), H4.get (h7.n + 1) = some (.loop (if c then .ready else .done) (if c then none else some (.exit 2)) tm2 ps2 asg2 bo2 h7.n) ∧ H4.get h7.n = some (.deferred true) ∧ H4.get h5.n = some (.cells [.int .i64 j] 3) ∧ Keeps [h7.n + 1, h5.n, h7.n] H2 H4 ∧ (well = true → (j : Int) = if (if (1 : Int) > most then 1 else most) < (ts.length : Int) then (if (1 : Int) > most then 1 else most) else (ts.length : Int)) := by
    rcases hres with ⟨_, hw, i1, i2, i3, i4, i5⟩ | ⟨_, j, ⟨c, i1⟩, i2, i3, i4, i5⟩
    · exact ⟨true, _, i1, i2, i3, i4, fun _ => by rw [htl]; split <;> split at * <;> omega⟩
    · exact ⟨c, j, i1, i2, i3, i4, fun e => by have := i5 e; rw [htl]; split <;> split at * <;> omega⟩
  have mH4 := j4.1
  have kH : ∀ (b : Nat) (o : AObj), h6.get b = some o → b ≠ h5.n → b ≠ h7.n + 1 → H4.get b = some o := fun b o hg h1 h2 => j4.get (Hs2.get (s7.get hg)) (by have := AHeap.lt hg; simp; omega)
  have w5 := kH _ _ x5 (by omega) (by omega)
  have w6 := kH _ _ x6 (by omega) (by omega)
  have w7 := kH _ _ x7 (by omega) (by omega)
  have w8 := kH _ _ x8 (by omega) (by omega)
  have wd := kH _ _ xd (by omega) (by omega)
  have hz8 := ((hz6.same s7).same Hs2).keeps j4 (fun i hi => by have := ltA i hi; simp; omega)
  have row8 := ((row6.same s7).same Hs2).keeps j4 (fun i hi => by have := ltO i hi; simp; omega)
  have tvs8 : TVs H4 ts := fun t ht => Rv.keeps ((tvs6.same s7).same Hs2 t ht) j4 (fun i hi => by have := ltT t ht i hi; simp; omega)
  clear hres x5 x6 x7 x8 xd kp
  have hl := list_spec chunk a n cap zs hlen (by omega)
  rw [hwl] at hl
  cases c
  all_goals
    refine ⟨_, _, _, _, _, _, _, _, j1, by rfl, rfl, ?_⟩
    refine Go.name ?_
    intro h8 e8
    have k8 : Keeps [h7.n + 1] H4 h8 := by subst e8; exact (Keeps.rfl _ _).put (by simp) _
    have n8 : h8.n = H4.n := by subst e8; rfl
    clear e8
    have w5 := k8.get w5 (by simp only [List.mem_singleton]; omega)
    have w6 := k8.get w6 (by simp only [List.mem_singleton]; omega)
    have w7 := k8.get w7 (by simp only [List.mem_singleton]; omega)
    have w8 := k8.get w8 (by simp only [List.mem_singleton]; omega)
    have wd := k8.get wd (by simp only [List.mem_singleton]; omega)
    have w13 := k8.get j3 (by simp only [List.mem_singleton]; omega)
    have wd2 := k8.get j2 (by simp only [List.mem_singleton]; omega)
    have hz8 := hz8.keeps k8 (fun i hi hm => by simp only [List.mem_singleton] at hm; have := ltA i hi; omega)
    have row8 := row8.keeps k8 (fun i hi hm => by simp only [List.mem_singleton] at hm; have := ltO i hi; omega)
    have tvs8 : TVs h8 ts := fun t ht => Rv.keeps (tvs8 t ht) k8 (fun i hi hm => by simp only [List.mem_singleton] at hm; have := ltT t ht i hi; omega)
    (refine Go.run (g:=?_))
    refine GoR.call rfl rfl rfl rfl rfl rfl rfl (((hl _ hz8).args (by first | rfl | (simp; fail_if_success focus skip) | (simp; omega) | (congr 2; omega))).mono ?_)
    intro v9 h9 q9 s9
    have m9 := s9.1
    have w5 := s9.get w5
    have w6 := s9.get w6
    have w7 := s9.get w7
    have w8 := s9.get w8
    have wd := s9.get wd
    have wd2 := s9.get wd2
    have w13 := s9.get w13
    have row8 := row8.same s9
    have tvs8 := tvs8.same s9
    cases well
    · rw [if_neg (by decide)] at q9
      subst q9
      (refine Go.run (g:=?_))
      refine Go.fin_marks (.inr rfl) (by intro d hd; simp only [List.mem_cons, List.not_mem_nil, or_false] at hd; omega) (takeAll_two (get_put_other (by omega) wd2) (get_put_other (by omega) wd) (by omega)) (.cell rfl inferInstance (get_put_other (by omega) (get_put_other (by omega) (AHeap.get_put_same h9 (by omega) _))) rfl .nil) ?_
      simp [retV]
    · rw [if_pos rfl] at q9
      obtain ⟨lb, lc, lts, rfl, hlt, lrow⟩ := q9
      have hll : lts.map TV.thing = ts.map TV.thing := by rw [hlt, hts]
      have hln : lts.length = ts.length := by simpa using congrArg List.length hll
      have hj := j5 rfl
      (refine Go.run (g:=?_))
      refine GoR.call rfl rfl rfl rfl rfl rfl rfl (((sameAll_spec lb lc lts oa oc ts (by omega) _ (Sv.rv lrow.sv) row8 lrow.tv tvs8).args (by first | rfl | (simp; fail_if_success focus skip) | (simp; omega) | (congr 2; omega))).mono ?_)
      rw [decide_eq_true hll]
      rintro _ h10 rfl s10
      have m10 := s10.1
      have w5 := s10.get w5
      have w6 := s10.get w6
      have w7 := s10.get w7
      have wd := s10.get wd
      have wd2 := s10.get wd2
      have w13 := s10.get w13
      (refine Go.run (g:=?_))
      refine GoR.maxI rfl rfl rfl rfl rfl rfl ?_
      (refine Go.run (g:=?_))
      refine GoR.minI rfl rfl rfl rfl rfl rfl ?_
      rw [← hj]
      (refine Go.run (g:=?_))
      refine Go.fin_marks (.inr rfl) (by intro d hd; simp only [List.mem_cons, List.not_mem_nil, or_false] at hd; omega) (takeAll_two (get_put_other (by omega) wd2) (get_put_other (by omega) wd) (by omega)) (.cell rfl inferInstance (get_put_other (by omega) (get_put_other (by omega) (AHeap.get_put_same h10 (by omega) _))) rfl .nil) ?_
      simp [retV]
end Go.Proofs.Ytmelgnpogdilgaa

/- TlvBack on the abstract heap: it answers true. No conditions. -/
namespace Go.Proofs.Ytmelgnpogdilgaa
set_option linter.unusedVariables false
set_option maxRecDepth 100000
attribute [local irreducible] Go GoR GoL
theorem put_err3' (chunk : Bool) (kind flags : Nat) (a : Option Addr) (len cap : Nat) (hl : len ≤ 140737488355328) (h1 : chunk = true → kind ≤ 255) (h2 : chunk = false → flags = 0) (hk : 65531 < len) (h : AHeap) : CallS Try.prog [] 15 [.bool chunk, tlvV kind flags a len cap] h fun v h' => v = .tuple #[.slice none 0 0, .int .i64 3] := by
  cases chunk
  · have h2 := h2 rfl
    (refine CallS.of2 Try.func15 rfl Try.ntmps15 Try.results15 rfl ?_)
    (refine Go.run (g:=?_))
    (first|refine Go.finT (by first|exact .inr rfl|exact .inl rfl) rfl ?_|refine Go.fin1 (by first|exact .inr rfl|exact .inl rfl) rfl (hq:=?_))
    rfl
  · have h1 := h1 rfl
    (refine CallS.of2 Try.func15 rfl Try.ntmps15 Try.results15 rfl ?_)
    (refine Go.run (g:=?_))
    (first|refine Go.finT (by first|exact .inr rfl|exact .inl rfl) rfl ?_|refine Go.fin1 (by first|exact .inr rfl|exact .inl rfl) rfl (hq:=?_))
    rfl
theorem putAll_spec (chunk : Bool) (t : TV) (hk : t.k < 65536) (hf : t.f < 256) (hl : t.z.length ≤ 140737488355328) (h : AHeap) (ht : t.ok h) : CallS Try.prog [] 15 [.bool chunk, tlvV t.k t.f t.a t.z.length t.cap] h fun v h' => (Puts chunk t.thing ∧ ∃ b, v = .tuple #[.slice b (tb chunk t.thing).length (tb chunk t.thing).length, .int .i64 0] ∧ Sv h' 5 1 b (tb chunk t.thing).length (tb chunk t.thing).length ((tb chunk t.thing).map bv) ∧ Own h.n b) ∨ (¬ Puts chunk t.thing ∧ ∃ e : Nat, e ≠ 0 ∧ v = .tuple #[.slice none 0 0, .int .i64 e]) := by
  by_cases hp : Puts chunk t.thing
  · obtain ⟨p1, p2, p3, p4, p5⟩ := hp
    refine (put_ok chunk t.k t.f t.a t.cap p3 p4 hf t.z p5 h ht).mono ?_
    rintro v h' ⟨b, rfl, hs, ob⟩
    exact .inl ⟨⟨p1, p2, p3, p4, p5⟩, b, rfl, hs, ob⟩
  · by_cases c1 : chunk = true ∧ 255 < t.k
    · obtain ⟨rfl, c1⟩ := c1
      refine (put_err1 t.k t.f t.a t.z.length t.cap c1 h).mono ?_
      rintro v h' rfl
      exact .inr ⟨hp, 2, by decide, rfl⟩
    · by_cases c2 : chunk = false ∧ t.f ≠ 0
      · obtain ⟨rfl, c2⟩ := c2
        refine (put_err2 t.k t.f t.a t.z.length t.cap c2 h).mono ?_
        rintro v h' rfl
        exact .inr ⟨hp, 2, by decide, rfl⟩
      · have d1 : chunk = true → t.k ≤ 255 := fun e => by
          rcases Nat.lt_or_ge 255 t.k with x | x
          · exact absurd ⟨e, x⟩ c1
          · exact x
        have d2 : chunk = false → t.f = 0 := fun e => by
          rcases Nat.eq_zero_or_pos t.f with x | x
          · exact x
          · exact absurd ⟨e, by omega⟩ c2
        have d3 : 65531 < t.z.length := by
          rcases Nat.lt_or_ge 65531 t.z.length with x | x
          · exact x
          · exact absurd ⟨hk, hf, d1, d2, x⟩ hp
        refine (put_err3' chunk t.k t.f t.a t.z.length t.cap (by omega) d1 d2 d3 h).mono ?_
        rintro v h' rfl
        exact .inr ⟨hp, 3, by decide, rfl⟩
theorem tbs_snoc (chunk : Bool) (xs : List Thing) (x : Thing) : tbs chunk (xs ++ [x]) = tbs chunk xs ++ tb chunk x := by simp [tbs]
theorem thing_snoc {ts : List TV} {i : Nat} (hi : i < ts.length) : (ts.take (i + 1)).map TV.thing = (ts.take i).map TV.thing ++ [ts[i].thing] := by
  rw [List.take_add_one, List.getElem?_eq_getElem hi, List.map_append]; rfl
theorem tbs_take_le (chunk : Bool) (xs : List Thing) (i : Nat) : (tbs chunk (xs.take i)).length ≤ (tbs chunk xs).length := by
  have e : tbs chunk xs = tbs chunk (xs.take i) ++ tbs chunk (xs.drop i) := by
    conv => lhs; rw [← List.take_append_drop i xs]
    simp only [tbs, List.map_append, List.flatten_append]
  rw [e, List.length_append]
  exact Nat.le_add_right _ _
set_option maxHeartbeats 16000000 in
theorem tlvBack_spec (chunk : Bool) (la : Option Addr) (lcap : Nat) (ts : List TV) (ba : Option Addr) (bcap : Nat) (zb : List UInt8) (hbd : ∀ t ∈ ts, t.k < 65536 ∧ t.f < 256 ∧ t.cap ≤ maxLen ∧ t.z.length ≤ 140737488355328) (hbl : zb.length ≤ 140737488355328) (hcap : bcap ≤ maxLen) (h : AHeap) (hl : Rv Try.prog h 3 la ts.length lcap (tcells ts)) (ht : TVs h ts) (hz : Rv Try.prog h 1 ba zb.length bcap (zb.map bv)) : CallS Try.prog [] 5 [.bool chunk, .slice la ts.length lcap, .slice ba zb.length bcap] h fun v _ => v = .bool true := by
  unfold maxLen at hcap
  have hle := hz.le
  generalize hlen : zb.length = n at *
  (refine CallS.of3 Try.func5 rfl Try.ntmps5 Try.results5 rfl ?_)
  (refine Go.run (g:=?_))
  refine GoR.name ?_
  intro h1 e1
  have s1 : Same h h1 := by subst e1; exact ((Same.refl h).push _).push _
  have g14 : h1.get h.n = some (.cells [.slice la ts.length lcap] 32) := by subst e1; exact get_push_lt (AHeap.get_push_same _ _)
  have g16 : h1.get (h.n + 1) = some (.cells [.bool false] 4) := by subst e1; exact AHeap.get_push_same (h.push _) _
  have n1 : h1.n = h.n + 2 := by subst e1; rfl
  clear e1
  refine GoR.call rfl rfl rfl rfl rfl rfl rfl (((known04 _).args (by first | rfl | (simp; fail_if_success focus skip) | (simp; omega) | (congr 2; omega))).mono ?_)
  rintro _ h1 ⟨rfl, rfl⟩ -
  by_cases c1 : 100 < ts.length
  · (refine Go.run (g:=?_))
    (first|refine Go.finT (by first|exact .inr rfl|exact .inl rfl) rfl ?_|refine Go.fin1 (by first|exact .inr rfl|exact .inl rfl) rfl (hq:=?_))
    rfl
  by_cases c2 : 5000 < n
  · (refine Go.run (g:=?_))
    (first|refine Go.finT (by first|exact .inr rfl|exact .inl rfl) rfl ?_|refine Go.fin1 (by first|exact .inr rfl|exact .inl rfl) rfl (hq:=?_))
    rfl
  have hl1 := hl.same s1
  have ht1 := ht.same s1
  have hz1 := hz.same s1
  clear s1
  (refine Go.run (g:=?_))
  refine Go.loop (α := Nat × Option Addr × Nat × AHeap) (fun x => [(33, .int .i64 x.1), (7, .slice x.2.1 (tbs chunk ((ts.take x.1).map TV.thing)).length x.2.2.1), (32, .int .i64 ts.length), (31, .slice la ts.length lcap), (6, .pointer (some ⟨h.n + 1, 0, none⟩)), (4, .pointer (some ⟨h.n, 0, none⟩)), (0, .bool chunk), (2, .slice ba n bcap)]) (fun _ => []) (fun x => x.2.2.2) (fun x => x.1 ≤ ts.length ∧ Same h1 x.2.2.2 ∧ Sv x.2.2.2 5 1 x.2.1 (tbs chunk ((ts.take x.1).map TV.thing)).length x.2.2.1 ((tbs chunk ((ts.take x.1).map TV.thing)).map bv) ∧ Own h1.n x.2.1 ∧ (tbs chunk ((ts.take x.1).map TV.thing)).length ≤ 5000 ∧ ∀ y ∈ (ts.take x.1).map TV.thing, Puts chunk y) (fun x => ts.length - x.1) (0, none, 0, h1) ?_ ?_ rfl rfl ?_
  · exact ⟨Nat.zero_le _, Same.refl h1, .nil, Own.nil _, Nat.zero_le _, fun y hy => by cases hy⟩
  · exact ⟨rfl, rfl, rfl, rfl, rfl, rfl, rfl, rfl, trivial⟩
  rintro ⟨i, ab, ac, h2⟩ ⟨hi, s2, hab, oab, hal, hput⟩
  simp only at hi s2 hab oab hal hput ⊢
  have m2 := s2.1
  have hl2 := hl1.same s2
  rcases Nat.lt_or_ge i ts.length with i0 | i0
  · (refine Go.run (g:=?_))
    refine GoR.loadVN rfl rfl rfl rfl rfl hl2 (by rw [tcells_len]; omega) (by decide) (show ((tcells ts).drop (i * 3)).take 3 = [.int .u16 ts[i].k, .int .u8 ts[i].f, .slice ts[i].a ts[i].z.length ts[i].cap] from tcells_get i0) ?_
    obtain ⟨q1, q2, q3, q4⟩ := hbd _ (List.getElem_mem i0)
    have ok2 := ht1.same s2 _ (List.getElem_mem i0)
    have e1 := thing_snoc i0
    have e2 : tbs chunk ((ts.take (i + 1)).map TV.thing) = tbs chunk ((ts.take i).map TV.thing) ++ tb chunk ts[i].thing := by rw [e1, tbs_snoc]
    have ep : (∀ y ∈ (ts.take (i + 1)).map TV.thing, Puts chunk y) ↔ (∀ y ∈ (ts.take i).map TV.thing, Puts chunk y) ∧ Puts chunk ts[i].thing := by rw [e1, List.forall_mem_append, List.forall_mem_singleton]
    generalize tbs chunk ((ts.take i).map TV.thing) = done_ at *
    generalize hti : ts[i] = t at *
    (refine Go.run (g:=?_))
    refine GoR.call rfl rfl rfl rfl rfl rfl rfl (((putAll_spec chunk t q1 q2 q4 _ (Rv.pushPut ok2 _ _)).args (by first | rfl | (simp; fail_if_success focus skip) | (simp; omega) | (congr 2; omega))).mono ?_)
    rintro _ h3 hv s3
    (have nn := (s3).1; try simp only [AHeap.n_push, AHeap.n_put] at nn)
    have S23 : Same h2 h3 := (((Same.refl h2).push _).put (Nat.le_refl _) _).trans s3
    have S3 : Same h1 h3 := s2.trans S23
    have hab3 := hab.same S23
    rcases hv with ⟨hp, b1, rfl, hb1, ob1⟩ | ⟨hp, e, he, rfl⟩
    · have hbs := tb_len chunk t.thing
      have hbu := up4_le (t.thing.2.2.length + 4)
      have hz5 := hp.2.2.2.2
      generalize tb chunk t.thing = bs at *
      rcases Nat.lt_or_ge 5000 (done_.length + bs.length) with c3 | c3
      · (refine Go.run (g:=?_))
        (first|refine Go.finT (by first|exact .inr rfl|exact .inl rfl) rfl ?_|refine Go.fin1 (by first|exact .inr rfl|exact .inl rfl) rfl (hq:=?_))
        rfl
      · (refine Go.run (g:=?_))
        refine GoR.appendV rfl rfl rfl rfl rfl rfl hab3 (Sv.rv hb1) (Own.ok oab (by omega)) (by omega) (by omega) (by simp [bv, Value.oneCell']) ?_
        intro a4 c4 h4 ha4 k4 o4
        have m4 := k4.1
        rw [← List.map_append] at ha4
        (refine Go.run (g:=?_))
        refine Go.again (i + 1, a4, c4, h4) ⟨by simp only; omega, ?_, by simp only; rw [e2, List.length_append]; exact ha4, ?_, by simp only; rw [e2, List.length_append]; omega, by simp only; rw [ep]; exact ⟨hput, hp⟩⟩ (by simp only; omega) ⟨rfl, by simp only; rw [e2, List.length_append]; rfl, rfl, rfl, rfl, rfl, rfl, rfl, trivial⟩ rfl rfl
        · exact S3.ownO k4 oab (Nat.le_refl _)
        · intro j hj
          rcases o4 j hj with x | x
          · exact oab j x
          · omega
    · (refine Go.run (g:=?_))
      (first|refine Go.finT (by first|exact .inr rfl|exact .inl rfl) rfl ?_|refine Go.fin1 (by first|exact .inr rfl|exact .inl rfl) rfl (hq:=?_))
      rfl
  have hie : i = ts.length := by omega
  subst hie
  rw [List.take_of_length_le (Nat.le_refl _)] at hab hal hput ⊢
  have hpl := parse_tbs (chunk := chunk) _ hput
  have hpA : parse chunk (tbs chunk (ts.map TV.thing)) = (ts.map TV.thing, true) := by
    have := hpl []
    rwa [List.append_nil, parse_nil, List.append_nil] at this
  have hpB := hpl zb
  have hAb2 : ∀ i ∈ blk ab, i < h2.n := hab.lt
  generalize hA : tbs chunk (ts.map TV.thing) = A at *
  have g24 := s2.get g14
  have g26 := s2.get g16
  have ht2 := ht1.same s2
  have hz2 := hz1.same s2
  have ltA : ∀ i ∈ blk ba, i < h.n := hz.lt
  have ltL : ∀ i ∈ blk la, i < h.n := hl.lt
  have ltT : ∀ t ∈ ts, ∀ i ∈ blk t.a, i < h.n := fun t hm i hi => (ht t hm).lt i hi
  clear hl1 ht1 hz1 g14 g16 s2
  (refine Go.run (g:=?_))
  have hlist := list_spec chunk ab A.length ac A rfl (by omega) h2 (Sv.rv hab)
  rw [hpA] at hlist
  simp only [if_true] at hlist
  refine GoR.call rfl rfl rfl rfl rfl rfl rfl (((hlist).args (by first | rfl | (simp; fail_if_success focus skip) | (simp; omega) | (congr 2; omega))).mono ?_)
  rintro _ h3 ⟨lb, lc, lts, rfl, hlt, lrow⟩ s3
  have m3 := s3.1
  have g34 := s3.get g24
  have g36 := s3.get g26
  have hab3 := hab.same s3
  have hl3 := hl2.same s3
  have ht3 := ht2.same s3
  have hz3 := hz2.same s3
  clear hl2 ht2 hz2 g24 g26 s3 hab
  (refine Go.run (g:=?_))
  have hln : lts.length = ts.length := by simpa using congrArg List.length hlt
  have hsame := sameAll_spec lb lc lts la lcap ts (by omega) h3 (Sv.rv lrow.sv) hl3 lrow.tv ht3
  rw [decide_eq_true hlt] at hsame
  refine GoR.call rfl rfl rfl rfl rfl rfl rfl (((hsame).args (by first | rfl | (simp; fail_if_success focus skip) | (simp; omega) | (congr 2; omega))).mono ?_)
  rintro _ h4 rfl s4
  have m4 := s4.1
  have g44 := s4.get g34
  have g46 := s4.get g36
  have hab4 := hab3.same s4
  have hl4 := hl3.same s4
  have ht4 := ht3.same s4
  have hz4 := hz3.same s4
  clear hl3 ht3 hz3 g34 g36 s4 hab3 hsame hlist lrow
  (refine Go.run (g:=?_))
  refine GoR.name ?_
  intro h5 e5
  have s5 : Same h4 h5 := by subst e5; exact ((Same.refl h4).push _).put (Nat.le_refl _) _
  have g5n : h5.get h4.n = some (.cells [.int .i64 (0 : Nat)] 3) := by subst e5; exact AHeap.get_put_same _ (by simp) _
  have n5 : h5.n = h4.n + 1 := by subst e5; rfl
  clear e5
  have g54 := s5.get g44
  have g56 := s5.get g46
  have hab5 := hab4.same s5
  have hl5 := hl4.same s5
  have ht5 := ht4.same s5
  have hz5 := hz4.same s5
  have ltAb : ∀ i ∈ blk ab, h1.n ≤ i ∧ i < h2.n := fun i hi => ⟨oab i hi, hAb2 i hi⟩
  clear hl4 ht4 hz4 g44 g46 s5 hab4
  refine GoR.appendV rfl rfl rfl rfl rfl rfl hab5 hz5 (Own.ok oab (by omega)) (by omega) (by omega) (by simp [bv, Value.oneCell']) ?_
  intro a6 c6 h6 ha6 k6 o6
  have m6 := k6.1
  rw [← List.map_append] at ha6
  have g64 := k6.get g54 (fun x => by have := ltAb _ x; omega)
  have g66 := k6.get g56 (fun x => by have := ltAb _ x; omega)
  have g6n := k6.get g5n (fun x => by have := ltAb _ x; omega)
  have hl6 := hl5.keeps k6 (fun i hi x => by have := ltAb _ x; have := ltL i hi; omega)
  have ht6 : TVs h6 ts := fun t ht => Rv.keeps (ht5 t ht) k6 (fun i hi x => by have := ltAb _ x; have := ltT t ht i hi; omega)
  have hz6 := hz5.keeps k6 (fun i hi x => by have := ltAb _ x; have := ltA i hi; omega)
  clear hl5 ht5 hz5 g54 g56 g5n hab5 k6
  refine GoR.call rfl rfl rfl rfl rfl rfl rfl (((allCall_spec chunk a6 (A.length + n) c6 _).args (by first | rfl | (simp; fail_if_success focus skip) | (simp; omega) | (congr 2; omega))).mono ?_)
  rintro _ _ ⟨rfl, rfl⟩ -
  (refine Go.run (g:=?_))
  refine Go.name ?_
  intro h7 e7
  have s7 : Same h6 h7 := by subst e7; exact ((Same.refl h6).push _).push _
  have n7 : h7.n = h6.n + 2 := by subst e7; rfl
  have ycb : h7.get h6.n = some (.cells [.bool chunk] 4) := by subst e7; exact get_push_lt (AHeap.get_push_same _ _)
  have ybb : h7.get (h6.n + 1) = some (.cells [.slice a6 (A.length + n) c6] 23) := by subst e7; exact AHeap.get_push_same (h6.push _) _
  clear e7
  refine Go.weaken (ov' := [(75, .func (.func 44) #[] #[.pointer (some ⟨h6.n + 1, 0, none⟩), .pointer (some ⟨h6.n, 0, none⟩)]), (14, .pointer (some ⟨h4.n, 0, none⟩)), (6, .pointer (some ⟨h.n + 1, 0, none⟩)), (4, .pointer (some ⟨h.n, 0, none⟩)), (0, .bool chunk), (2, .slice ba n bcap)]) ⟨rfl, rfl, rfl, rfl, rfl, rfl, trivial⟩ ?_
  refine Go.rangeFunc' (wr := [h7.n + 1, h4.n, h7.n]) rfl (by rfl) (by kernel_rfl) ?_
  intro tm2 ps2 asg2 bo2 H2 eps2 easg2 ebo2 eH2 hN2 hr2
  have Hs2 : Same h7 H2 := by subst eH2; exact ((Same.refl h7).push _).push _
  have Hl2 : H2.get (h7.n + 1) = some (.loop .ready none tm2 ps2 asg2 bo2 h7.n) := by subst eH2; exact AHeap.get_push_same (h7.push _) _
  have Hd2 : H2.get h7.n = some (.deferred true) := by subst eH2; exact get_push_lt (AHeap.get_push_same _ _)
  have Hn2 : H2.n = h7.n + 2 := by subst eH2; rfl
  clear eH2
  have S67 := s7.trans Hs2
  have m1 : h1.n = h.n + 2 := n1
  have hlH := (hl6.same S67)
  have htH := (ht6.same S67)
  -- one round that stops
  have fin_ : ∀ (tk tf : Nat) (ta : Option Addr) (tz tc : Nat) (er : Value) (H : AHeap), H.get (h7.n + 1) = some (.loop .ready none tm2 ps2 asg2 bo2 h7.n) → H.get h7.n = some (.deferred true) → H.get h4.n = some (.cells [.int .i64 ts.length] 3) → Keeps [h7.n + 1, h4.n, h7.n] H2 H → YieldS Try.prog ((h7.n + 1) :: [h4.n, h7.n]) (h7.n + 1) [tlvV tk tf ta tz tc, er] H fun c h' => c = false ∧ h'.get (h7.n + 1) = some (.loop .done (some (.exit 2)) tm2 ps2 asg2 bo2 h7.n) ∧ h'.get h7.n = some (.deferred true) ∧ h'.get h4.n = some (.cells [.int .i64 ts.length] 3) ∧ Keeps [h7.n + 1, h4.n, h7.n] H2 h' := fun tk tf ta tz tc er H hl hd hk hkp => by
    have mH := hkp.1
    refine YieldS.of' hl hN2 hr2 eps2 easg2 ebo2 rfl (by rfl) rfl (List.mem_cons_self ..) ?_
    (refine Go.run (g:=?_))
    refine Go.name ?_
    intro h8 e8
    have s8 : Same H h8 := by subst e8; exact ((Same.refl H).push _).put (Nat.le_refl _) _
    have n8 : h8.n = H.n + 1 := by subst e8; rfl
    clear e8
    refine Go.body (s8.get hl) ?_
    refine Go.name ?_
    intro h9 e9
    have k9 : Keeps [h7.n + 1] h8 h9 := by subst e9; exact (Keeps.rfl _ _).put (by simp) _
    have n9 : h9.n = h8.n := by subst e9; rfl
    have l9 : h9.get (h7.n + 1) = some (.loop .busy none tm2 ps2 asg2 bo2 h7.n) := by subst e9; exact get_put_self (s8.get hl)
    clear e9
    have y4 := k9.get (s8.get (hkp.get (S67.get g64) (by simp; omega))) (by simp only [List.mem_singleton]; omega)
    have y14 := k9.get (s8.get hk) (by simp only [List.mem_singleton]; omega)
    have yd := k9.get (s8.get hd) (by simp only [List.mem_singleton]; omega)
    (refine Go.run (g:=?_))
    refine Go.roundEnd rfl l9 ?_
    refine ⟨rfl, AHeap.get_put_same _ (by omega) _, get_put_other (by omega) yd, get_put_other (by omega) y14, ⟨by simp only [AHeap.n_put]; omega, fun j hj hn => ?_⟩⟩
    simp only [List.mem_cons, List.not_mem_nil, or_false] at hn
    rw [AHeap.get_put_ne _ _ (by omega), k9.2 j (by omega) (by simp only [List.mem_singleton]; omega), s8.2 j (by omega)]
    exact hkp.2 j hj (by simp only [List.mem_cons, List.not_mem_nil, or_false]; omega)
  refine ((all1_spec (l := h7.n + 1) (σ := Unit) (wrO := fun _ => [h4.n, h7.n]) (inv := fun _ i H => H.get (h7.n + 1) = some (.loop .ready none tm2 ps2 asg2 bo2 h7.n) ∧ H.get h7.n = some (.deferred true) ∧ H.get h4.n = some (.cells [.int .i64 i] 3) ∧ Keeps [h7.n + 1, h4.n, h7.n] H2 H ∧ i ≤ ts.length) (stop := fun _ i H => H.get (h7.n + 1) = some (.loop .done (some (.exit 2)) tm2 ps2 asg2 bo2 h7.n) ∧ H.get h7.n = some (.deferred true) ∧ H.get h4.n = some (.cells [.int .i64 ts.length] 3) ∧ Keeps [h7.n + 1, h4.n, h7.n] H2 H) chunk (h6.n + 1) h6.n a6 (A.length + n) c6 (A ++ zb) (by rw [List.length_append, hlen]) (by omega) _ () ?Y2 ?i02 (Hs2.get ybb) (Hs2.get ycb) ((Sv.rv ha6).same S67) ?p12 ?p22 ?p32).args rfl).mono ?_
  case p12 => simp; omega
  case p22 => simp; omega
  case p32 =>
    intro i hi
    have q1 := ha6.lt i hi
    simp only [List.mem_cons, List.not_mem_nil, or_false]
    rcases o6 i hi with x | x
    · have q3 := ltAb i x
      omega
    · omega
  case i02 => exact ⟨Hl2, Hd2, S67.get g6n, ⟨Nat.le_refl _, fun _ _ _ => rfl⟩, Nat.zero_le _⟩
  case Y2 =>
    refine ⟨fun s i H H' ⟨i1, i2, i3, i4, i5⟩ sm => ⟨sm.get i1, sm.get i2, sm.get i3, ⟨Nat.le_trans i4.1 sm.1, fun j hj hn => (sm.2 j (by have := i4.1; omega)).trans (i4.2 j hj hn)⟩, i5⟩, fun s i H ⟨i1, i2, i3, i4, i5⟩ b hb => ?_, ?_, ?_⟩
    · simp only [List.mem_cons, List.not_mem_nil, or_false] at hb
      have := i4.1
      omega
    · rintro - i H t ⟨hl, hd, hk, hkp, hi⟩ hit hok hnw hto
      rcases Nat.eq_or_lt_of_le hi with rfl | hi
      · refine (fin_ _ _ _ _ _ _ H hl hd hk hkp).mono ?_
        rintro c h' ⟨rfl, j1, j2, j3, j4⟩
        exact ⟨(), fun b hb => .inl hb, (fun e => by cases e), fun _ => ⟨j1, j2, j3, j4⟩⟩
      · have mH := hkp.1
        have hti : t.thing = ts[i].thing := by
          rw [hpB, List.getElem?_append_left (by simpa using hi), List.getElem?_map, List.getElem?_eq_getElem hi] at hit
          exact (Option.some.inj hit).symm
        refine YieldS.of' hl hN2 hr2 eps2 easg2 ebo2 rfl (by rfl) rfl (List.mem_cons_self ..) ?_
        (refine Go.run (g:=?_))
        refine Go.name ?_
        intro h8 e8
        have s8 : Same H h8 := by subst e8; exact ((Same.refl H).push _).put (Nat.le_refl _) _
        have n8 : h8.n = H.n + 1 := by subst e8; rfl
        have g8 : h8.get H.n = some (.cells t.cells 25) := by subst e8; exact AHeap.get_put_same _ (by simp) _
        clear e8
        refine Go.body (s8.get hl) ?_
        refine Go.name ?_
        intro h9 e9
        have k9 : Keeps [h7.n + 1] h8 h9 := by subst e9; exact (Keeps.rfl _ _).put (by simp) _
        have n9 : h9.n = h8.n := by subst e9; rfl
        have l9 : h9.get (h7.n + 1) = some (.loop .busy none tm2 ps2 asg2 bo2 h7.n) := by subst e9; exact get_put_self (s8.get hl)
        clear e9
        have y4 := k9.get (s8.get (hkp.get (S67.get g64) (by simp; omega))) (by simp only [List.mem_singleton]; omega)
        have y14 := k9.get (s8.get hk) (by simp only [List.mem_singleton]; omega)
        have yd := k9.get (s8.get hd) (by simp only [List.mem_singleton]; omega)
        have yt : h9.get H.n = some (.cells [.int .u16 t.k, .int .u8 t.f, .slice t.a t.z.length t.cap] 25) := k9.get g8 (by simp only [List.mem_singleton]; omega)
        have hl9 := ((hlH.keeps hkp (fun j hj => by have := ltL j hj; simp; omega)).same s8).keeps k9 (fun j hj hm => by simp only [List.mem_singleton] at hm; have := ltL j hj; omega)
        have ok9 : t.ok h9 := Rv.keeps (Rv.same hok s8) k9 (fun j hj hm => by simp only [List.mem_singleton] at hm; subst hm; exact hnw _ hj (by simp))
        have oi9 : ts[i].ok h9 := Rv.keeps (Rv.same (Rv.keeps (htH _ (List.getElem_mem hi)) hkp (fun j hj => by have := ltT _ (List.getElem_mem hi) j hj; simp; omega)) s8) k9 (fun j hj hm => by simp only [List.mem_singleton] at hm; have := ltT _ (List.getElem_mem hi) j hj; omega)
        (refine Go.run (g:=?_))
        refine GoR.loadVN rfl rfl rfl rfl rfl hl9 (by rw [tcells_len]; omega) (by decide) (tcells_get hi) ?_
        (refine Go.run (g:=?_))
        have hsm := same_spec t.k t.f t.a t.cap t.z ts[i].k ts[i].f ts[i].a ts[i].cap ts[i].z _ ok9 oi9
        rw [decide_eq_true (show ((t.k, t.f, t.z) : Thing) = (ts[i].k, ts[i].f, ts[i].z) from hti)] at hsm
        refine GoR.call rfl rfl rfl rfl rfl rfl rfl (((hsm).args (by first | rfl | (simp; fail_if_success focus skip) | (simp; omega) | (congr 2; omega))).mono ?_)
        rintro _ h10 rfl s10
        have m10 := s10.1
        have l10 := s10.get l9
        have z14 := s10.get y14
        have zd := s10.get yd
        (refine Go.run (g:=?_))
        refine Go.name ?_
        intro h11 e11
        have k11 : Keeps [h4.n] h10 h11 := by subst e11; exact (Keeps.rfl _ _).put (by simp) _
        have z11 : h11.get h4.n = some (.cells [.int .i64 (i + 1 : Nat)] 3) := by subst e11; exact AHeap.get_put_same _ (by omega) _
        have n11 : h11.n = h10.n := by subst e11; rfl
        clear e11
        refine Go.roundEnd rfl (k11.get l10 (by simp only [List.mem_singleton]; omega)) ?_
        refine ⟨(), fun b hb => .inl hb, fun _ => ⟨AHeap.get_put_same _ (by omega) _, get_put_other (by omega) (k11.get zd (by simp only [List.mem_singleton]; omega)), get_put_other (by omega) z11, ⟨by simp only [AHeap.n_put]; omega, fun j hj hn => ?_⟩, hi⟩, fun e => by cases e⟩
        simp only [List.mem_cons, List.not_mem_nil, or_false] at hn
        rw [AHeap.get_put_ne _ _ (by omega), k11.2 j (by omega) (by simp only [List.mem_singleton]; omega), s10.2 j (by omega), k9.2 j (by omega) (by simp only [List.mem_singleton]; omega), s8.2 j (by omega)]
        exact hkp.2 j hj (by simp only [List.mem_cons, List.not_mem_nil, or_false]; omega)
    · rintro - H hbad ⟨hl, hd, hk, hkp, hi⟩
      have hI : (parse chunk (A ++ zb)).1.length = ts.length := by
        rw [hpB] at hi ⊢
        rw [List.length_append, List.length_map] at hi ⊢
        omega
      rw [hI] at hk
      refine (fin_ _ _ _ _ _ _ H hl hd hk hkp).mono ?_
      rintro c h' ⟨rfl, j1, j2, j3, j4⟩
      exact ⟨(), j1, j2, j3, j4⟩
  intro v H4 hres kp
  refine ⟨fun i hi => .inr (by simp only [List.mem_cons, List.not_mem_nil, or_false] at hi; omega), .inr (by omega), ?_⟩
  obtain ⟨c, j1, j2, j3, j4⟩ : ∃ (c : Bool), H4.get (h7.n + 1) = some (.loop (if c then .ready else .done) (if c then none else some (.exit 2)) tm2 ps2 asg2 bo2 h7.n) ∧ H4.get h7.n = some (.deferred true) ∧ H4.get h4.n = some (.cells [.int .i64 ts.length] 3) ∧ Keeps [h7.n + 1, h4.n, h7.n] H2 H4 := by
    rcases hres with ⟨_, hw, i1, i2, i3, i4, i5⟩ | ⟨_, j, i1, i2, i3, i4⟩
    · have hI : (parse chunk (A ++ zb)).1.length = ts.length := by
        rw [hpB] at i5 ⊢
        rw [List.length_append, List.length_map] at i5 ⊢
        omega
      rw [hI] at i3
      exact ⟨true, i1, i2, i3, i4⟩
    · exact ⟨false, i1, i2, i3, i4⟩
  have mH4 := j4.1
  have w4 := j4.get (S67.get g64) (by simp; omega)
  have w6 := j4.get (S67.get g66) (by simp; omega)
  have hz8 := (hz6.same S67).keeps j4 (fun i hi => by have := ltA i hi; simp; omega)
  have hlist2 := list_spec chunk ba n bcap zb hlen (by omega)
  have hpz := tbs_parse (chunk := chunk) zb
  have hpn := parse_len (chunk := chunk) zb
  clear hres kp fin_ hlH htH hl6 ht6 ha6 o6 g64 g66 g6n S67 s7 Hs2 Hl2 Hd2 hz6 hpl hpA hpB hA hput
  cases c
  all_goals
    refine ⟨_, _, _, _, _, _, _, _, j1, by rfl, rfl, ?_⟩
    refine Go.name ?_
    intro h8 e8
    have k8 : Keeps [h7.n + 1] H4 h8 := by subst e8; exact (Keeps.rfl _ _).put (by simp) _
    have n8 : h8.n = H4.n := by subst e8; rfl
    clear e8
    have w4 := k8.get w4 (by simp only [List.mem_singleton]; omega)
    have w6 := k8.get w6 (by simp only [List.mem_singleton]; omega)
    have w14 := k8.get j3 (by simp only [List.mem_singleton]; omega)
    have wd := k8.get j2 (by simp only [List.mem_singleton]; omega)
    have hz8 := hz8.keeps k8 (fun i hi hm => by simp only [List.mem_singleton] at hm; have := ltA i hi; omega)
    (refine Go.run (g:=?_))
    refine GoR.call rfl rfl rfl rfl rfl rfl rfl (((hlist2 _ hz8).args (by first | rfl | (simp; fail_if_success focus skip) | (simp; omega) | (congr 2; omega))).mono ?_)
    intro v9 h9 q9 s9
    have m9 := s9.1
    have w4 := s9.get w4
    have w6 := s9.get w6
    have w14 := s9.get w14
    have wd := s9.get wd
    have hz9 := hz8.same s9
    generalize parse chunk zb = pz at *
    obtain ⟨pt, pw⟩ := pz
    simp only at q9 hpz hpn
    cases pw
    · simp only [Bool.false_eq_true, if_false] at q9
      subst q9
      (refine Go.run (g:=?_))
      refine Go.fin_marks (.inr rfl) (by intro d hd; simp only [List.mem_cons, List.not_mem_nil, or_false] at hd; omega) (takeAll_one (get_put_other (by omega) wd)) (.cell rfl inferInstance (get_put_other (by omega) (AHeap.get_put_same h9 (by omega) _)) rfl .nil) ?_
      simp [retV]
    · simp only [if_true] at q9
      obtain ⟨mb, mc, mts, rfl, hmt, mrow⟩ := q9
      obtain ⟨hz1, hz2⟩ := hpz rfl
      subst hmt
      rw [List.length_map] at hpn
      have hmz : (tbs chunk (mts.map TV.thing)).length = n := by rw [hz1, hlen]
      (refine Go.run (g:=?_))
      refine Go.loop (α := Nat × Option Addr × Nat × AHeap) (fun x => [(115, .int .i64 x.1), (7, .slice x.2.1 (tbs chunk ((mts.take x.1).map TV.thing)).length x.2.2.1), (114, .int .i64 mts.length), (113, .slice mb mts.length mc), (6, .pointer (some ⟨h.n + 1, 0, none⟩)), (0, .bool chunk), (2, .slice ba n bcap)]) (fun _ => [h7.n]) (fun x => x.2.2.2) (fun x => x.1 ≤ mts.length ∧ Same h9 x.2.2.2 ∧ Sv x.2.2.2 5 1 x.2.1 (tbs chunk ((mts.take x.1).map TV.thing)).length x.2.2.1 ((tbs chunk ((mts.take x.1).map TV.thing)).map bv) ∧ Own h9.n x.2.1) (fun x => mts.length - x.1) (0, none, 0, h9) ?_ ?_ rfl rfl ?_
      · exact ⟨Nat.zero_le _, Same.refl h9, .nil, Own.nil _⟩
      · exact ⟨rfl, rfl, rfl, rfl, rfl, rfl, rfl, trivial⟩
      rintro ⟨i, db, dc, h10⟩ ⟨hi, s10, hdb, odb⟩
      simp only at hi s10 hdb odb ⊢
      have m10 := s10.1
      have hml := mrow.sv.same s10
      have hmtv := mrow.tv.same s10
      have hdl := tbs_take_le chunk (mts.map TV.thing) i
      rw [← List.map_take, hmz] at hdl
      rcases Nat.lt_or_ge i mts.length with i0 | i0
      · (refine Go.run (g:=?_))
        refine GoR.loadVN rfl rfl rfl rfl rfl (Sv.rv hml) (by rw [tcells_len]; omega) (by decide) (show ((tcells mts).drop (i * 3)).take 3 = [.int .u16 mts[i].k, .int .u8 mts[i].f, .slice mts[i].a mts[i].z.length mts[i].cap] from tcells_get i0) ?_
        have hp : Puts chunk mts[i].thing := hz2 _ (List.mem_map_of_mem (List.getElem_mem i0))
        have ok2 := hmtv _ (List.getElem_mem i0)
        have e1 := thing_snoc i0
        have e2 : tbs chunk ((mts.take (i + 1)).map TV.thing) = tbs chunk ((mts.take i).map TV.thing) ++ tb chunk mts[i].thing := by rw [e1, tbs_snoc]
        have hdl2 := tbs_take_le chunk (mts.map TV.thing) (i + 1)
        rw [← List.map_take, hmz, e2, List.length_append] at hdl2
        generalize tbs chunk ((mts.take i).map TV.thing) = done_ at *
        generalize hti : mts[i] = t at *
        (refine Go.run (g:=?_))
        refine GoR.call rfl rfl rfl rfl rfl rfl rfl (((putAll_spec chunk t hp.1 hp.2.1 (Nat.le_trans hp.2.2.2.2 (by decide)) _ (Rv.pushPut ok2 _ _)).args (by first | rfl | (simp; fail_if_success focus skip) | (simp; omega) | (congr 2; omega))).mono ?_)
        rintro _ h11 hv s11
        (have nn := (s11).1; try simp only [AHeap.n_push, AHeap.n_put] at nn)
        have S23 : Same h10 h11 := (((Same.refl h10).push _).put (Nat.le_refl _) _).trans s11
        have S3 : Same h9 h11 := s10.trans S23
        have hdb3 := hdb.same S23
        rcases hv with ⟨-, b1, rfl, hb1, ob1⟩ | ⟨hp', -⟩
        · generalize tb chunk t.thing = bs at *
          (refine Go.run (g:=?_))
          refine GoR.appendV rfl rfl rfl rfl rfl rfl hdb3 (Sv.rv hb1) (Own.ok odb (by omega)) (by omega) (by omega) (by simp [bv, Value.oneCell']) ?_
          intro a12 c12 h12 ha12 k12 o12
          have m12 := k12.1
          rw [← List.map_append] at ha12
          (refine Go.run (g:=?_))
          refine Go.again (i + 1, a12, c12, h12) ⟨by simp only; omega, ?_, by simp only; rw [e2, List.length_append]; exact ha12, ?_⟩ (by simp only; omega) ⟨rfl, by simp only; rw [e2, List.length_append]; rfl, rfl, rfl, rfl, rfl, rfl, trivial⟩ rfl rfl
          · exact S3.ownO k12 odb (Nat.le_refl _)
          · intro j hj
            rcases o12 j hj with x | x
            · exact odb j x
            · omega
        · exact absurd hp hp'
      have hie : i = mts.length := by omega
      subst hie
      rw [List.take_of_length_le (Nat.le_refl _), hz1] at hdb ⊢
      have w6' := s10.get w6
      have wd' := s10.get wd
      have hz10 := hz9.same s10
      rw [hlen] at hdb ⊢
      (refine Go.run (g:=?_))
      refine Go.fin_marks (.inr rfl) (by intro d hd; simp only [List.mem_cons, List.not_mem_nil, or_false] at hd; omega) (takeAll_one (get_put_other (by omega) wd')) (.cell rfl inferInstance (get_put_other (by omega) (AHeap.get_put_same h10 (by omega) _)) rfl .nil) ?_
      simp [retV]
end Go.Proofs.Ytmelgnpogdilgaa

/- Things that come in. No conditions. -/
namespace Go.Proofs.Ytmelgnpogdilgaa
set_option linter.unusedVariables false
theorem u8b : Try.prog.underlying 5 = some (.int .u8) := by kernel_rfl
theorem u16b : Try.prog.underlying 22 = some (.int .u16) := by kernel_rfl
theorem bytesB : Try.prog.underlying 23 = some (.slice 5) := by kernel_rfl
theorem tlv_of {h : AHeap} {H : Type} {cs : List Value} {d : DataW H} (r : ARd Try.prog h 25 cs d) : ∃ (kind flags : Nat) (a : Option Addr) (cap : Nat) (zs : List UInt8), cs = [.int .u16 kind, .int .u8 flags, .slice a zs.length cap] ∧ kind < 65536 ∧ flags < 256 ∧ Rv Try.prog h 1 a zs.length cap (zs.map bv) ∧ cap ≤ maxLen := by
  obtain ⟨hl, hf⟩ := r.field Try.underlying25
  rw [show Try.prog.cellsOf 25 = 3 from by kernel_rfl] at hl
  match cs, hl with
  | [c0, c1, c2], _ =>
    obtain ⟨d0, r0⟩ := hf 0 22 0 1 rfl (by kernel_rfl)
    obtain ⟨d1, r1⟩ := hf 1 5 1 1 rfl (by kernel_rfl)
    obtain ⟨d2, r2⟩ := hf 2 23 2 1 rfl (by kernel_rfl)
    obtain ⟨kind, e0, hk⟩ := r0.u_inv rfl u16b
    obtain ⟨flags, e1, hfl⟩ := r1.u_inv rfl u8b
    obtain ⟨a, cap, zs, e2, hR, hm⟩ := r2.bytes bytesB u8b (by kernel_rfl)
    simp at e0 e1 e2
    subst e0 e1 e2
    exact ⟨kind, flags, a, cap, zs, rfl, hk, hfl, hR, hm⟩
end Go.Proofs.Ytmelgnpogdilgaa
