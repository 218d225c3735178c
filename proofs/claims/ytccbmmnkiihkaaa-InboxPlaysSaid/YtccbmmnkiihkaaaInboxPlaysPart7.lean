/- What the law leans on, part 7. No conditions. -/
import Derived.Test.YtccbmmnkiihkaaaProg
import Derived.KernelRfl
import Derived.Sort.AssemblyPlain
import Derived.Sort.LotD5
import Derived.Test.YtccbmmnkiihkaaaInboxPlaysPart6
set_option linter.unusedVariables false
set_option linter.unusedSimpArgs false
namespace Go.Proofs.Ytccbmmnkiihkaaa
instance : CT Try.prog 2 none := ⟨by kernel_rfl⟩
instance : SZ Try.prog 2 1 := ⟨by kernel_rfl⟩
theorem un2 : Try.prog.underlying 2 = some (.int .i64) := by kernel_rfl
instance : CT Try.prog 3 none := ⟨by kernel_rfl⟩
instance : SZ Try.prog 3 1 := ⟨by kernel_rfl⟩
theorem un3 : Try.prog.underlying 3 = some (.int .i64) := by kernel_rfl
instance : AL Try.prog 3 [.int .i64 0] := ⟨by kernel_rfl⟩
instance : CT Try.prog 4 none := ⟨by kernel_rfl⟩
instance : CT Try.prog 5 none := ⟨by kernel_rfl⟩
instance : SZ Try.prog 5 1 := ⟨by kernel_rfl⟩
theorem un5 : Try.prog.underlying 5 = some (.int .u8) := by kernel_rfl
instance : CT Try.prog 22 none := ⟨by kernel_rfl⟩
instance : SZ Try.prog 22 1 := ⟨by kernel_rfl⟩
theorem un22 : Try.prog.underlying 22 = some (.int .u16) := by kernel_rfl
instance : CT Try.prog 23 none := ⟨by kernel_rfl⟩
instance : SZ Try.prog 23 1 := ⟨by kernel_rfl⟩
theorem un23 : Try.prog.underlying 23 = some (.int .u32) := by kernel_rfl
instance : EL Try.prog 24 (none, 7) := ⟨by kernel_rfl⟩
instance : UN Try.prog 24 (.slice 35) := ⟨by kernel_rfl⟩
instance : CT Try.prog 31 none := ⟨by kernel_rfl⟩
instance : SZ Try.prog 31 1 := ⟨by kernel_rfl⟩
instance : UN Try.prog 31 (.slice 5) := ⟨by kernel_rfl⟩
instance : BS Try.prog 31 5 1 (.int .u8 0) := .of (by kernel_rfl) (by kernel_rfl) (by kernel_rfl) (by kernel_rfl) (by kernel_rfl)
instance : AP Try.prog 31 31 5 1 1 := .of (inf := Try.t5) (z := .int .u8 0) (e₂ := 5) (by kernel_rfl) (by kernel_rfl) (by kernel_rfl) (by kernel_rfl) (by kernel_rfl) (by kernel_rfl) (by decide) (by kernel_rfl) (by kernel_rfl)
instance : CT Try.prog 33 (some 6) := ⟨by kernel_rfl⟩
instance : SZ Try.prog 33 6 := ⟨by kernel_rfl⟩
instance : FO Try.prog 33 0 0 := ⟨by kernel_rfl⟩
instance : FO Try.prog 33 1 1 := ⟨by kernel_rfl⟩
instance : FO Try.prog 33 2 2 := ⟨by kernel_rfl⟩
instance : FO Try.prog 33 3 3 := ⟨by kernel_rfl⟩
instance : FO Try.prog 33 4 4 := ⟨by kernel_rfl⟩
instance : FO Try.prog 33 5 5 := ⟨by kernel_rfl⟩
instance : AL Try.prog 33 [.int .u32 0, .int .u8 0, .int .u16 0, .int .u16 0, .int .u32 0, .slice none 0 0] := ⟨by kernel_rfl⟩
instance : CT Try.prog 35 (some 7) := ⟨by kernel_rfl⟩
instance : SZ Try.prog 35 7 := ⟨by kernel_rfl⟩
instance : FO Try.prog 35 0 0 := ⟨by kernel_rfl⟩
instance : FO Try.prog 35 1 1 := ⟨by kernel_rfl⟩
instance : AL Try.prog 35 [.int .i64 0, .int .u32 0, .int .u8 0, .int .u16 0, .int .u16 0, .int .u32 0, .slice none 0 0] := ⟨by kernel_rfl⟩
instance : CT Try.prog 39 (some 4) := ⟨by kernel_rfl⟩
instance : SZ Try.prog 39 4 := ⟨by kernel_rfl⟩
instance : FO Try.prog 39 0 0 := ⟨by kernel_rfl⟩
instance : FO Try.prog 39 1 1 := ⟨by kernel_rfl⟩
instance : FO Try.prog 39 2 2 := ⟨by kernel_rfl⟩
instance : FO Try.prog 39 3 3 := ⟨by kernel_rfl⟩
instance : ST Try.prog 39 [.int .u16 0, .bool false, .int .u32 0, .slice none 0 0] [(0, 1), (1, 1), (2, 1), (3, 1)] := .of (z := .agg #[.int .u16 0, .bool false, .int .u32 0, .slice none 0 0]) (fs := (match Try.prog.underlying 39 with | some (.struct fs) => fs | _ => #[])) (by kernel_rfl) (by kernel_rfl) (by kernel_rfl) (by kernel_rfl) (by kernel_rfl)
instance : AL Try.prog 39 [.int .u16 0, .bool false, .int .u32 0, .slice none 0 0] := ⟨by kernel_rfl⟩
instance : CT Try.prog 43 none := ⟨by kernel_rfl⟩
instance : SZ Try.prog 43 1 := ⟨by kernel_rfl⟩
instance : EL Try.prog 43 (none, 1) := ⟨by kernel_rfl⟩
instance : UN Try.prog 43 (.slice 23) := ⟨by kernel_rfl⟩
instance : BS Try.prog 43 23 1 (.int .u32 0) := .of (by kernel_rfl) (by kernel_rfl) (by kernel_rfl) (by kernel_rfl) (by kernel_rfl)
instance : AP Try.prog 43 43 23 1 4 := .of (inf := Try.t23) (z := .int .u32 0) (e₂ := 23) (by kernel_rfl) (by kernel_rfl) (by kernel_rfl) (by kernel_rfl) (by kernel_rfl) (by kernel_rfl) (by decide) (by kernel_rfl) (by kernel_rfl)
instance : CT Try.prog 44 none := ⟨by kernel_rfl⟩
instance : EL Try.prog 44 (none, 2) := ⟨by kernel_rfl⟩
instance : UN Try.prog 44 (.slice 97) := ⟨by kernel_rfl⟩
instance : BS Try.prog 44 97 2 (.agg #[.int .u16 0, .int .u16 0]) := .of (by kernel_rfl) (by kernel_rfl) (by kernel_rfl) (by kernel_rfl) (by kernel_rfl)
instance : AP Try.prog 44 44 97 2 4 := .of (inf := Try.t97) (z := .agg #[.int .u16 0, .int .u16 0]) (e₂ := 97) (by kernel_rfl) (by kernel_rfl) (by kernel_rfl) (by kernel_rfl) (by kernel_rfl) (by kernel_rfl) (by decide) (by kernel_rfl) (by kernel_rfl)
instance : CT Try.prog 47 (some 15) := ⟨by kernel_rfl⟩
instance : SZ Try.prog 47 15 := ⟨by kernel_rfl⟩
instance : FO Try.prog 47 0 0 := ⟨by kernel_rfl⟩
instance : FO Try.prog 47 3 3 := ⟨by kernel_rfl⟩
instance : FO Try.prog 47 4 4 := ⟨by kernel_rfl⟩
instance : FO Try.prog 47 12 12 := ⟨by kernel_rfl⟩
instance : FO Try.prog 47 13 13 := ⟨by kernel_rfl⟩
instance : ST Try.prog 47 [.int .u8 0, .int .u8 0, .int .u32 0, .int .u32 0, .int .u32 0, .int .u16 0, .int .u16 0, .int .u16 0, .int .u16 0, .int .u32 0, .slice none 0 0, .slice none 0 0, .slice none 0 0, .slice none 0 0, .slice none 0 0] [(0, 1), (1, 1), (2, 1), (3, 1), (4, 1), (5, 1), (6, 1), (7, 1), (8, 1), (9, 1), (10, 1), (11, 1), (12, 1), (13, 1), (14, 1)] := .of (z := .agg #[.int .u8 0, .int .u8 0, .int .u32 0, .int .u32 0, .int .u32 0, .int .u16 0, .int .u16 0, .int .u16 0, .int .u16 0, .int .u32 0, .slice none 0 0, .slice none 0 0, .slice none 0 0, .slice none 0 0, .slice none 0 0]) (fs := (match Try.prog.underlying 47 with | some (.struct fs) => fs | _ => #[])) (by kernel_rfl) (by kernel_rfl) (by kernel_rfl) (by kernel_rfl) (by kernel_rfl)
instance : AL Try.prog 47 [.int .u8 0, .int .u8 0, .int .u32 0, .int .u32 0, .int .u32 0, .int .u16 0, .int .u16 0, .int .u16 0, .int .u16 0, .int .u32 0, .slice none 0 0, .slice none 0 0, .slice none 0 0, .slice none 0 0, .slice none 0 0] := ⟨by kernel_rfl⟩
instance : CT Try.prog 52 none := ⟨by kernel_rfl⟩
instance : SZ Try.prog 52 1 := ⟨by kernel_rfl⟩
instance : EL Try.prog 52 (none, 1) := ⟨by kernel_rfl⟩
instance : UN Try.prog 52 (.slice 2) := ⟨by kernel_rfl⟩
instance : BS Try.prog 52 2 1 (.int .i64 0) := .of (by kernel_rfl) (by kernel_rfl) (by kernel_rfl) (by kernel_rfl) (by kernel_rfl)
instance : AP Try.prog 52 52 2 1 8 := .of (inf := Try.t2) (z := .int .i64 0) (e₂ := 2) (by kernel_rfl) (by kernel_rfl) (by kernel_rfl) (by kernel_rfl) (by kernel_rfl) (by kernel_rfl) (by decide) (by kernel_rfl) (by kernel_rfl)
instance : SZ Try.prog 54 3 := ⟨by kernel_rfl⟩
instance : FO Try.prog 54 0 0 := ⟨by kernel_rfl⟩
instance : FO Try.prog 54 1 1 := ⟨by kernel_rfl⟩
instance : FO Try.prog 54 2 2 := ⟨by kernel_rfl⟩
instance : ST Try.prog 54 [.int .u32 0, .slice none 0 0, .slice none 0 0] [(0, 1), (1, 1), (2, 1)] := .of (z := .agg #[.int .u32 0, .slice none 0 0, .slice none 0 0]) (fs := (match Try.prog.underlying 54 with | some (.struct fs) => fs | _ => #[])) (by kernel_rfl) (by kernel_rfl) (by kernel_rfl) (by kernel_rfl) (by kernel_rfl)
instance : CT Try.prog 55 none := ⟨by kernel_rfl⟩
instance : CT Try.prog 56 none := ⟨by kernel_rfl⟩
instance : EL Try.prog 57 (some 65536, 1) := ⟨by kernel_rfl⟩
instance : CT Try.prog 58 none := ⟨by kernel_rfl⟩
instance : SZ Try.prog 58 1 := ⟨by kernel_rfl⟩
instance : EL Try.prog 58 (none, 5) := ⟨by kernel_rfl⟩
instance : UN Try.prog 58 (.slice 99) := ⟨by kernel_rfl⟩
instance : BS Try.prog 58 99 5 (.agg #[.int .u16 0, .bool false, .int .u32 0, .slice none 0 0, .int .u16 0]) := .of (by kernel_rfl) (by kernel_rfl) (by kernel_rfl) (by kernel_rfl) (by kernel_rfl)
instance : AP Try.prog 58 58 99 5 40 := .of (inf := Try.t99) (z := .agg #[.int .u16 0, .bool false, .int .u32 0, .slice none 0 0, .int .u16 0]) (e₂ := 99) (by kernel_rfl) (by kernel_rfl) (by kernel_rfl) (by kernel_rfl) (by kernel_rfl) (by kernel_rfl) (by decide) (by kernel_rfl) (by kernel_rfl)
instance : CT Try.prog 59 none := ⟨by kernel_rfl⟩
instance : SZ Try.prog 59 1 := ⟨by kernel_rfl⟩
instance : EL Try.prog 59 (none, 4) := ⟨by kernel_rfl⟩
instance : UN Try.prog 59 (.slice 39) := ⟨by kernel_rfl⟩
instance : BS Try.prog 59 39 4 (.agg #[.int .u16 0, .bool false, .int .u32 0, .slice none 0 0]) := .of (by kernel_rfl) (by kernel_rfl) (by kernel_rfl) (by kernel_rfl) (by kernel_rfl)
instance : AP Try.prog 59 59 39 4 32 := .of (inf := Try.t39) (z := .agg #[.int .u16 0, .bool false, .int .u32 0, .slice none 0 0]) (e₂ := 39) (by kernel_rfl) (by kernel_rfl) (by kernel_rfl) (by kernel_rfl) (by kernel_rfl) (by kernel_rfl) (by decide) (by kernel_rfl) (by kernel_rfl)
instance : SZ Try.prog 61 65543 := ⟨by kernel_rfl⟩
instance : FO Try.prog 61 0 0 := ⟨by kernel_rfl⟩
instance : FO Try.prog 61 1 1 := ⟨by kernel_rfl⟩
instance : FO Try.prog 61 2 2 := ⟨by kernel_rfl⟩
instance : FO Try.prog 61 3 3 := ⟨by kernel_rfl⟩
instance : FO Try.prog 61 4 4 := ⟨by kernel_rfl⟩
instance : FO Try.prog 61 5 5 := ⟨by kernel_rfl⟩
instance : FO Try.prog 61 6 65541 := ⟨by kernel_rfl⟩
instance : FO Try.prog 61 7 65542 := ⟨by kernel_rfl⟩
instance : EL Try.prog 65 (none, 1) := ⟨by kernel_rfl⟩
instance : UN Try.prog 65 (.slice 22) := ⟨by kernel_rfl⟩
instance : BS Try.prog 65 22 1 (.int .u16 0) := .of (by kernel_rfl) (by kernel_rfl) (by kernel_rfl) (by kernel_rfl) (by kernel_rfl)
instance : AP Try.prog 65 65 22 1 2 := .of (inf := Try.t22) (z := .int .u16 0) (e₂ := 22) (by kernel_rfl) (by kernel_rfl) (by kernel_rfl) (by kernel_rfl) (by kernel_rfl) (by kernel_rfl) (by decide) (by kernel_rfl) (by kernel_rfl)
instance : CT Try.prog 66 none := ⟨by kernel_rfl⟩
instance : SZ Try.prog 66 1 := ⟨by kernel_rfl⟩
instance : EL Try.prog 66 (none, 6) := ⟨by kernel_rfl⟩
instance : UN Try.prog 66 (.slice 33) := ⟨by kernel_rfl⟩
instance : BS Try.prog 66 33 6 (.agg #[.int .u32 0, .int .u8 0, .int .u16 0, .int .u16 0, .int .u32 0, .slice none 0 0]) := .of (by kernel_rfl) (by kernel_rfl) (by kernel_rfl) (by kernel_rfl) (by kernel_rfl)
instance : AP Try.prog 66 66 33 6 40 := .of (inf := Try.t33) (z := .agg #[.int .u32 0, .int .u8 0, .int .u16 0, .int .u16 0, .int .u32 0, .slice none 0 0]) (e₂ := 33) (by kernel_rfl) (by kernel_rfl) (by kernel_rfl) (by kernel_rfl) (by kernel_rfl) (by kernel_rfl) (by decide) (by kernel_rfl) (by kernel_rfl)
instance : CT Try.prog 77 none := ⟨by kernel_rfl⟩
instance : CT Try.prog 79 none := ⟨by kernel_rfl⟩
instance : CT Try.prog 81 none := ⟨by kernel_rfl⟩
instance : CT Try.prog 82 none := ⟨by kernel_rfl⟩
instance : SZ Try.prog 84 9 := ⟨by kernel_rfl⟩
instance : FO Try.prog 84 0 0 := ⟨by kernel_rfl⟩
instance : FO Try.prog 84 1 1 := ⟨by kernel_rfl⟩
instance : FO Try.prog 84 2 2 := ⟨by kernel_rfl⟩
instance : FO Try.prog 84 3 3 := ⟨by kernel_rfl⟩
instance : FO Try.prog 84 4 4 := ⟨by kernel_rfl⟩
instance : FO Try.prog 84 5 5 := ⟨by kernel_rfl⟩
instance : FO Try.prog 84 6 6 := ⟨by kernel_rfl⟩
instance : FO Try.prog 84 7 7 := ⟨by kernel_rfl⟩
instance : FO Try.prog 84 8 8 := ⟨by kernel_rfl⟩
instance : ST Try.prog 84 [.int .u16 0, .int .i64 0, .int .i64 0, .pointer none, .pointer none, .map none, .map none, .slice none 0 0, .int .i64 0] [(0, 1), (1, 1), (2, 1), (3, 1), (4, 1), (5, 1), (6, 1), (7, 1), (8, 1)] := .of (z := .agg #[.int .u16 0, .int .i64 0, .int .i64 0, .pointer none, .pointer none, .map none, .map none, .slice none 0 0, .int .i64 0]) (fs := (match Try.prog.underlying 84 with | some (.struct fs) => fs | _ => #[])) (by kernel_rfl) (by kernel_rfl) (by kernel_rfl) (by kernel_rfl) (by kernel_rfl)
instance : SZ Try.prog 86 1 := ⟨by kernel_rfl⟩
instance : FO Try.prog 86 0 0 := ⟨by kernel_rfl⟩
instance : ST Try.prog 86 [.slice none 0 0] [(0, 1)] := .of (z := .agg #[.slice none 0 0]) (fs := (match Try.prog.underlying 86 with | some (.struct fs) => fs | _ => #[])) (by kernel_rfl) (by kernel_rfl) (by kernel_rfl) (by kernel_rfl) (by kernel_rfl)
instance : CT Try.prog 97 (some 2) := ⟨by kernel_rfl⟩
instance : SZ Try.prog 97 2 := ⟨by kernel_rfl⟩
instance : FO Try.prog 97 1 1 := ⟨by kernel_rfl⟩
instance : ST Try.prog 97 [.int .u16 0, .int .u16 0] [(0, 1), (1, 1)] := .of (z := .agg #[.int .u16 0, .int .u16 0]) (fs := (match Try.prog.underlying 97 with | some (.struct fs) => fs | _ => #[])) (by kernel_rfl) (by kernel_rfl) (by kernel_rfl) (by kernel_rfl) (by kernel_rfl)
instance : SZ Try.prog 99 5 := ⟨by kernel_rfl⟩
instance : FO Try.prog 99 0 0 := ⟨by kernel_rfl⟩
instance : FO Try.prog 99 1 4 := ⟨by kernel_rfl⟩
instance : ST Try.prog 99 [.int .u16 0, .bool false, .int .u32 0, .slice none 0 0, .int .u16 0] [(0, 4), (4, 1)] := .of (z := .agg #[.int .u16 0, .bool false, .int .u32 0, .slice none 0 0, .int .u16 0]) (fs := (match Try.prog.underlying 99 with | some (.struct fs) => fs | _ => #[])) (by kernel_rfl) (by kernel_rfl) (by kernel_rfl) (by kernel_rfl) (by kernel_rfl)
instance : CT Try.prog 102 none := ⟨by kernel_rfl⟩
instance : SZ Try.prog 104 3 := ⟨by kernel_rfl⟩
instance : FO Try.prog 104 0 0 := ⟨by kernel_rfl⟩
instance : FO Try.prog 104 1 1 := ⟨by kernel_rfl⟩
instance : FO Try.prog 104 2 2 := ⟨by kernel_rfl⟩
instance : ST Try.prog 104 [.int .u32 0, .map none, .slice none 0 0] [(0, 1), (1, 1), (2, 1)] := .of (z := .agg #[.int .u32 0, .map none, .slice none 0 0]) (fs := (match Try.prog.underlying 104 with | some (.struct fs) => fs | _ => #[])) (by kernel_rfl) (by kernel_rfl) (by kernel_rfl) (by kernel_rfl) (by kernel_rfl)
instance : CT Try.prog 105 none := ⟨by kernel_rfl⟩
instance : SZ Try.prog 107 2 := ⟨by kernel_rfl⟩
instance : FO Try.prog 107 0 0 := ⟨by kernel_rfl⟩
instance : FO Try.prog 107 1 1 := ⟨by kernel_rfl⟩
instance : ST Try.prog 107 [.map none, .int .i64 0] [(0, 1), (1, 1)] := .of (z := .agg #[.map none, .int .i64 0]) (fs := (match Try.prog.underlying 107 with | some (.struct fs) => fs | _ => #[])) (by kernel_rfl) (by kernel_rfl) (by kernel_rfl) (by kernel_rfl) (by kernel_rfl)
instance : SZ Try.prog 108 0 := ⟨by kernel_rfl⟩
instance : ST Try.prog 108 [] [] := .of (z := .agg #[]) (fs := (match Try.prog.underlying 108 with | some (.struct fs) => fs | _ => #[])) (by kernel_rfl) (by kernel_rfl) (by kernel_rfl) (by kernel_rfl) (by kernel_rfl)
instance : AL Try.prog 108 [] := ⟨by kernel_rfl⟩
instance : CT Try.prog 115 (some 2) := ⟨by kernel_rfl⟩
instance : SZ Try.prog 115 2 := ⟨by kernel_rfl⟩
instance : FO Try.prog 115 1 1 := ⟨by kernel_rfl⟩
instance : ST Try.prog 115 [.int .u16 0, .int .u16 0] [(0, 1), (1, 1)] := .of (z := .agg #[.int .u16 0, .int .u16 0]) (fs := (match Try.prog.underlying 115 with | some (.struct fs) => fs | _ => #[])) (by kernel_rfl) (by kernel_rfl) (by kernel_rfl) (by kernel_rfl) (by kernel_rfl)
instance : AL Try.prog 115 [.int .u16 0, .int .u16 0] := ⟨by kernel_rfl⟩
theorem un130 : Try.prog.underlying 130 = some (.int .u64) := by kernel_rfl
theorem un141 : Try.prog.underlying 141 = some (.int .u64) := by kernel_rfl
instance : CT Try.prog 142 none := ⟨by kernel_rfl⟩
instance : SZ Try.prog 142 1 := ⟨by kernel_rfl⟩
theorem un142 : Try.prog.underlying 142 = some (.int .u64) := by kernel_rfl
instance : AL Try.prog 142 [.int .u64 0] := ⟨by kernel_rfl⟩
instance : IC Try.prog 2 22 .u16 := .of un2 un22
instance : IC Try.prog 3 22 .u16 := .of un3 un22
instance : IC Try.prog 3 23 .u32 := .of un3 un23
instance : IC Try.prog 3 130 .u64 := .of un3 un130
instance : IC Try.prog 3 142 .u64 := .of un3 un142
instance : IC Try.prog 5 3 .i64 := .of un5 un3
instance : IC Try.prog 22 2 .i64 := .of un22 un2
instance : IC Try.prog 23 2 .i64 := .of un23 un2
instance : IC Try.prog 23 22 .u16 := .of un23 un22
instance : IC Try.prog 130 3 .i64 := .of un130 un3
instance : IC Try.prog 141 5 .u8 := .of un141 un5
instance : BY Try.prog 31 9 := ⟨⟨5, by kernel_rfl, by kernel_rfl⟩, by kernel_rfl⟩
theorem noGlobals : Try.prog.globals.size = 0 := by kernel_rfl
end Go.Proofs.Ytccbmmnkiihkaaa
namespace Go.Proofs.Ytccbmmnkiihkaaa
open Go.Sort
theorem Keeps.rf (wr : List Nat) (h : AHeap) : Keeps wr h h := ⟨Nat.le_refl _, fun _ _ _ => Eq.refl _⟩
theorem Keeps.tr {wr : List Nat} {a b c : AHeap} (h : Keeps wr a b) (k : Keeps wr b c) : Keeps wr a c := ⟨Nat.le_trans h.1 k.1, fun i hi hn => (k.2 i (by have := h.1; omega) hn).trans (h.2 i hi hn)⟩
theorem Keeps.pt {wr : List Nat} {h h' : AHeap} (k : Keeps wr h h') {b : Nat} (hb : b ∈ wr ∨ h.n ≤ b) (o : Option AObj) : Keeps wr h (h'.put b o) := ⟨k.1, fun i hi hn => by rw [AHeap.get_put_ne _ _ (fun e => by rcases hb with hb | hb; exact hn (by rw [← e]; exact hb); omega)]; exact k.2 i hi hn⟩
theorem Keeps.sm {wr : List Nat} {a b c : AHeap} (h : Keeps wr a b) (k : Same b c) : Keeps wr a c := ⟨Nat.le_trans h.1 k.1, fun i hi hn => (k.2 i (by have := h.1; omega)).trans (h.2 i hi hn)⟩
theorem Keeps.ofSame {wr : List Nat} {a b : AHeap} (k : Same a b) : Keeps wr a b := ⟨k.1, fun i hi _ => k.2 i hi⟩
theorem swp_size (d : Array Int) (i j : Nat) : (swp d i j).size = d.size := by simp [swp]
theorem scanUp_ge (p : Int → Bool) (d : Array Int) (j i : Nat) : i ≤ scanUp p d j i ∧ scanUp p d j i ≤ max i (j + 1) := by
 have key : ∀ n i, j + 1 - i ≤ n → i ≤ scanUp p d j i ∧ scanUp p d j i ≤ max i (j + 1) := by
  intro n
  induction n with
  | zero =>
   intro i h
   rw [scanUp, show decide (i ≤ j) = false from decide_eq_false (by omega), Bool.false_and, if_neg (by decide)]
   omega
  | succ n ih =>
   intro i h
   rw [scanUp]
   split
   ·
    rename_i hc
    have hij : i ≤ j := by simp only [Bool.and_eq_true, decide_eq_true_eq] at hc; exact hc.1
    have := ih (i + 1) (by omega)
    omega
   · omega
 exact key _ i (Nat.le_refl _)
theorem scanDown_le (p : Int → Bool) (d : Array Int) (i : Nat) : ∀ j, scanDown p d i j ≤ j ∧ (1 ≤ i → min j (i - 1) ≤ scanDown p d i j)
 | 0 => by rw [scanDown]; omega
 | j + 1 => by
  rw [scanDown]
  split
  ·
   rename_i hc
   have hij : i ≤ j + 1 := by simp only [Bool.and_eq_true, decide_eq_true_eq] at hc; exact hc.1
   have := scanDown_le p d i j
   omega
  · omega
theorem scanUp_stop {p : Int → Bool} {d : Array Int} {j i : Nat} (h : j < i ∨ p d[i]! = false) : scanUp p d j i = i := by
 rw [scanUp, if_neg]
 rcases h with h | h
 · simp; omega
 · simp [h]
theorem scanUp_more {p : Int → Bool} {d : Array Int} {j i : Nat} (h : i ≤ j) (hp : p d[i]! = true) : scanUp p d j i = scanUp p d j (i + 1) := by
 rw [scanUp, if_pos]
 simp [h, hp]
theorem scanDown_stop {p : Int → Bool} {d : Array Int} {j i : Nat} (h1 : 1 ≤ i) (h : j < i ∨ p d[j]! = false) : scanDown p d i j = j := by
 cases j with
 | zero => rw [scanDown]
 | succ j =>
  rw [scanDown, if_neg]
  rcases h with h | h
  · simp; omega
  · simp [h]
theorem scanDown_more {p : Int → Bool} {d : Array Int} {j i : Nat} (h1 : 1 ≤ i) (h : i ≤ j) (hp : p d[j]! = true) : scanDown p d i j = scanDown p d i (j - 1) := by
 cases j with
 | zero => omega
 | succ j => rw [scanDown, if_pos (by simp [h, hp])]; rfl
theorem scanSorted_stop {d : Array Int} {b i : Nat} (h : b ≤ i ∨ ltInt d[i]! d[i - 1]! = true) : scanSorted ltInt d b i = i := by
 rw [scanSorted, if_neg]
 rcases h with h | h
 · simp; omega
 · simp [h]
theorem scanSorted_more {d : Array Int} {b i : Nat} (h : i < b) (hp : ltInt d[i]! d[i - 1]! = false) : scanSorted ltInt d b i = scanSorted ltInt d b (i + 1) := by
 rw [scanSorted, if_pos]
 simp [h, hp]
theorem scanSorted_ge (d : Array Int) (b i : Nat) : i ≤ scanSorted ltInt d b i ∧ scanSorted ltInt d b i ≤ max i b := by
 have key : ∀ n i, b - i ≤ n → i ≤ scanSorted ltInt d b i ∧ scanSorted ltInt d b i ≤ max i b := by
  intro n
  induction n with
  | zero =>
   intro i h
   rw [scanSorted_stop (.inl (by omega))]
   omega
  | succ n ih =>
   intro i h
   rw [scanSorted]
   split
   ·
    rename_i hc
    have hij : i < b := by simp only [Bool.and_eq_true, decide_eq_true_eq] at hc; exact hc.1
    have := ih (i + 1) (by omega)
    omega
   · omega
 exact key _ i (Nat.le_refl _)
theorem shiftDown_stop {d : Array Int} {j : Nat} (h : j = 0 ∨ ltInt d[j]! d[j - 1]! = false) : shiftDown ltInt j d = d := by
 cases j with
 | zero => rfl
 | succ j =>
  rcases h with h | h
  · omega
  · rw [shiftDown, show ltInt d[j + 1]! d[j]! = false from h]; rfl
theorem shiftDown_more {d : Array Int} {j : Nat} (h0 : 0 < j) (h : ltInt d[j]! d[j - 1]! = true) : shiftDown ltInt j d = shiftDown ltInt (j - 1) (swp d j (j - 1)) := by
 cases j with
 | zero => omega
 | succ j => rw [shiftDown, show ltInt d[j + 1]! d[j]! = true from h]; rfl
theorem shiftUp_stop {d : Array Int} {b j : Nat} (h : b ≤ j ∨ ltInt d[j]! d[j - 1]! = false) : shiftUp ltInt b j d = d := by
 rw [shiftUp]
 split
 ·
  rename_i hj
  rcases h with h | h
  · omega
  · rw [h]; rfl
 · rfl
theorem shiftUp_more {d : Array Int} {b j : Nat} (h0 : j < b) (h : ltInt d[j]! d[j - 1]! = true) : shiftUp ltInt b j d = shiftUp ltInt b (j + 1) (swp d j (j - 1)) := by
 rw [shiftUp, if_pos h0, h]; rfl
end Go.Proofs.Ytccbmmnkiihkaaa
namespace Go.Proofs.Ytccbmmnkiihkaaa
set_option maxRecDepth 100000
attribute [local irreducible] Go GoR GoL
theorem aEq_rowNil9 {P : Program} {h : AHeap} {t e : TypeId} (hu : P.underlying t = some (.slice e)) (a : Option Addr) (l c : Nat) : aEq P h t (.slice a l c) (.slice none 0 0) = some (a.isNone, []) := by
 unfold aEq
 rw [hu]
 cases a <;> rfl
theorem aEq_ptrNil9 {P : Program} {h : AHeap} {t e : TypeId} (hu : P.underlying t = some (.pointer e)) (a : Addr) : aEq P h t (.pointer (some a)) (.pointer none) = some (false, []) := by
 unfold aEq
 rw [hu]
theorem bytesU9 : Try.prog.underlying 31 = some (.slice 5) := by kernel_rfl
theorem joinU : Try.prog.underlying 79 = some (.pointer 107) := by kernel_rfl
set_option maxHeartbeats 4000000 in
theorem bclone_spec (a : Option Addr) (cap : Nat) (zs : List UInt8) (hl : zs.length ≤ 1000000000) (h : AHeap) (hz : Rv Try.prog h 1 a zs.length cap (zs.map bv)) : CallS Try.prog [] 53 [.slice a zs.length cap] h fun v h' => ∃ b c, v = .slice b zs.length c ∧ Sv h' 5 1 b zs.length c (zs.map bv) ∧ Own h.n b := by
 have hone : (zs.map bv).all Value.oneCell' = true := by simp [bv, Value.oneCell']
 generalize hlen : zs.length = len at *
 cases a with
 | none =>
  obtain ⟨rfl, rfl⟩ : len = 0 ∧ cap = 0 := by
   generalize zs.map bv = cs at hz
   cases hz
   exact ⟨rfl, rfl⟩
  obtain rfl : zs = [] := List.eq_nil_of_length_eq_zero hlen
  (refine CallS.of1 Try.func53 rfl Try.ntmps53 Try.results53 rfl ?_)
  (refine Go.run (g:=?_))
  refine GoR.eqRef rfl rfl rfl rfl (.inl rfl) rfl rfl (aEq_rowNil9 bytesU9 _ _ _) ?_
  (refine Go.run (g:=?_))
  (first|refine Go.finA rfl ?_|refine Go.finB rfl (hq:=?_))
  exact ⟨none, 0, rfl, .nil, Own.nil _⟩
 | some a =>
  (refine CallS.of1 Try.func53 rfl Try.ntmps53 Try.results53 rfl ?_)
  (refine Go.run (g:=?_))
  refine GoR.eqRef rfl rfl rfl rfl (.inl rfl) rfl rfl (aEq_rowNil9 bytesU9 _ _ _) ?_
  (refine Go.run (g:=?_))
  refine GoR.buildO (c := []) rfl rfl rfl rfl rfl (by decide) (by rfl) (by rfl) ?_
  intro b h1 hb ob s1 n1
  (refine Go.run (g:=?_))
  refine GoR.appendV rfl rfl rfl rfl rfl rfl hb (hz.same s1) (Own.ok ob (by omega)) (by omega) (by omega) hone ?_
  intro b2 c2 h2 hb2 k2 o2
  (refine Go.run (g:=?_))
  (first|refine Go.finA rfl ?_|refine Go.finB rfl (hq:=?_))
  subst hlen
  rw [Nat.zero_add] at hb2 ⊢
  exact ⟨b2, c2, rfl, hb2, fun i hi => (o2 i hi).elim (ob i) fun q => by omega⟩
set_option maxHeartbeats 4000000 in
theorem alike_spec (q p : PV) (qb : PB q) (pb : PB p) (n3 : Nat) (h : AHeap) (g : h.get n3 = some (.cells (pC p) 33)) : CallS Try.prog [] 54 [pV q, .pointer (some ⟨n3, 0, none⟩)] h fun v h' => v = .bool (alikeB q p) := by
 obtain ⟨b1, b2, b3, b4, b5⟩ := qb
 obtain ⟨c1, c2, c3, c4, c5⟩ := pb
 have hx : (q.fl ^^^ p.fl) < 2 ^ 8 := Nat.xor_lt_two_pow b2 c2
 have hlt := AHeap.lt g
 unfold alikeB
 obtain ⟨t, fl, sid, ssn, ppid, a, cap, z⟩ := q
 obtain ⟨t', fl', sid', ssn', ppid', a', cap', z'⟩ := p
 simp only [pC, pV] at *
 (refine CallS.of2 Try.func54 rfl Try.ntmps54 Try.results54 rfl ?_)
 (refine Go.run (g:=?_))
 by_cases e1 : sid = sid'
 case neg =>
  rw [decide_eq_false e1, Bool.false_and]
  (refine Go.run (g:=?_))
  (first|refine Go.finA rfl ?_|refine Go.finB rfl (hq:=?_))
  rfl
 by_cases e2 : ssn = ssn'
 case neg =>
  rw [decide_eq_true e1, decide_eq_false e2, Bool.true_and, Bool.false_and]
  (refine Go.run (g:=?_))
  (first|refine Go.finA rfl ?_|refine Go.finB rfl (hq:=?_))
  rfl
 rw [decide_eq_true e1, decide_eq_true e2, Bool.true_and, Bool.true_and]
 (refine Go.run (g:=?_))
 refine GoR.xorN rfl rfl rfl rfl rfl rfl b2 c2 ?_
 generalize fl ^^^ fl' = x at *
 (refine Go.run (g:=?_))
 refine GoR.andN (i := x) (j := 4) rfl rfl rfl rfl rfl rfl hx (by decide) ?_
 (refine Go.run (g:=?_))
 (first|refine Go.finA rfl ?_|refine Go.finB rfl (hq:=?_))
 exact congrArg Value.bool (decide_eq_decide.2 (by omega))
structure FJ (h : AHeap) (jb mr : Nat) (l : List PV) (n0 : Nat) : Prop where
 jc : h.get jb = some (.cells [.map (some mr), .int .i64 (heldN l : Nat)] 107)
 mp : SMap h mr .u32 (pm l)
 dv : ∀ p ∈ l, Sv h 5 1 p.a p.z.length p.cap (p.z.map bv)
 pb : ∀ p ∈ l, PB p
 ow : n0 ≤ jb ∧ n0 ≤ mr
theorem FJ.same {h h' : AHeap} {jb mr : Nat} {l : List PV} {n0 : Nat} (j : FJ h jb mr l n0) (s : Same h h') : FJ h' jb mr l n0 := { j with jc := s.get j.jc, mp := j.mp.same s, dv := fun p hp => (j.dv p hp).same s }
theorem sv_notIn {h : AHeap} {a : Option Addr} {len cap : Nat} {cs : List Value} (k : Sv h 5 1 a len cap cs) {j : Nat} {o : AObj} (g : h.get j = some o) (ho : ∀ c, o ≠ .cells c 5) : j ∉ blk a := by
 intro hj
 cases k with
 | nil => cases hj
 | mk hg _ _ _ =>
  simp only [blk, List.mem_singleton] at hj
  subst hj
  rw [g] at hg
  cases hg
  exact ho _ rfl
theorem FJ.jm {h : AHeap} {jb mr : Nat} {l : List PV} {n0 : Nat} (j : FJ h jb mr l n0) : jb ≠ mr := fun e => by
 obtain ⟨es, ck, g, -⟩ := j.mp
 have := j.jc
 rw [e, g] at this
 cases this
theorem FJ.dj {h : AHeap} {jb mr : Nat} {l : List PV} {n0 : Nat} (j : FJ h jb mr l n0) {p : PV} (hp : p ∈ l) : jb ∉ blk p.a := sv_notIn (j.dv p hp) j.jc fun c e => by
 cases e
theorem FJ.dm {h : AHeap} {jb mr : Nat} {l : List PV} {n0 : Nat} (j : FJ h jb mr l n0) {p : PV} (hp : p ∈ l) : mr ∉ blk p.a := by
 obtain ⟨es, ck, g, -⟩ := j.mp
 exact sv_notIn (j.dv p hp) g fun c e => by cases e
theorem FJ.kept {h h' : AHeap} {jb mr : Nat} {l : List PV} {n0 : Nat} {wr : List Nat} (j : FJ h jb mr l n0) (k : Keeps wr h h') (h1 : jb ∉ wr) (h2 : mr ∉ wr) (h3 : ∀ p ∈ l, ∀ i ∈ blk p.a, i ∉ wr) : FJ h' jb mr l n0 := { j with jc := k.get j.jc h1, mp := j.mp.keeps k h2, dv := fun p hp => (j.dv p hp).keeps k (h3 p hp) }
instance miKept : MI Try.prog 105 .u32 (.agg #[.int .u32 0, .int .u8 0, .int .u16 0, .int .u16 0, .int .u32 0, .slice none 0 0]) := ⟨23, 33, by kernel_rfl, by kernel_rfl, by kernel_rfl, rfl, fun em n => by kernel_rfl⟩
set_option maxHeartbeats 4000000 in
theorem fnew_spec (h : AHeap) : CallS Try.prog [] 31 [] h fun v h' => ∃ jb mr, v = .pointer (some ⟨jb, 0, none⟩) ∧ FJ h' jb mr [] h.n := by
 (refine CallS.of0 Try.func31 rfl Try.ntmps31 Try.results31 rfl ?_)
 (refine Go.run (g:=?_))
 refine GoR.makeMapI rfl rfl rfl rfl ?_
 intro h1 M1 s1 n1
 (refine Go.run (g:=?_))
 refine Go.name ?_
 intro h2 e2
 have s2 : Same h1 h2 := by subst e2; exact (Same.refl h1).push _
 have g2 : h2.get h1.n = some (.cells [.map (some h.n), .int .i64 (0 : Nat)] 107) := by subst e2; exact AHeap.get_push_same _ _
 clear e2
 (first|refine Go.finA rfl ?_|refine Go.finB rfl (hq:=?_))
 exact ⟨_, _, rfl, g2, (M1 _).same s2, (fun p hp => by cases hp), (fun p hp => by cases hp), ⟨by omega, Nat.le_refl _⟩⟩
set_option maxHeartbeats 4000000 in
theorem fheld_spec (jb mr : Nat) (l : List PV) (n0 : Nat) (h : AHeap) (J : FJ h jb mr l n0) : CallS Try.prog [] 49 [.pointer (some ⟨jb, 0, none⟩)] h fun v h' => v = .int .i64 (heldN l : Nat) ∧ h' = h := by
 have gs := J.jc
 (refine CallS.of1 Try.func49 rfl Try.ntmps49 Try.results49 rfl ?_)
 (refine Go.run (g:=?_))
 refine GoR.eqRef rfl rfl rfl rfl (.inl rfl) rfl rfl (aEq_ptrNil9 joinU _) ?_
 (refine Go.run (g:=?_))
 (first|refine Go.finA rfl ?_|refine Go.finB rfl (hq:=?_))
 exact ⟨rfl, rfl⟩
end Go.Proofs.Ytccbmmnkiihkaaa
namespace Go.Proofs.Ytccbmmnkiihkaaa
set_option maxRecDepth 100000
attribute [local irreducible] Go GoR GoL
theorem add32p (t : Nat) : iBin .add .u32 (t : Int) ((1 : Nat) : Int) = some (.int .u32 ((nxt32 t : Nat) : Int)) := by
 have q : ((nxt32 t : Nat) : Int) = ((t : Int) + 1) % 4294967296 := by unfold nxt32; omega
 simp [iBin, IntKind.wrap, IntKind.bits, IntKind.signed, q]
theorem sub32p (t : Nat) : iBin .sub .u32 (t : Int) ((1 : Nat) : Int) = some (.int .u32 ((prev32 t : Nat) : Int)) := by
 have q : ((prev32 t : Nat) : Int) = ((t : Int) - 1) % 4294967296 := by unfold prev32; omega
 simp [iBin, IntKind.wrap, IntKind.bits, IntKind.signed, q]
abbrev zP : Value := .agg #[.int .u32 0, .int .u8 0, .int .u16 0, .int .u16 0, .int .u32 0, .slice none 0 0]
abbrev zM : List Value := [.int .u16 0, .bool false, .int .u32 0, .slice none 0 0]
theorem putN_there {l : List PV} {p q : PV} (h : pf l p.t = some q) : putN l p = (l, none) := by unfold putN; rw [h]
def PutV (h : AHeap) (n0 : Nat) (ssn : Nat) (v : Value) : Option MS → Prop
 | none => v = .tuple #[.agg zM.toArray, .int .u16 0, .bool false]
 | some (sid, un, ppid, D) => ∃ a cap, v = .tuple #[.agg #[.int .u16 (sid : Nat), .bool un, .int .u32 (ppid : Nat), .slice a D.length cap], .int .u16 (ssn : Nat), .bool true] ∧ Sv h 5 1 a D.length cap (D.map bv) ∧ Own n0 a
set_option maxHeartbeats 64000000 in
theorem put_spec (jb mr : Nat) (l : List PV) (n0 : Nat) (p : PV) (pb : PB p) (hl : l.length ≤ 1000000) (hh : heldN l + p.z.length ≤ 1000000000) (h : AHeap) (hn0 : n0 ≤ h.n) (J : FJ h jb mr l n0) (hz : Rv Try.prog h 1 p.a p.z.length p.cap (p.z.map bv)) : CallS Try.prog [jb, mr] 38 [.pointer (some ⟨jb, 0, none⟩), pV p] h fun v h' => ∃ a' cap', FJ h' jb mr (putN l { p with a := a', cap := cap' }).1 n0 ∧ PutV h' h.n p.ssn v (putN l { p with a := a', cap := cap' }).2 := by
 obtain ⟨b1, b2, b3, b4, b5⟩ := pb
 have gs := J.jc
 have hlt := AHeap.lt gs
 have hmr := J.mp.lt
 (refine CallS.of2 Try.func38 rfl Try.ntmps38 Try.results38 rfl ?_)
 simp only [pV, pC]
 (refine Go.run (g:=?_))
 refine GoR.eqRef rfl rfl rfl rfl (.inl rfl) rfl rfl (aEq_ptrNil9 joinU _) ?_
 refine Go.runN (g:=?_)
 refine Go.name ?_
 intro h1 e1
 have g3 : h1.get h.n = some (.cells (pC p) 33) := by subst e1; exact hg_
 have g4 : h1.get (h.n + 1) = some (.cells zM 39) := by subst e1; exact hg_
 have s1 : Same h h1 := by subst e1; exact ((Same.refl h).push _).push _
 have n1 : h1.n = h.n + 2 := by subst e1; rfl
 clear e1
 have J1 := J.same s1
 have gs1 := J1.jc
 simp only [pC] at g3
 clear gs J
 refine Go.kk 2 rfl ?_
 refine Go.loud (by kernel_rfl) rfl ?_
 (refine Go.runL (g:=?_))
 refine GoL.lookup2 rfl rfl rfl rfl rfl rfl J1.mp.imap ?_
 rw [al_pm]
 cases hpf : pf l p.t with
 | some q =>
  simp only [Option.map_some, Option.getD_some, Option.isSome_some, pV, pC]
  (refine Go.runL (g:=?_))
  refine GoL.st (g:=?_)
  (refine Go.runL (g:=?_))
  refine GoL.endN (g:=?_)
  refine Go.name ?_
  intro h2 e2
  have s2 : Same h1 h2 := by subst e2; exact ((Same.refl h1).push _).put (Nat.le_refl _) _
  have n2 := s2.1
  clear e2
  have J2 := J1.same s2
  have g42 := s2.get g4
  clear J1 g4 gs1 g3
  (refine Go.run (g:=?_))
  refine Go.name ?_
  intro h3 e3
  have k3 : Keeps [h.n + 1] h2 h3 := by subst e3; exact (Keeps.rf _ _).pt (.inl (by simp)) _
  have g43 : h3.get (h.n + 1) = some (.cells zM 39) := by subst e3; exact get_put_self g42
  clear e3
  have hjn : jb ≠ h.n + 1 := by omega
  have J3 := J2.kept k3 (by simp; omega) (by simp; omega) (fun p hp i hi hm => by
   simp only [List.mem_singleton] at hm
   subst hm
   exact sv_notIn (J2.dv p hp) g42 (fun c e => by cases e) hi)
  (refine Go.fin (by first|exact .inr rfl|exact .inl rfl) (.cellN rfl inferInstance hg_ (by first | exact Nat.le_refl _ | (simp [setL, cellsL]; fail_if_success focus skip) | (simp; omega)) rfl (.tmp rfl (.tmp rfl .nil))) ?_)
  have hpp : putN l { p with a := p.a, cap := p.cap } = (l, none) := putN_there hpf
  refine ⟨p.a, p.cap, ?_, ?_⟩
  · rw [hpp]; exact J3
  · rw [hpp]; rfl
 | none =>
  simp only [Option.map_none, Option.getD_none, Option.isSome_none]
  (refine Go.runL (g:=?_))
  refine GoL.st (g:=?_)
  (refine Go.runL (g:=?_))
  refine GoL.endN (g:=?_)
  refine Go.name ?_
  intro h2 e2
  have s2 : Same h1 h2 := by subst e2; exact ((Same.refl h1).push _).put (Nat.le_refl _) _
  have n2 := s2.1
  clear e2
  have J2 := J1.same s2
  have g32 := s2.get g3
  have g42 := s2.get g4
  have gs2 := J2.jc
  have hz2 := hz.same (s1.trans s2)
  clear J1 g4 gs1 g3
  (refine Go.run (g:=?_))
  refine GoR.call rfl rfl rfl rfl rfl rfl rfl (((bclone_spec p.a p.cap p.z (by omega) _ hz2).argA).mono ?_)
  rintro _ h3 ⟨a3, cap3, rfl, S3, O3⟩ s3
  have J3 := J2.same s3
  have g33 := s3.get g32
  have g43 := s3.get g42
  have n3 := s3.1
  clear J2 g32 g42 gs2 hz2 hz
  refine Go.runN (g:=?_)
  refine Go.name ?_
  intro h4 e4
  have k4 : Keeps [h.n] h3 h4 := by subst e4; exact (Keeps.rf _ _).pt (.inl (by simp)) _
  have g34 : h4.get h.n = some (.cells [.int .u32 p.t, .int .u8 p.fl, .int .u16 p.sid, .int .u16 p.ssn, .int .u32 p.ppid, .slice a3 p.z.length cap3] 33) := by subst e4; exact get_put_self g33
  have n4 : h4.n = h3.n := by subst e4; rfl
  clear e4
  obtain ⟨p', hp'⟩ : ∃ p' : PV, p' = { p with a := a3, cap := cap3 } := ⟨_, rfl⟩
  have pb' : PB p' := by subst hp'; exact ⟨b1, b2, b3, b4, b5⟩
  have pt' : p'.t = p.t := by subst hp'; rfl
  have hJmr := J3.mp.lt
  have J4 := J3.kept k4 (by simp; omega) (by simp; omega) (fun p hp i hi hm => by
   simp only [List.mem_singleton] at hm
   subst hm
   exact sv_notIn (J3.dv p hp) g33 (fun c e => by cases e) hi)
  have S4 := S3.keeps k4 (fun i hi hm => by
   simp only [List.mem_singleton] at hm
   subst hm
   exact sv_notIn S3 g33 (fun c e => by cases e) hi)
  have g44 := k4.get g43 (by simp)
  have gs4 := J4.jc
  have hjm := J4.jm
  clear J3 S3 g33 g43 k4
  refine Go.kk 2 rfl ?_
  refine Go.loud (by kernel_rfl) rfl ?_
  (refine Go.runL (g:=?_))
  refine GoL.mapUpdateS (.inl rfl) rfl rfl rfl rfl rfl J4.mp (.inl (by simp)) ?_
  intro h5 M5 k5 n5
  have hdis : ∀ b ∈ [mr], b ≠ h.n ∧ b ≠ jb := fun b hb => by simp only [List.mem_singleton] at hb; omega
  have hdis2 := hdis
  (refine Go.runL (g:=?_))
  refine GoL.endC (g:=?_)
  clear hdis hdis2
  have hpf' : pf l p'.t = none := by rw [pt']; exact hpf
  have M5' : SMap h5 mr .u32 (pm (l ++ [p'])) := by
   rw [← aset_pm l p' hpf']
   subst hp'
   exact M5
  have gs5 := k5.get gs4 (by simp; exact hjm)
  have dv5 : ∀ q ∈ l ++ [p'], Sv h5 5 1 q.a q.z.length q.cap (q.z.map bv) := fun q hq => by
   rcases List.mem_append.1 hq with hq | hq
   · exact (J4.dv q hq).keeps k5 (fun i hi hm => by simp only [List.mem_singleton] at hm; subst hm; exact J4.dm hq hi)
   ·
    simp only [List.mem_singleton] at hq
    subst hq hp'
    obtain ⟨es, ck, gm, -⟩ := J4.mp
    exact S4.keeps k5 (fun i hi hm => by simp only [List.mem_singleton] at hm; subst hm; exact sv_notIn S4 gm (fun c e => by cases e) hi)
  have g35 := k5.get g34 (by simp; omega)
  have g45 := k5.get g44 (by simp; omega)
  have pb5 : ∀ q ∈ l ++ [p'], PB q := fun q hq => by
   rcases List.mem_append.1 hq with hq | hq
   · exact J4.pb q hq
   · simp only [List.mem_singleton] at hq; subst hq; exact pb'
  have how := J4.ow
  clear M5 J4 S4 gs4 g34 g44 k5
  refine Go.runN (g:=?_)
  refine Go.kk 2 rfl ?_
  refine Go.loud (by kernel_rfl) rfl ?_
  (refine Go.runL (g:=?_))
  refine GoL.st (g:=?_)
  (refine Go.runL (g:=?_))
  refine GoL.endN (g:=?_)
  refine Go.name ?_
  intro h6 e6
  have k6 : Keeps [jb] h5 h6 := by subst e6; exact (Keeps.rf _ _).pt (.inl (by simp)) _
  have gs6 : h6.get jb = some (.cells [.map (some mr), .int .i64 (heldN l + p.z.length : Nat)] 107) := by subst e6; exact get_put_self gs5
  have n6 : h6.n = h5.n := by subst e6; rfl
  clear e6
  have hz' : p'.z = p.z := by subst hp'; rfl
  have J6 : FJ h6 jb mr (l ++ [p']) n0 := ⟨by rw [held_snoc, hz']; exact gs6, M5'.keeps k6 (by simp; exact Ne.symm hjm), fun q hq => (dv5 q hq).keeps k6 (fun i hi hm => by simp only [List.mem_singleton] at hm; subst hm; exact sv_notIn (dv5 q hq) gs5 (fun c e => by cases e) hi), pb5, how⟩
  have g36 : h6.get h.n = some (.cells (pC p') 33) := by subst hp'; exact k6.get g35 (by simp; omega)
  have g46 := k6.get g45 (by simp; omega)
  clear M5' dv5 gs5 g35 g45 k6 pb5 gs6
  have l1l : (l ++ [p']).length = l.length + 1 := by simp
  have h1h : heldN (l ++ [p']) ≤ 1000000000 := by rw [held_snoc, hz']; exact hh
  have hput : ∀ r, (match backN (l ++ [p']) p' (l.length + 1) p' with
   | none => (l ++ [p'], none)
   | some f => match fwdN (l ++ [p']) p' (l.length + 1) p' with
    | none => (l ++ [p'], none)
    | some g => ((gat (gone f.t g.t) f.t (l ++ [p']) []).2, some (f.sid, decide (¬ f.fl &&& 4 = 0), f.ppid, (gat (gone f.t g.t) f.t (l ++ [p']) []).1))) = r → putN l p' = r := fun r hr => by unfold putN; rw [hpf']; exact hr
  have hpm : p' ∈ l ++ [p'] := by simp
  have hssn : p'.ssn = p.ssn := by subst hp'; rfl
  clear hz' hpf hpf' pt' b1 b2 b3 b4 b5 hh
  generalize l ++ [p'] = l1 at *
  refine Go.runN (g:=?_)
  refine Go.kk 2 rfl ?_
  refine Go.loud (by kernel_rfl) rfl ?_
  simp only [pC] at g36
  (refine Go.runL (g:=?_))
  refine GoL.st (g:=?_)
  (refine Go.runL (g:=?_))
  refine GoL.st (g:=?_)
  (refine Go.runL (g:=?_))
  refine GoL.endN (g:=?_)
  refine Go.name ?_
  intro h7 e7
  have s7 : Same h6 h7 := by subst e7; exact ((((Same.refl h6).push _).push _).put (Nat.le_refl _) _).put (by simp only [AHeap.n_push]; omega) _
  have g10 : h7.get h6.n = some (.cells (pC p') 33) := by subst e7; simp only [pC]; exact hg_
  have g11 : h7.get (h6.n + 1) = some (.cells (pC p') 33) := by subst e7; simp only [pC]; exact hg_
  have n7 : h7.n = h6.n + 2 := by subst e7; rfl
  clear e7
  have J7 := J6.same s7
  have g37 := s7.get g36
  have g47 := s7.get g46
  have hJ7 := J7.mp.lt
  have hjlt := AHeap.lt J7.jc
  have hL : ∀ q ∈ l1, PB q := J7.pb
  clear J6 g36 g46 s7
  simp only [AHeap.n_push]
  (refine Go.run (g:=?_))
  obtain ⟨T, hT⟩ : ∃ T, T = backN l1 p' (l.length + 1) p' := ⟨_, rfl⟩
  rw [← hT] at hput
  have hpk : ∀ i j k : Nat, k ≤ 1000001 → i ≤ k → j ≤ k → (p'.t + 4294967296 - i) % 4294967296 = (p'.t + 4294967296 - j) % 4294967296 → i = j := fun i j k hk hi hj e => by omega
  refine Go.loop (α := Nat × Nat × PV × AHeap) (fun _ => [(10, .pointer (some ⟨h6.n, 0, none⟩)), (11, .pointer (some ⟨h6.n + 1, 0, none⟩)), (9, .func (.func 54) #[] #[.pointer (some ⟨h.n, 0, none⟩)]), (3, .pointer (some ⟨h.n, 0, none⟩)), (4, .pointer (some ⟨h.n + 1, 0, none⟩)), (0, .pointer (some ⟨jb, 0, none⟩))]) (fun _ => []) (fun x => x.2.2.2) (fun x => FJ x.2.2.2 jb mr l1 n0 ∧ x.2.2.2.get h.n = some (.cells (pC p') 33) ∧ x.2.2.2.get (h.n + 1) = some (.cells zM 39) ∧ x.2.2.2.get h6.n = some (.cells (pC x.2.2.1) 33) ∧ x.2.2.2.get (h6.n + 1) = some (.cells (pC p') 33) ∧ h7.n ≤ x.2.2.2.n ∧ backN l1 p' x.1 x.2.2.1 = T ∧ x.1 + x.2.1 = l.length + 1 ∧ PB x.2.2.1 ∧ x.2.2.1.t = (p'.t + 4294967296 - x.2.1) % 4294967296 ∧ ∀ i, i ≤ x.2.1 → (p'.t + 4294967296 - i) % 4294967296 ∈ l1.map (·.t)) (fun x => x.1) (l.length + 1, 0, p', h7) ⟨J7, by simpa only [pC] using g37, g47, g10, g11, Nat.le_refl _, hT.symm, rfl, pb', by have := pb'.t; simp only; omega, fun i hi => ?_⟩ ⟨rfl, rfl, rfl, rfl, rfl, rfl, trivial⟩ rfl rfl ?_
  ·
   obtain rfl : i = 0 := by simp only at hi; omega
   have := pb'.t
   rw [show (p'.t + 4294967296 - 0) % 4294967296 = p'.t by omega]
   exact List.mem_map_of_mem hpm
  clear J7 g37 g47 g10 g11 hT
  rintro ⟨n, k, f, H⟩ ⟨J, g3, g4, g10, g11, nH, hT, hnk, fb, ft, hk⟩
  simp only at J g3 g4 g10 g11 nH hT hnk fb ft hk ⊢
  have hpos : 0 < n := by
   rcases Nat.eq_zero_or_pos n with h0 | h0
   ·
    have := steps_le (g := fun i => (p'.t + 4294967296 - i) % 4294967296) (k := k) (K := l1.map (·.t)) (fun i j hi hj e => hpk i j k (by omega) hi hj e) hk
    rw [List.length_map] at this
    omega
   · exact h0
  obtain ⟨n, rfl⟩ : ∃ m, n = m + 1 := ⟨n - 1, by omega⟩
  have f8 := fb.fl
  have gsH := J.jc
  have bT := hT
  rw [backN_succ] at bT
  simp only [pC] at g10
  have hjH := AHeap.lt gsH
  have hmH := J.mp.lt
  by_cases hf2 : f.fl &&& 2 = 0
  ·
   rw [if_pos hf2] at bT
   (refine Go.run (g:=?_))
   refine GoR.andN (i := f.fl) (j := 2) rfl rfl rfl rfl rfl rfl f8 (by decide) ?_
   rw [hf2]
   refine Go.runN (g:=?_)
   refine Go.kk 2 rfl ?_
   refine Go.loud (by kernel_rfl) rfl ?_
   (refine Go.runL (g:=?_))
   refine GoL.bin rfl rfl rfl rfl rfl rfl (sub32p f.t) ?_
   (refine Go.runL (g:=?_))
   refine GoL.lookup2 rfl rfl rfl rfl rfl rfl J.mp.imap ?_
   rw [al_pm]
   cases hq : pf l1 (prev32 f.t) with
   | none =>
    rw [hq] at bT
    have hret : putN l p' = (l1, none) := hput _ (by rw [← bT])
    simp only [Option.map_none, Option.getD_none, Option.isSome_none]
    (refine Go.runL (g:=?_))
    refine GoL.st (g:=?_)
    (refine Go.runL (g:=?_))
    refine GoL.endN (g:=?_)
    refine Go.name ?_
    intro H2 e2
    have s2 : Same H H2 := by subst e2; exact ((Same.refl H).push _).put (Nat.le_refl _) _
    have n2 := s2.1
    clear e2
    have Jr := J.same s2
    have gr := s2.get g4
    clear J g4 g10 g11 g3 gsH
    (refine Go.run (g:=?_))
    refine Go.name ?_
    intro h9 e9
    have k9 : Keeps [h.n + 1] H2 h9 := by subst e9; exact (Keeps.rf _ _).pt (.inl (by simp)) _
    have J9 := Jr.kept k9 (by simp; omega) (by simp; omega) (fun p hp i hi hm => by
     simp only [List.mem_singleton] at hm
     subst hm
     exact sv_notIn (Jr.dv p hp) gr (fun c e => by cases e) hi)
    have g49 : h9.get (h.n + 1) = some (.cells zM 39) := by subst e9; exact get_put_self gr
    clear e9 k9 gr Jr
    (refine Go.fin (by first|exact .inr rfl|exact .inl rfl) (.cellN rfl inferInstance hg_ (by first | exact Nat.le_refl _ | (simp [setL, cellsL]; fail_if_success focus skip) | (simp; omega)) rfl (.tmp rfl (.tmp rfl .nil))) ?_)
    refine ⟨a3, cap3, ?_, ?_⟩
    · rw [← hp', hret]; exact J9
    · rw [← hp', hret]; rfl
   | some q =>
    rw [hq] at bT
    simp only at bT
    obtain ⟨qm, qt⟩ := pf_mem hq
    have qb := hL q qm
    have q8 := qb.fl
    simp only [Option.map_some, Option.getD_some, Option.isSome_some, pV, pC]
    (refine Go.runL (g:=?_))
    refine GoL.st (g:=?_)
    (refine Go.runL (g:=?_))
    refine GoL.endN (g:=?_)
    refine Go.name ?_
    intro H2 e2
    have s2 : Same H H2 := by subst e2; exact ((Same.refl H).push _).put (Nat.le_refl _) _
    have g12 : H2.get H.n = some (.cells (pC q) 33) := by subst e2; simp only [pC]; exact hg_
    have n2 : H2.n = H.n + 1 := by subst e2; rfl
    clear e2
    have Jr := J.same s2
    have gr := s2.get g4
    have g32 := s2.get g3
    have g102 := s2.get g10
    have g112 := s2.get g11
    simp only [pC] at g12
    clear J g4 g10 g11 g3 gsH s2
    (refine Go.run (g:=?_))
    refine GoR.call rfl rfl rfl rfl rfl rfl rfl (((alike_spec q p' qb pb' h.n _ g32).argA).mono ?_)
    rintro _ H3 rfl s3
    have n3' := s3.1
    have Jr := Jr.same s3
    have gr := s3.get gr
    have g33 := s3.get g32
    have g103 := s3.get g102
    have g113 := s3.get g112
    have g123 := s3.get g12
    clear g32 g102 g112 g12 s3
    cases hal : alikeB q p' with
    | false =>
     have hret : putN l p' = (l1, none) := hput _ (by rw [← bT, if_neg (by simp [hal])])
     clear g33 g103 g113 g123
     (refine Go.run (g:=?_))
     refine Go.name ?_
     intro h9 e9
     have k9 : Keeps [h.n + 1] H3 h9 := by subst e9; exact (Keeps.rf _ _).pt (.inl (by simp)) _
     have J9 := Jr.kept k9 (by simp; omega) (by simp; omega) (fun p hp i hi hm => by
      simp only [List.mem_singleton] at hm
      subst hm
      exact sv_notIn (Jr.dv p hp) gr (fun c e => by cases e) hi)
     have g49 : h9.get (h.n + 1) = some (.cells zM 39) := by subst e9; exact get_put_self gr
     clear e9 k9 gr Jr
     (refine Go.fin (by first|exact .inr rfl|exact .inl rfl) (.cellN rfl inferInstance hg_ (by first | exact Nat.le_refl _ | (simp [setL, cellsL]; fail_if_success focus skip) | (simp; omega)) rfl (.tmp rfl (.tmp rfl .nil))) ?_)
     refine ⟨a3, cap3, ?_, ?_⟩
     · rw [← hp', hret]; exact J9
     · rw [← hp', hret]; rfl
    | true =>
     (refine Go.run (g:=?_))
     refine GoR.andN (i := q.fl) (j := 1) rfl rfl rfl rfl rfl rfl q8 (by decide) ?_
     generalize q.fl &&& 1 = w1 at *
     by_cases hq1 : w1 = 0
     case neg =>
      have hret : putN l p' = (l1, none) := hput _ (by rw [← bT, if_neg (fun e => hq1 e.2)])
      clear g33 g103 g113 g123
      (refine Go.run (g:=?_))
      refine Go.name ?_
      intro h9 e9
      have k9 : Keeps [h.n + 1] H3 h9 := by subst e9; exact (Keeps.rf _ _).pt (.inl (by simp)) _
      have J9 := Jr.kept k9 (by simp; omega) (by simp; omega) (fun p hp i hi hm => by
       simp only [List.mem_singleton] at hm
       subst hm
       exact sv_notIn (Jr.dv p hp) gr (fun c e => by cases e) hi)
      have g49 : h9.get (h.n + 1) = some (.cells zM 39) := by subst e9; exact get_put_self gr
      clear e9 k9 gr Jr
      (refine Go.fin (by first|exact .inr rfl|exact .inl rfl) (.cellN rfl inferInstance hg_ (by first | exact Nat.le_refl _ | (simp [setL, cellsL]; fail_if_success focus skip) | (simp; omega)) rfl (.tmp rfl (.tmp rfl .nil))) ?_)
      refine ⟨a3, cap3, ?_, ?_⟩
      · rw [← hp', hret]; exact J9
      · rw [← hp', hret]; rfl
     rw [if_pos ⟨hal, hq1⟩] at bT
     rw [hq1]
     (refine Go.run (g:=?_))
     refine Go.name ?_
     intro H4 e4
     have k4 : Keeps [h6.n] H3 H4 := by subst e4; exact (Keeps.rf _ _).pt (.inl (by simp)) _
     have g104 : H4.get h6.n = some (.cells (pC q) 33) := by subst e4; simp only [pC]; exact get_put_self g103
     clear e4
     have J4 := Jr.kept k4 (by simp; omega) (by simp; omega) (fun p hp i hi hm => by
      simp only [List.mem_singleton] at hm
      subst hm
      exact sv_notIn (Jr.dv p hp) g103 (fun c e => by cases e) hi)
     have m4 := k4.1
     exact Go.again (n, k + 1, q, H4) ⟨J4, k4.get g33 (by simp; omega), k4.get gr (by simp; omega), g104, k4.get g113 (by simp), by simp only; omega, bT, by simp only; omega, qb, by simp only; rw [qt, ft]; unfold prev32; omega, fun i hi => by
      rcases Nat.lt_or_ge k i with hki | hki
      ·
       obtain rfl : i = k + 1 := by simp only at hi; omega
       have e : (p'.t + 4294967296 - (k + 1)) % 4294967296 = q.t := by rw [qt, ft]; unfold prev32; omega
       rw [e]; exact List.mem_map_of_mem qm
      · exact hk i hki⟩ (by simp only; omega) ⟨rfl, rfl, rfl, rfl, rfl, rfl, trivial⟩ rfl rfl
  ·
   rw [if_neg hf2] at bT
   subst bT
   simp only at hput
   (refine Go.run (g:=?_))
   refine GoR.andN (i := f.fl) (j := 2) rfl rfl rfl rfl rfl rfl f8 (by decide) ?_
   generalize f.fl &&& 2 = w0 at *
   (refine Go.run (g:=?_))
   clear hT hk hnk gsH hf2
   obtain ⟨T2, hT2⟩ : ∃ T2, T2 = fwdN l1 p' (l.length + 1) p' := ⟨_, rfl⟩
   rw [← hT2] at hput
   have hpk2 : ∀ i j k : Nat, k ≤ 1000001 → i ≤ k → j ≤ k → (p'.t + i) % 4294967296 = (p'.t + j) % 4294967296 → i = j := fun i j k hk hi hj e => by omega
   simp only [pC] at g11
   refine Go.loop (α := Nat × Nat × PV × AHeap) (fun _ => [(10, .pointer (some ⟨h6.n, 0, none⟩)), (11, .pointer (some ⟨h6.n + 1, 0, none⟩)), (9, .func (.func 54) #[] #[.pointer (some ⟨h.n, 0, none⟩)]), (3, .pointer (some ⟨h.n, 0, none⟩)), (4, .pointer (some ⟨h.n + 1, 0, none⟩)), (0, .pointer (some ⟨jb, 0, none⟩))]) (fun _ => []) (fun x => x.2.2.2) (fun x => FJ x.2.2.2 jb mr l1 n0 ∧ x.2.2.2.get h.n = some (.cells (pC p') 33) ∧ x.2.2.2.get (h.n + 1) = some (.cells zM 39) ∧ x.2.2.2.get h6.n = some (.cells (pC f) 33) ∧ x.2.2.2.get (h6.n + 1) = some (.cells (pC x.2.2.1) 33) ∧ h7.n ≤ x.2.2.2.n ∧ fwdN l1 p' x.1 x.2.2.1 = T2 ∧ x.1 + x.2.1 = l.length + 1 ∧ PB x.2.2.1 ∧ x.2.2.1.t = (p'.t + x.2.1) % 4294967296 ∧ ∀ i, i ≤ x.2.1 → (p'.t + i) % 4294967296 ∈ l1.map (·.t)) (fun x => x.1) (l.length + 1, 0, p', H) ⟨J, g3, g4, g10, g11, nH, hT2.symm, rfl, pb', by have := pb'.t; simp only; omega, fun i hi => ?_⟩ ⟨rfl, rfl, rfl, rfl, rfl, rfl, trivial⟩ rfl rfl ?_
   ·
    obtain rfl : i = 0 := by simp only at hi; omega
    have := pb'.t
    rw [show (p'.t + 0) % 4294967296 = p'.t by omega]
    exact List.mem_map_of_mem hpm
   clear J g3 g4 g10 g11 hT2
   rintro ⟨n, k, g, H⟩ ⟨J, g3, g4, g10, g11, nH, hT, hnk, gb, gt, hk⟩
   simp only at J g3 g4 g10 g11 nH hT hnk gb gt hk ⊢
   have hpos : 0 < n := by
    rcases Nat.eq_zero_or_pos n with h0 | h0
    ·
     have := steps_le (g := fun i => (p'.t + i) % 4294967296) (k := k) (K := l1.map (·.t)) (fun i j hi hj e => hpk2 i j k (by omega) hi hj e) hk
     rw [List.length_map] at this
     omega
    · exact h0
   obtain ⟨n, rfl⟩ : ∃ m, n = m + 1 := ⟨n - 1, by omega⟩
   have g8 := gb.fl
   have gsH := J.jc
   have bT := hT
   rw [fwdN_succ] at bT
   simp only [pC] at g11
   have hjH := AHeap.lt gsH
   have hmH := J.mp.lt
   by_cases hf2 : g.fl &&& 1 = 0
   ·
    rw [if_pos hf2] at bT
    (refine Go.run (g:=?_))
    refine GoR.andN (i := g.fl) (j := 1) rfl rfl rfl rfl rfl rfl g8 (by decide) ?_
    rw [hf2]
    refine Go.runN (g:=?_)
    refine Go.kk 2 rfl ?_
    refine Go.loud (by kernel_rfl) rfl ?_
    (refine Go.runL (g:=?_))
    refine GoL.bin rfl rfl rfl rfl rfl rfl (add32p g.t) ?_
    (refine Go.runL (g:=?_))
    refine GoL.lookup2 rfl rfl rfl rfl rfl rfl J.mp.imap ?_
    rw [al_pm]
    cases hq : pf l1 (nxt32 g.t) with
    | none =>
     rw [hq] at bT
     have hret : putN l p' = (l1, none) := hput _ (by rw [← bT])
     simp only [Option.map_none, Option.getD_none, Option.isSome_none]
     (refine Go.runL (g:=?_))
     refine GoL.st (g:=?_)
     (refine Go.runL (g:=?_))
     refine GoL.endN (g:=?_)
     refine Go.name ?_
     intro H2 e2
     have s2 : Same H H2 := by subst e2; exact ((Same.refl H).push _).put (Nat.le_refl _) _
     have n2 := s2.1
     clear e2
     have Jr := J.same s2
     have gr := s2.get g4
     clear J g4 g10 g11 g3 gsH
     (refine Go.run (g:=?_))
     refine Go.name ?_
     intro h9 e9
     have k9 : Keeps [h.n + 1] H2 h9 := by subst e9; exact (Keeps.rf _ _).pt (.inl (by simp)) _
     have J9 := Jr.kept k9 (by simp; omega) (by simp; omega) (fun p hp i hi hm => by
      simp only [List.mem_singleton] at hm
      subst hm
      exact sv_notIn (Jr.dv p hp) gr (fun c e => by cases e) hi)
     have g49 : h9.get (h.n + 1) = some (.cells zM 39) := by subst e9; exact get_put_self gr
     clear e9 k9 gr Jr
     (refine Go.fin (by first|exact .inr rfl|exact .inl rfl) (.cellN rfl inferInstance hg_ (by first | exact Nat.le_refl _ | (simp [setL, cellsL]; fail_if_success focus skip) | (simp; omega)) rfl (.tmp rfl (.tmp rfl .nil))) ?_)
     refine ⟨a3, cap3, ?_, ?_⟩
     · rw [← hp', hret]; exact J9
     · rw [← hp', hret]; rfl
    | some q =>
     rw [hq] at bT
     simp only at bT
     obtain ⟨qm, qt⟩ := pf_mem hq
     have qb := hL q qm
     have q8 := qb.fl
     simp only [Option.map_some, Option.getD_some, Option.isSome_some, pV, pC]
     (refine Go.runL (g:=?_))
     refine GoL.st (g:=?_)
     (refine Go.runL (g:=?_))
     refine GoL.endN (g:=?_)
     refine Go.name ?_
     intro H2 e2
     have s2 : Same H H2 := by subst e2; exact ((Same.refl H).push _).put (Nat.le_refl _) _
     have g12 : H2.get H.n = some (.cells (pC q) 33) := by subst e2; simp only [pC]; exact hg_
     have n2 : H2.n = H.n + 1 := by subst e2; rfl
     clear e2
     have Jr := J.same s2
     have gr := s2.get g4
     have g32 := s2.get g3
     have g102 := s2.get g10
     have g112 := s2.get g11
     simp only [pC] at g12
     clear J g4 g10 g11 g3 gsH s2
     (refine Go.run (g:=?_))
     refine GoR.call rfl rfl rfl rfl rfl rfl rfl (((alike_spec q p' qb pb' h.n _ g32).argA).mono ?_)
     rintro _ H3 rfl s3
     have n3' := s3.1
     have Jr := Jr.same s3
     have gr := s3.get gr
     have g33 := s3.get g32
     have g103 := s3.get g102
     have g113 := s3.get g112
     have g123 := s3.get g12
     clear g32 g102 g112 g12 s3
     cases hal : alikeB q p' with
     | false =>
      have hret : putN l p' = (l1, none) := hput _ (by rw [← bT, if_neg (by simp [hal])])
      clear g33 g103 g113 g123
      (refine Go.run (g:=?_))
      refine Go.name ?_
      intro h9 e9
      have k9 : Keeps [h.n + 1] H3 h9 := by subst e9; exact (Keeps.rf _ _).pt (.inl (by simp)) _
      have J9 := Jr.kept k9 (by simp; omega) (by simp; omega) (fun p hp i hi hm => by
       simp only [List.mem_singleton] at hm
       subst hm
       exact sv_notIn (Jr.dv p hp) gr (fun c e => by cases e) hi)
      have g49 : h9.get (h.n + 1) = some (.cells zM 39) := by subst e9; exact get_put_self gr
      clear e9 k9 gr Jr
      (refine Go.fin (by first|exact .inr rfl|exact .inl rfl) (.cellN rfl inferInstance hg_ (by first | exact Nat.le_refl _ | (simp [setL, cellsL]; fail_if_success focus skip) | (simp; omega)) rfl (.tmp rfl (.tmp rfl .nil))) ?_)
      refine ⟨a3, cap3, ?_, ?_⟩
      · rw [← hp', hret]; exact J9
      · rw [← hp', hret]; rfl
     | true =>
      (refine Go.run (g:=?_))
      refine GoR.andN (i := q.fl) (j := 2) rfl rfl rfl rfl rfl rfl q8 (by decide) ?_
      generalize q.fl &&& 2 = w1 at *
      by_cases hq1 : w1 = 0
      case neg =>
       have hret : putN l p' = (l1, none) := hput _ (by rw [← bT, if_neg (fun e => hq1 e.2)])
       clear g33 g103 g113 g123
       (refine Go.run (g:=?_))
       refine Go.name ?_
       intro h9 e9
       have k9 : Keeps [h.n + 1] H3 h9 := by subst e9; exact (Keeps.rf _ _).pt (.inl (by simp)) _
       have J9 := Jr.kept k9 (by simp; omega) (by simp; omega) (fun p hp i hi hm => by
        simp only [List.mem_singleton] at hm
        subst hm
        exact sv_notIn (Jr.dv p hp) gr (fun c e => by cases e) hi)
       have g49 : h9.get (h.n + 1) = some (.cells zM 39) := by subst e9; exact get_put_self gr
       clear e9 k9 gr Jr
       (refine Go.fin (by first|exact .inr rfl|exact .inl rfl) (.cellN rfl inferInstance hg_ (by first | exact Nat.le_refl _ | (simp [setL, cellsL]; fail_if_success focus skip) | (simp; omega)) rfl (.tmp rfl (.tmp rfl .nil))) ?_)
       refine ⟨a3, cap3, ?_, ?_⟩
       · rw [← hp', hret]; exact J9
       · rw [← hp', hret]; rfl
      rw [if_pos ⟨hal, hq1⟩] at bT
      rw [hq1]
      (refine Go.run (g:=?_))
      refine Go.name ?_
      intro H4 e4
      have k4 : Keeps [h6.n + 1] H3 H4 := by subst e4; exact (Keeps.rf _ _).pt (.inl (by simp)) _
      have g114 : H4.get (h6.n + 1) = some (.cells (pC q) 33) := by subst e4; simp only [pC]; exact get_put_self g113
      clear e4
      have J4 := Jr.kept k4 (by simp; omega) (by simp; omega) (fun p hp i hi hm => by
       simp only [List.mem_singleton] at hm
       subst hm
       exact sv_notIn (Jr.dv p hp) g113 (fun c e => by cases e) hi)
      have m4 := k4.1
      exact Go.again (n, k + 1, q, H4) ⟨J4, k4.get g33 (by simp; omega), k4.get gr (by simp; omega), k4.get g103 (by simp), g114, by simp only; omega, bT, by simp only; omega, qb, by simp only; rw [qt, gt]; unfold nxt32; omega, fun i hi => by
       rcases Nat.lt_or_ge k i with hki | hki
       ·
        obtain rfl : i = k + 1 := by simp only at hi; omega
        have e : (p'.t + (k + 1)) % 4294967296 = q.t := by rw [qt, gt]; unfold nxt32; omega
        rw [e]; exact List.mem_map_of_mem qm
       · exact hk i hki⟩ (by simp only; omega) ⟨rfl, rfl, rfl, rfl, rfl, rfl, trivial⟩ rfl rfl
   rw [if_neg hf2] at bT
   subst bT
   simp only at hput
   have hret := hput _ rfl
   clear hput
   (refine Go.run (g:=?_))
   refine GoR.andN (i := g.fl) (j := 1) rfl rfl rfl rfl rfl rfl g8 (by decide) ?_
   generalize g.fl &&& 1 = w2 at *
   have f16 := fb.sid
   have f4 := fb.fl
   (refine Go.run (g:=?_))
   refine GoR.andN (i := f.fl) (j := 4) rfl rfl rfl rfl rfl rfl f4 (by decide) ?_
   generalize f.fl &&& 4 = w4 at *
   obtain ⟨un, hun⟩ : ∃ un, un = (!decide ((w4 : Int) = 0)) := ⟨_, rfl⟩
   have hun2 : decide (¬ w4 = 0) = un := by
    rw [hun]
    by_cases q : w4 = 0
    · rw [decide_eq_true (show (w4 : Int) = 0 by omega), decide_eq_false (by omega)]; rfl
    · rw [decide_eq_false (show ¬ (w4 : Int) = 0 by omega), decide_eq_true q]; rfl
   rw [hun2] at hret
   (refine Go.run (g:=?_))
   rw [← hun]
   refine Go.name ?_
   intro Hs es
   have ks : Keeps [h.n + 1] H Hs := by subst es; exact (Keeps.rf _ _).pt (.inl (by simp)) _
   have gms : Hs.get (h.n + 1) = some (.cells [.int .u16 (f.sid : Nat), .bool un, .int .u32 (f.ppid : Nat), .slice none 0 0] 39) := by subst es; exact get_put_self g4
   have ns : Hs.n = H.n := by subst es; rfl
   clear es
   have Js := J.kept ks (by simp; omega) (by simp; omega) (fun p hp i hi hm => by
    simp only [List.mem_singleton] at hm
    subst hm
    exact sv_notIn (J.dv p hp) g4 (fun c e => by cases e) hi)
   have g3s := ks.get g3 (by simp)
   have g11s := ks.get g11 (by simp; omega)
   have hdl : ∀ q ∈ l1, ∀ i ∈ blk q.a, i < Hs.n := fun q hq i hi => (Js.dv q hq).lt i hi
   have gjs := Js.jc
   have ft32 := fb.t
   have gt32 := gb.t
   clear J g3 g4 g10 g11 hun hun2 ks gsH
   obtain ⟨X, hX⟩ : ∃ X, X = gat (gone f.t g.t) f.t l1 [] := ⟨_, rfl⟩
   rw [← hX] at hret
   refine Go.loop (α := Nat × List PV × List UInt8 × Option Addr × Nat × AHeap) (fun x => [(16, .int .u32 x.1), (11, .pointer (some ⟨h6.n + 1, 0, none⟩)), (3, .pointer (some ⟨h.n, 0, none⟩)), (4, .pointer (some ⟨h.n + 1, 0, none⟩)), (0, .pointer (some ⟨jb, 0, none⟩))]) (fun _ => []) (fun x => x.2.2.2.2.2) (fun x => x.1 < 4294967296 ∧ SMap x.2.2.2.2.2 mr .u32 (pm x.2.1) ∧ x.2.2.2.2.2.get jb = some (.cells [.map (some mr), .int .i64 (heldN l1 : Nat)] 107) ∧ x.2.2.2.2.2.get h.n = some (.cells (pC p') 33) ∧ x.2.2.2.2.2.get (h6.n + 1) = some (.cells (pC g) 33) ∧ x.2.2.2.2.2.get (h.n + 1) = some (.cells [.int .u16 (f.sid : Nat), .bool un, .int .u32 (f.ppid : Nat), .slice x.2.2.2.1 x.2.2.1.length x.2.2.2.2.1] 39) ∧ (∀ q ∈ x.2.1, q ∈ l1) ∧ (∀ q ∈ x.2.1, Sv x.2.2.2.2.2 5 1 q.a q.z.length q.cap (q.z.map bv)) ∧ Sv x.2.2.2.2.2 5 1 x.2.2.2.1 x.2.2.1.length x.2.2.2.2.1 (x.2.2.1.map bv) ∧ Own Hs.n x.2.2.2.1 ∧ Hs.n ≤ x.2.2.2.2.2.n ∧ x.2.2.1.length + heldN x.2.1 = heldN l1 ∧ gat (gone x.1 g.t) x.1 x.2.1 x.2.2.1 = X) (fun x => gone x.1 g.t) (f.t, l1, [], none, 0, Hs) ⟨ft32, Js.mp, gjs, g3s, g11s, gms, fun q hq => hq, Js.dv, Sv.nil, Own.nil _, Nat.le_refl _, by simp, hX.symm⟩ ⟨rfl, rfl, rfl, rfl, rfl, trivial⟩ rfl rfl ?_
   clear Js gjs g3s g11s gms hX
   rintro ⟨u, l2, D, ma, mc, K⟩ ⟨u32, M, gj, g3, g11, gm, hsub, dv, sm, om, nK, hsum, hX⟩
   simp only at u32 M gj g3 g11 gm hsub dv sm om nK hsum hX ⊢
   obtain ⟨x0, x1, x2, x3, x4, qa, qc, hval, hqs, hql⟩ : ∃ x0 x1 x2 x3 x4 qa qc, (Option.map pV (pf l2 u)).getD zP = .agg #[x0, x1, x2, x3, x4, .slice qa (zAt l2 u).length qc] ∧ Sv K 5 1 qa (zAt l2 u).length qc ((zAt l2 u).map bv) ∧ True := by
    unfold zAt
    cases hq : pf l2 u with
    | none => exact ⟨_, _, _, _, _, none, 0, rfl, Sv.nil, trivial⟩
    | some q => exact ⟨_, _, _, _, _, q.a, q.cap, rfl, dv q (pf_mem hq).1, trivial⟩
   have hdel := held_del l2 u
   have hone : ((zAt l2 u).map bv).all Value.oneCell' = true := by simp [bv, Value.oneCell']
   have hzb : D.length + (zAt l2 u).length ≤ 1000000000 := by omega
   have halu := al_pm l2 u
   simp only [pC] at g11
   refine Go.runN (g:=?_)
   refine Go.kk 2 rfl ?_
   refine Go.loud (by kernel_rfl) rfl ?_
   (refine Go.runL (g:=?_))
   refine GoL.lookup1 rfl rfl rfl rfl rfl rfl M.imap ?_
   rw [halu, hval]
   (refine Go.runL (g:=?_))
   refine GoL.field (v := .slice qa (zAt l2 u).length qc) rfl rfl rfl rfl rfl (by kernel_rfl) ?_
   refine GoL.appendV rfl rfl rfl rfl rfl rfl sm hqs.rv (fun i hi => .inr (by have := om i hi; omega)) (by omega) ?_ hone ?_
   ·
    show (D.length + (zAt l2 u).length) * 1 ≤ _
    omega
   intro b2 c2 K2 rd2 wr2 hwr2 hrd2 sm2 k2 o2
   have n2 := k2.1
   have hma : ∀ i, i < Hs.n → i ∉ blk ma := fun i hi hm => by have := om i hm; omega
   have gm2 := k2.get gm (hma _ (by omega))
   have hdis : ∀ b ∈ ([] : List Nat), b ≠ h.n := fun b hb => by cases hb
   have hdis2 := hdis
   (refine Go.runL (g:=?_))
   refine GoL.st (g:=?_)
   (refine Go.runL (g:=?_))
   refine GoL.endC (g:=?_)
   clear hdis hdis2
   refine Go.name ?_
   intro K3 e3
   have k3 : Keeps [h.n + 1] K2 K3 := by subst e3; exact (Keeps.rf _ _).pt (.inl (by simp)) _
   have gm3 : K3.get (h.n + 1) = some (.cells [.int .u16 (f.sid : Nat), .bool un, .int .u32 (f.ppid : Nat), .slice b2 (D.length + (zAt l2 u).length) c2] 39) := by subst e3; exact get_put_self gm2
   have n3 : K3.n = K2.n := by subst e3; rfl
   clear e3
   have M3 := (M.keeps k2 (hma _ (by omega))).keeps k3 (by simp; omega)
   have gj3 := k3.get (k2.get gj (hma _ (by omega))) (by simp; omega)
   have g33 := k3.get (k2.get g3 (hma _ (by omega))) (by simp)
   have g113 := k3.get (k2.get g11 (hma _ (by omega))) (by simp; omega)
   have dv3 : ∀ q ∈ l2, Sv K3 5 1 q.a q.z.length q.cap (q.z.map bv) := fun q hq => by
    have h2 := (dv q hq).keeps k2 (fun i hi => hma i (hdl q (hsub q hq) i hi))
    exact h2.keeps k3 (fun i hi hm => by
     simp only [List.mem_singleton] at hm
     subst hm
     exact sv_notIn h2 gm2 (fun c e => by cases e) hi)
   have sm3 := sm2.keeps k3 (fun i hi hm => by
    simp only [List.mem_singleton] at hm
    subst hm
    exact sv_notIn sm2 gm2 (fun c e => by cases e) hi)
   have om3 : Own Hs.n b2 := fun i hi => by
    rcases o2 i hi with z | z
    · exact om i z
    · omega
   clear M gj g3 g11 gm dv sm om hqs k2 k3 sm2 gm2 hval halu
   rw [← List.map_append] at sm3
   have hDl : D.length + (zAt l2 u).length = (D ++ zAt l2 u).length := by rw [List.length_append]
   rw [hDl] at sm3 gm3 hzb
   (refine Go.run (g:=?_))
   refine GoR.deleteS rfl rfl rfl rfl rfl M3 (.inl (by simp)) ?_
   intro K4 M4 k4 n4
   rw [adel_pm] at M4
   have hmrs : mr < Hs.n := by omega
   have gj4 := k4.get gj3 (by simp; exact hjm)
   have g34 := k4.get g33 (by simp; omega)
   have g114 := k4.get g113 (by simp; omega)
   have gm4 := k4.get gm3 (by simp; omega)
   obtain ⟨es3, ck3, gmr3, -⟩ := M3
   have dv4 : ∀ q ∈ pdel l2 u, Sv K4 5 1 q.a q.z.length q.cap (q.z.map bv) := fun q hq => (dv3 q (pdel_sub hq)).keeps k4 (fun i hi hm => by
    simp only [List.mem_singleton] at hm
    subst hm
    exact sv_notIn (dv3 q (pdel_sub hq)) gmr3 (fun c e => by cases e) hi)
   have sm4 := sm3.keeps k4 (fun i hi hm => by
    simp only [List.mem_singleton] at hm
    subst hm
    exact sv_notIn sm3 gmr3 (fun c e => by cases e) hi)
   clear gj3 g33 g113 gm3 dv3 sm3 k4 gmr3
   by_cases hug : u = g.t
   case neg =>
    (refine Go.run (g:=?_))
    refine GoR.bin rfl rfl rfl rfl rfl rfl (add32p u) ?_
    (refine Go.run (g:=?_))
    have hgn : gone u g.t = gone (nxt32 u) g.t + 1 := by unfold gone nxt32; omega
    rw [hgn, gat_succ] at hX
    exact Go.again (nxt32 u, pdel l2 u, D ++ zAt l2 u, b2, c2, K4) ⟨nxt32_lt u, M4, gj4, g34, g114, gm4, fun q hq => hsub q (pdel_sub hq), dv4, sm4, om3, by simp only; omega, by simp only; omega, hX⟩ (by simp only; omega) ⟨rfl, rfl, rfl, rfl, rfl, trivial⟩ rfl rfl
   have hg0 : gone u g.t = 0 := by unfold gone; omega
   rw [hg0] at hX
   rw [gat_zero] at hX
   subst hX
   simp only at hret
   have hsub2 : ∀ q ∈ pdel l2 u, q ∈ l1 := fun q hq => hsub q (pdel_sub hq)
   have hsum2 : heldN (pdel l2 u) = heldN l1 - (D ++ zAt l2 u).length := by omega
   have hsum3 : (D ++ zAt l2 u).length ≤ heldN l1 := by omega
   generalize D ++ zAt l2 u = D2 at *
   generalize pdel l2 u = l3 at *
   clear hsum hdel hone hsub hDl
   subst hug
   refine Go.runN (g:=?_)
   refine Go.kk 2 rfl ?_
   refine Go.loud (by kernel_rfl) rfl ?_
   (refine Go.runL (g:=?_))
   refine GoL.st (g:=?_)
   (refine Go.runL (g:=?_))
   refine GoL.endN (g:=?_)
   refine Go.name ?_
   intro K5 e5
   have k5 : Keeps [jb] K4 K5 := by subst e5; exact (Keeps.rf _ _).pt (.inl (by simp)) _
   have gj5 : K5.get jb = some (.cells [.map (some mr), .int .i64 (heldN l1 - D2.length : Nat)] 107) := by subst e5; exact get_put_self gj4
   have n5 : K5.n = K4.n := by subst e5; rfl
   clear e5
   rw [← hsum2] at gj5
   have J5 : FJ K5 jb mr l3 n0 := ⟨gj5, M4.keeps k5 (by simp; exact Ne.symm hjm), fun q hq => (dv4 q hq).keeps k5 (fun i hi hm => by simp only [List.mem_singleton] at hm; subst hm; exact sv_notIn (dv4 q hq) gj4 (fun c e => by cases e) hi), fun q hq => hL q (hsub2 q hq), how⟩
   have sm5 := sm4.keeps k5 (fun i hi hm => by simp only [List.mem_singleton] at hm; subst hm; exact sv_notIn sm4 gj4 (fun c e => by cases e) hi)
   have g35 := k5.get g34 (by simp; omega)
   have gm5 := k5.get gm4 (by simp; omega)
   clear gj4 M4 g34 g114 gm4 dv4 sm4 k5 hsub2
   simp only [pC] at g35
   refine Go.runN (g:=?_)
   refine Go.kk 2 rfl ?_
   refine Go.loud (by kernel_rfl) rfl ?_
   (refine Go.runL (g:=?_))
   refine GoL.st (g:=?_)
   (refine Go.runL (g:=?_))
   refine GoL.endN (g:=?_)
   refine Go.name ?_
   intro K6 e6
   have k6 : Keeps [h.n + 1] K5 K6 := by subst e6; exact (Keeps.rf _ _).pt (.inl (by simp)) _
   have gm6 : K6.get (h.n + 1) = some (.cells [.int .u16 (f.sid : Nat), .bool un, .int .u32 (f.ppid : Nat), .slice b2 D2.length c2] 39) := by subst e6; exact get_put_self gm5
   clear e6
   have J6 := J5.kept k6 (by simp; omega) (by simp; omega) (fun p hp i hi hm => by
    simp only [List.mem_singleton] at hm
    subst hm
    exact sv_notIn (J5.dv p hp) gm5 (fun c e => by cases e) hi)
   have sm6 := sm5.keeps k6 (fun i hi hm => by
    simp only [List.mem_singleton] at hm
    subst hm
    exact sv_notIn sm5 gm5 (fun c e => by cases e) hi)
   clear J5 gm5 sm5 k6 g35
   rw [hssn]
   (refine Go.run (g:=?_))
   (refine Go.fin (by first|exact .inr rfl|exact .inl rfl) (.cellN rfl inferInstance hg_ (by first | exact Nat.le_refl _ | (simp [setL, cellsL]; fail_if_success focus skip) | (simp; omega)) rfl (.tmp rfl (.tmp rfl .nil))) ?_)
   refine ⟨a3, cap3, ?_, ?_⟩
   · rw [← hp', hret]; exact J6
   ·
    rw [← hp', hret]
    exact ⟨b2, c2, rfl, sm6, fun i hi => by have := om3 i hi; omega⟩
end Go.Proofs.Ytccbmmnkiihkaaa
namespace Go.Proofs.Ytccbmmnkiihkaaa
set_option maxRecDepth 100000
structure IM where
 sid : Nat
 un : Bool
 ppid : Nat
 a : Option Addr
 cap : Nat
 z : List UInt8
def iC (m : IM) : List Value := [.int .u16 (m.sid : Nat), .bool m.un, .int .u32 (m.ppid : Nat), .slice m.a m.z.length m.cap]
def iV (m : IM) : Value := .agg (iC m).toArray
def ics (l : List IM) : List Value := (l.map iC).flatten
theorem ics_len (l : List IM) : (ics l).length = l.length * 4 := by
 induction l with
 | nil => rfl
 | cons x l ih => simp only [ics, List.map_cons, List.flatten_cons, List.length_append, iC, List.length_cons, List.length_nil] at ih ⊢; omega
theorem ics_snoc (l : List IM) (m : IM) : ics (l ++ [m]) = ics l ++ iC m := by simp [ics]
def tf (k : Nat × Nat) : Value := .agg #[.int .u16 (k.1 : Nat), .int .u16 (k.2 : Nat)]
abbrev WL := List ((Nat × Nat) × IM)
def wv (l : WL) : List ((Nat × Nat) × Value) := l.map fun p => (p.1, iV p.2)
theorem gl_wv (l : WL) (k : Nat × Nat) : gl (wv l) k = (gl l k).map iV := by
 induction l with
 | nil => rfl
 | cons p l ih =>
  show (if p.1 = k then some (iV p.2) else gl (wv l) k) = (if p.1 = k then some p.2 else gl l k).map iV
  by_cases h : p.1 = k
  · rw [if_pos h, if_pos h]; rfl
  · rw [if_neg h, if_neg h, ih]
theorem gdel_wv (l : WL) (k : Nat × Nat) : gdel (wv l) k = wv (gdel l k) := by
 induction l with
 | nil => rfl
 | cons p l ih =>
  show (if p.1 = k then wv l else (p.1, iV p.2) :: gdel (wv l) k) = wv (if p.1 = k then l else p :: gdel l k)
  by_cases h : p.1 = k
  · rw [if_pos h, if_pos h]
  · rw [if_neg h, if_neg h, ih]; rfl
theorem gset_wv (l : WL) (k : Nat × Nat) (m : IM) (h : gl l k = none) : gset (wv l) k (iV m) = wv (l ++ [(k, m)]) := by
 induction l with
 | nil => rfl
 | cons p l ih =>
  show (if p.1 = k then _ else _) = _
  unfold gl at h
  by_cases e : p.1 = k
  · rw [if_pos e] at h; cases h
  ·
   rw [if_neg e] at h
   rw [if_neg e]
   show _ :: gset (wv l) k (iV m) = _
   rw [ih h]; rfl
def nv (l : List (Nat × Nat)) : List (Int × Value) := l.map fun p => ((p.1 : Int), Value.int .u16 (p.2 : Nat))
def nget : List (Nat × Nat) → Nat → Nat
 | [], _ => 0
 | p :: l, k => if p.1 = k then p.2 else nget l k
def nput : List (Nat × Nat) → Nat → Nat → List (Nat × Nat)
 | [], k, v => [(k, v)]
 | p :: l, k, v => if p.1 = k then (k, v) :: l else p :: nput l k v
theorem al_nv : ∀ (l : List (Nat × Nat)) (k : Nat), (al (nv l) k).getD (.int .u16 0) = .int .u16 (nget l k : Nat)
 | [], k => rfl
 | p :: l, k => by
  show (if ((p.1 : Nat) : Int) = (k : Int) then some (Value.int .u16 (p.2 : Nat)) else al (nv l) k).getD _ = _
  unfold nget
  by_cases h : p.1 = k
  · rw [if_pos h, if_pos (by omega)]; rfl
  · rw [if_neg h, if_neg (by omega)]; exact al_nv l k
theorem aset_nv : ∀ (l : List (Nat × Nat)) (k v : Nat), aset (nv l) k (.int .u16 (v : Nat)) = nv (nput l k v)
 | [], k, v => rfl
 | p :: l, k, v => by
  show (if ((p.1 : Nat) : Int) = (k : Int) then _ else _) = _
  unfold nput
  by_cases h : p.1 = k
  · rw [if_pos h, if_pos (by omega)]; subst h; rfl
  ·
   rw [if_neg h, if_neg (by omega)]
   show _ :: aset (nv l) k (.int .u16 (v : Nat)) = _
   rw [aset_nv l k v]; rfl
theorem nput_lt {l : List (Nat × Nat)} {k v : Nat} (h : ∀ p ∈ l, p.2 < 65536) (hv : v < 65536) : ∀ p ∈ nput l k v, p.2 < 65536 := by
 induction l with
 | nil => intro p hp; simp only [nput, List.mem_singleton] at hp; subst hp; exact hv
 | cons x l ih =>
  intro p hp
  unfold nput at hp
  split at hp
  ·
   rcases List.mem_cons.1 hp with rfl | q
   · exact hv
   · exact h p (by simp [q])
  ·
   rcases List.mem_cons.1 hp with rfl | q
   · exact h _ (by simp)
   · exact ih (fun p hp => h p (by simp [hp])) p q
theorem nget_lt {l : List (Nat × Nat)} {k : Nat} (h : ∀ p ∈ l, p.2 < 65536) : nget l k < 65536 := by
 induction l with
 | nil => exact Nat.zero_lt_succ _
 | cons x l ih =>
  unfold nget
  split
  · exact h x (by simp)
  · exact ih fun p hp => h p (by simp [hp])
def lenI (l : List IM) : Nat := (l.map fun m => m.z.length).sum
def lenW (l : WL) : Nat := (l.map fun p => p.2.z.length).sum
theorem lenI_snoc (l : List IM) (m : IM) : lenI (l ++ [m]) = lenI l + m.z.length := by simp [lenI]
theorem lenW_snoc (l : WL) (p : (Nat × Nat) × IM) : lenW (l ++ [p]) = lenW l + p.2.z.length := by simp [lenW]
theorem lenW_del : ∀ (l : WL) (k : Nat × Nat) (m : IM), gl l k = some m → lenW (gdel l k) + m.z.length = lenW l
 | p :: l, k, m, h => by
  unfold gl at h
  unfold gdel
  by_cases e : p.1 = k
  ·
   rw [if_pos e] at h; cases h
   rw [if_pos e]; simp only [lenW, List.map_cons, List.sum_cons]; omega
  ·
   rw [if_neg e] at h
   rw [if_neg e]
   have := lenW_del l k m h
   simp only [lenW, List.map_cons, List.sum_cons] at this ⊢; omega
theorem gl_memW {l : WL} {k : Nat × Nat} {m : IM} (h : gl l k = some m) : m ∈ l.map (·.2) := by
 induction l with
 | nil => cases h
 | cons p l ih =>
  unfold gl at h
  split at h
  · cases h; simp
  · simp only [List.map_cons, List.mem_cons]; exact .inr (ih h)
theorem gdel_memW {l : WL} {k : Nat × Nat} {m : IM} (h : m ∈ (gdel l k).map (·.2)) : m ∈ l.map (·.2) := by
 induction l with
 | nil => exact h
 | cons p l ih =>
  unfold gdel at h
  split at h
  · simp only [List.map_cons, List.mem_cons]; exact .inr h
  ·
   simp only [List.map_cons, List.mem_cons] at h ⊢
   exact h.imp id ih
theorem gdel_len {l : WL} {k : Nat × Nat} {m : IM} (h : gl l k = some m) : (gdel l k).length + 1 = l.length := by
 induction l with
 | nil => cases h
 | cons p l ih =>
  unfold gl at h
  unfold gdel
  split at h
  · rename_i e; rw [if_pos e]; rfl
  · rename_i e; rw [if_neg e]; simp only [List.length_cons]; rw [ih h]
def nx16 (t : Nat) : Nat := (t + 1) % 65536
def drainN : Nat → Nat → Nat → WL → List IM → Nat × WL × List IM
 | 0, sid, t, w, rd => (t, w, rd)
 | n + 1, sid, t, w, rd => match gl w (sid, t) with
  | some m => drainN n sid (nx16 t) (gdel w (sid, t)) (rd ++ [m])
  | none => (t, w, rd)
theorem drain_len : ∀ (n sid t : Nat) (w : WL) (rd : List IM), lenW (drainN n sid t w rd).2.1 + lenI (drainN n sid t w rd).2.2 = lenW w + lenI rd
 | 0, sid, t, w, rd => rfl
 | n + 1, sid, t, w, rd => by
  unfold drainN
  cases h : gl w (sid, t) with
  | none => rfl
  | some m =>
   have h1 := drain_len n sid (nx16 t) (gdel w (sid, t)) (rd ++ [m])
   have h2 := lenW_del w (sid, t) m h
   rw [lenI_snoc] at h1
   simp only
   omega
def bef16 (a b : Nat) : Bool := decide (0 < (b + 65536 - a) % 65536) && decide ((b + 65536 - a) % 65536 < 32768)
structure IS where
 next : List (Nat × Nat)
 waits : WL
 ready : List IM
def msgN (s : IS) (m : IM) (ssn : Nat) : Option IS :=
 if m.un = true then some { s with ready := s.ready ++ [m] }
 else if ssn = nget s.next m.sid then some { next := nput s.next m.sid (drainN (s.waits.length + 1) m.sid (nx16 ssn) s.waits (s.ready ++ [m])).1, waits := (drainN (s.waits.length + 1) m.sid (nx16 ssn) s.waits (s.ready ++ [m])).2.1, ready := (drainN (s.waits.length + 1) m.sid (nx16 ssn) s.waits (s.ready ++ [m])).2.2 }
 else if bef16 (nget s.next m.sid) ssn = true ∧ gl s.waits (m.sid, ssn) = none then some { s with waits := s.waits ++ [((m.sid, ssn), m)] }
 else none
def lenS (s : IS) : Nat := lenW s.waits + lenI s.ready
theorem msg_len {s s' : IS} {m : IM} {ssn : Nat} (h : msgN s m ssn = some s') : lenS s' = lenS s + m.z.length := by
 unfold msgN at h
 split at h
 · cases h; simp only [lenS, lenI_snoc]; omega
 ·
  split at h
  ·
   cases h
   have := drain_len (s.waits.length + 1) m.sid (nx16 ssn) s.waits (s.ready ++ [m])
   rw [lenI_snoc] at this
   simp only [lenS]; omega
  ·
   split at h
   · cases h; simp only [lenS, lenW_snoc]; omega
   · cases h
end Go.Proofs.Ytccbmmnkiihkaaa
namespace Go.Proofs.Ytccbmmnkiihkaaa
set_option maxRecDepth 100000
attribute [local irreducible] Go GoR GoL
theorem calm_bind {α β : Type} (P : Program) (x : Sem α) (f : α → Sem β) : calm P (x >>= f) = (calm P x).bind fun a => calm P (f a) := by
 induction x with
 | pure a => rfl
 | program k ih => exact ih P
 | mark m k ih => exact ih
 | _ => rfl
theorem calm_ite {α : Type} (P : Program) (c : Prop) [Decidable c] (x y : Sem α) : calm P (if c then x else y) = if c then calm P x else calm P y := by split <;> rfl
theorem calm_pure {α : Type} (P : Program) (a : α) : calm P (pure a) = some a := rfl
theorem calm_prog (P : Program) : calm P program = some P := rfl
theorem calm_under {P : Program} {t : TypeId} {d : TypeDesc} (h : P.underlying t = some d) : calm P (underlying t) = some d := by
 simp only [underlying, calm_bind, calm_prog, Option.bind_some, h, calm_pure]
theorem turn_calm (n : Nat) (a b : Nat × Nat) : calm Try.prog (Op.equalIn (n + 2) 115 (tf a) (tf b)) = some (((a.1 : Int) == (b.1 : Int)) && ((a.2 : Int) == (b.2 : Int))) := by
 have hu := Try.underlying115
 have h16 : Try.prog.underlying 22 = some (.int .u16) := by kernel_rfl
 have hs : Try.prog.stoodInHeld 115 = false := by kernel_rfl
 have leaf : ∀ x y : Int, calm Try.prog (Op.equalIn (n + 1) 22 (.int .u16 x) (.int .u16 y)) = some (x == y) := fun x y => by
  rw [Op.equalIn, calm_bind, calm_under h16]
  rfl
 have p0 : ∀ k : Nat × Nat, calm Try.prog (part 22 #[.int .u16 (k.1 : Nat), .int .u16 (k.2 : Nat)] 0) = some (.int .u16 (k.1 : Nat)) := fun k => by kernel_rfl
 have p1 : ∀ k : Nat × Nat, calm Try.prog (part 22 #[.int .u16 (k.1 : Nat), .int .u16 (k.2 : Nat)] 1) = some (.int .u16 (k.2 : Nat)) := fun k => by kernel_rfl
 unfold tf
 rw [Op.equalIn, calm_bind, calm_under hu]
 simp only [Option.bind_some, calm_bind, calm_prog, hs, Bool.false_eq_true, if_false, calm_pure]
 rw [← Array.forIn_toList]
 simp only [List.forIn_cons, List.forIn_nil, calm_bind, calm_ite, calm_pure, p0, p1, leaf, Option.bind_some]
 generalize ((a.1 : Int) == (b.1 : Int)) = r0
 cases r0 with
 | false => rfl
 | true =>
  have e1 : calm Try.prog (if "ssn" ≠ "_" then do
    let x ← part 22 #[.int .u16 (a.1 : Nat), .int .u16 (a.2 : Nat)] 1
    let y ← part 22 #[.int .u16 (b.1 : Nat), .int .u16 (b.2 : Nat)] 1
    let r ← Op.equalIn (n + 1) 22 x y
    if (!r) = true then pure (ForInStep.done (some false, ())) else pure (ForInStep.yield (none, ()))
    else pure (ForInStep.yield (none, ()))) = some (if (!((a.2 : Int) == (b.2 : Int))) = true then ForInStep.done (some false, ()) else ForInStep.yield (none, ())) := by
   rw [if_pos (by decide), calm_bind, p1, Option.bind_some, calm_bind, p1, Option.bind_some, calm_bind, leaf, Option.bind_some, calm_ite]
   split <;> rfl
  generalize ((a.2 : Int) == (b.2 : Int)) = r1 at *
  rw [if_pos (by decide), if_neg (by decide), Option.bind_some]
  dsimp only
  rw [calm_bind, e1]
  cases r1 <;> rfl
theorem turn_eq (a b : Nat × Nat) : eqKey Try.prog ((Try.prog.underlying 115).getD default) 115 (tf a) (tf b) = some (decide (a = b)) := by
 have h : eqKey Try.prog ((Try.prog.underlying 115).getD default) 115 (tf a) (tf b) = calm Try.prog (Op.equalIn (9998 + 2) 115 (tf a) (tf b)) := by
  rw [Try.underlying115]
  rfl
 rw [h, turn_calm]
 congr 1
 obtain ⟨a1, a2⟩ := a
 obtain ⟨b1, b2⟩ := b
 simp only
 by_cases q : a1 = b1
 ·
  by_cases r : a2 = b2
  · subst q r; simp
  ·
   rw [decide_eq_false (fun e => r (Prod.mk.inj e).2)]
   have : ((a2 : Int) == (b2 : Int)) = false := beq_eq_false_iff_ne.2 (by omega)
   rw [this]; simp
 ·
  rw [decide_eq_false (fun e => q (Prod.mk.inj e).1)]
  have : ((a1 : Int) == (b1 : Int)) = false := beq_eq_false_iff_ne.2 (by omega)
  rw [this]; simp
instance mgWaits : MG Try.prog 82 tf (.agg #[.int .u16 0, .bool false, .int .u32 0, .slice none 0 0]) := ⟨115, 39, (Try.prog.underlying 115).getD default, by kernel_rfl, by kernel_rfl, by kernel_rfl, rfl, fun em n => by kernel_rfl, turn_eq, fun a => rfl, fun a => by simp [tf, Instr.sameBits]⟩
instance miNext : MI Try.prog 81 .u16 (.int .u16 0) := ⟨22, 22, by kernel_rfl, by kernel_rfl, by kernel_rfl, rfl, fun em n => by kernel_rfl⟩
abbrev xC (st rm sp sb jb nx wt : Nat) (ra : Option Addr) (rl rc wh : Nat) : List Value := [.int .u16 (st : Nat), .int .i64 (rm : Nat), .int .i64 (sp : Nat), .pointer (some ⟨sb, 0, none⟩), .pointer (some ⟨jb, 0, none⟩), .map (some nx), .map (some wt), .slice ra rl rc, .int .i64 (wh : Nat)]
structure IA where
 st : Nat
 rm : Nat
 sp : Nat
 sb : Nat
 jb : Nat
 nx : Nat
 wt : Nat
structure IX (h : AHeap) (xb : Nat) (A : IA) (ra : Option Addr) (rc wh : Nat) (s : IS) (n0 : Nat) : Prop where
 xc : h.get xb = some (.cells (xC A.st A.rm A.sp A.sb A.jb A.nx A.wt ra s.ready.length rc wh) 84)
 nm : SMap h A.nx .u16 (nv s.next)
 wm : GMap tf h A.wt (wv s.waits)
 rv : Sv h 39 4 ra s.ready.length rc (ics s.ready)
 dr : ∀ m ∈ s.ready, Sv h 5 1 m.a m.z.length m.cap (m.z.map bv)
 dw : ∀ m ∈ s.waits.map (·.2), Sv h 5 1 m.a m.z.length m.cap (m.z.map bv)
 mr : ∀ m ∈ s.ready, m.sid < 65536 ∧ m.ppid < 4294967296
 mw : ∀ m ∈ s.waits.map (·.2), m.sid < 65536 ∧ m.ppid < 4294967296
 nb : ∀ p ∈ s.next, p.2 < 65536
 ne : A.nx ≠ A.wt
 ow : n0 ≤ xb ∧ n0 ≤ A.nx ∧ n0 ≤ A.wt ∧ Own n0 ra
theorem sv_out {h : AHeap} {t : TypeId} {sz : Nat} {a : Option Addr} {len cap : Nat} {cs : List Value} (k : Sv h t sz a len cap cs) {j : Nat} {o : AObj} (g : h.get j = some o) (ho : ∀ c, o ≠ .cells c t) : j ∉ blk a := by
 intro hj
 cases k with
 | nil => cases hj
 | mk hg _ _ _ =>
  simp only [blk, List.mem_singleton] at hj
  subst hj
  rw [g] at hg
  cases hg
  exact ho _ rfl
theorem sv_sv {h : AHeap} {t t' : TypeId} {sz sz' : Nat} {a a' : Option Addr} {len cap len' cap' : Nat} {cs cs' : List Value} (k : Sv h t sz a len cap cs) (k' : Sv h t' sz' a' len' cap' cs') (ht : t ≠ t') : ∀ j ∈ blk a, j ∉ blk a' := by
 intro j hj
 cases k with
 | nil => cases hj
 | mk hg _ _ _ =>
  simp only [blk, List.mem_singleton] at hj
  subst hj
  exact sv_out k' hg fun c e => by cases e; exact ht rfl
section
variable {h h' : AHeap} {xb : Nat} {A : IA} {ra : Option Addr} {rc wh : Nat} {s : IS} {n0 : Nat}
theorem IX.xr (X : IX h xb A ra rc wh s n0) : xb ∉ blk ra := sv_out X.rv X.xc fun c e => by cases e
theorem IX.nr (X : IX h xb A ra rc wh s n0) : A.nx ∉ blk ra := by obtain ⟨es, ck, g, -⟩ := X.nm; exact sv_out X.rv g fun c e => by cases e
theorem IX.wr (X : IX h xb A ra rc wh s n0) : A.wt ∉ blk ra := by obtain ⟨es, ck, g, -⟩ := X.wm; exact sv_out X.rv g fun c e => by cases e
theorem IX.xn (X : IX h xb A ra rc wh s n0) : A.nx ≠ xb := fun e => by obtain ⟨es, ck, g, -⟩ := X.nm; have := X.xc; rw [← e, g] at this; cases this
theorem IX.xw (X : IX h xb A ra rc wh s n0) : A.wt ≠ xb := fun e => by obtain ⟨es, ck, g, -⟩ := X.wm; have := X.xc; rw [← e, g] at this; cases this
theorem IX.out (X : IX h xb A ra rc wh s n0) {a : Option Addr} {len cap : Nat} {cs : List Value} (k : Sv h 5 1 a len cap cs) : ∀ i ∈ blk a, i ∉ [xb, A.nx, A.wt] ++ blk ra := fun i hi hm => by
 simp only [List.cons_append, List.nil_append, List.mem_cons] at hm
 rcases hm with rfl | rfl | rfl | q
 · exact sv_out k X.xc (fun c e => by cases e) hi
 · obtain ⟨es, ck, g, -⟩ := X.nm; exact sv_out k g (fun c e => by cases e) hi
 · obtain ⟨es, ck, g, -⟩ := X.wm; exact sv_out k g (fun c e => by cases e) hi
 · exact sv_sv k X.rv (by decide) i hi q
theorem IX.same (X : IX h xb A ra rc wh s n0) (k : Same h h') : IX h' xb A ra rc wh s n0 := { X with xc := k.get X.xc, nm := X.nm.same k, wm := X.wm.same k, rv := X.rv.same k, dr := fun m hm => (X.dr m hm).same k, dw := fun m hm => (X.dw m hm).same k }
end
set_option maxHeartbeats 8000000 in
theorem tells_spec (xb : Nat) (A : IA) (ra : Option Addr) (rc wh : Nat) (s : IS) (n0 : Nat) (m : IM) (hl : s.ready.length ≤ 1000000) (h : AHeap) (hn0 : n0 ≤ h.n) (X : IX h xb A ra rc wh s n0) (hm : m.sid < 65536 ∧ m.ppid < 4294967296) (hz : Sv h 5 1 m.a m.z.length m.cap (m.z.map bv)) : CallS Try.prog ([xb] ++ blk ra) 55 [.pointer (some ⟨xb, 0, none⟩), iV m] h fun v h' => ∃ ra' rc', IX h' xb A ra' rc' wh { s with ready := s.ready ++ [m] } n0 ∧ ∀ i ∈ blk ra', i ∈ blk ra ∨ h.n ≤ i := by
 have gx := X.xc
 have hlt := AHeap.lt gx
 have xr := X.xr
 have rlt := X.rv.lt
 (refine CallS.of2 Try.func55 rfl Try.ntmps55 Try.results55 rfl ?_)
 simp only [iV, iC]
 refine Go.runN (g:=?_)
 refine Go.name ?_
 intro h1 e1
 have s1 : Same h h1 := by subst e1; exact (Same.refl h).push _
 have g1 : h1.get h.n = some (.cells [.int .u16 (m.sid : Nat), .bool m.un, .int .u32 (m.ppid : Nat), .slice m.a m.z.length m.cap] 39) := by subst e1; exact AHeap.get_push_same _ _
 have n1 : h1.n = h.n + 1 := by subst e1; rfl
 clear e1
 have X1 := X.same s1
 have gx1 := X1.xc
 clear X gx
 refine Go.kk 2 rfl ?_
 refine Go.loud (by kernel_rfl) rfl ?_
 (refine Go.runL (g:=?_))
 refine GoL.buildRo (c := iC m) rfl rfl rfl rfl rfl (by decide) (by rfl) (by rfl) ?_
 intro b2 h2 hb2 rb2 ob2 s2 n2
 have m2 := s2.1
 have X2 := X1.same s2
 refine GoL.appendV rfl rfl rfl rfl rfl rfl X2.rv hb2 (fun i hi => .inl (by simp [hi])) (by omega) (by omega) (by rfl) ?_
 intro b3 c3 h3 rd3 wr3 hwr3 hrd3 sv3 k3 o3
 have m3 := k3.1
 have gx3 := k3.get X2.xc xr
 have hdis : ∀ b ∈ wr3, b ≠ h.n ∧ b ≠ xb := fun b hb => by
  have q := hwr3 b hb
  have := rlt b q
  exact ⟨by omega, fun e => xr (by rw [← e]; exact q)⟩
 have hdis2 := hdis
 (refine Go.runL (g:=?_))
 refine GoL.st (g:=?_)
 (refine Go.runL (g:=?_))
 refine GoL.endC (g:=?_)
 clear hdis hdis2
 refine Go.name ?_
 intro h4 e4
 have k4 : Keeps [xb] h3 h4 := by subst e4; exact (Keeps.rf _ _).pt (.inl (by simp)) _
 have gx4 : h4.get xb = some (.cells (xC A.st A.rm A.sp A.sb A.jb A.nx A.wt b3 (s.ready.length + 1) c3 wh) 84) := by subst e4; exact get_put_self gx3
 clear e4
 have o4 : ∀ i ∈ blk b3, i ∈ blk ra ∨ h.n ≤ i := fun i hi => (o3 i hi).imp id fun q => by omega
 have xb3 : xb ∉ blk b3 := fun q => by
  rcases o4 _ q with z | z
  · exact xr z
  · omega
 have k24 : Keeps ([xb] ++ blk ra) h2 h4 := ⟨by have := k3.1; have := k4.1; omega, fun i hi hn => by
  simp only [List.cons_append, List.nil_append, List.mem_cons, not_or] at hn
  rw [k4.2 i (by have := k3.1; omega) (by simpa using hn.1), k3.2 i hi hn.2]⟩
 have dat : ∀ {a : Option Addr} {len cap : Nat} {cs : List Value}, Sv h2 5 1 a len cap cs → Sv h4 5 1 a len cap cs := fun k => k.keeps k24 fun i hi q => X2.out k i hi (by simp only [List.cons_append, List.nil_append, List.mem_cons] at q ⊢; rcases q with q | q; exact .inl q; exact .inr (.inr (.inr q)))
 have nxk : A.nx ∉ [xb] ++ blk ra := fun q => by
  simp only [List.cons_append, List.nil_append, List.mem_cons] at q
  rcases q with q | q
  · exact X2.xn q
  · exact X2.nr q
 have wtk : A.wt ∉ [xb] ++ blk ra := fun q => by
  simp only [List.cons_append, List.nil_append, List.mem_cons] at q
  rcases q with q | q
  · exact X2.xw q
  · exact X2.wr q
 have hl4 : (s.ready ++ [m]).length = s.ready.length + 1 := by simp
 (first|refine Go.finA rfl ?_|refine Go.finB rfl (hq:=?_))
 refine ⟨b3, c3, ⟨by simp only [hl4]; exact gx4, X2.nm.keeps k24 nxk, X2.wm.keeps k24 wtk, ?_, fun q hq => ?_, fun q hq => dat (X2.dw q hq), fun q hq => ?_, X2.mw, X2.nb, X2.ne, ⟨X2.ow.1, X2.ow.2.1, X2.ow.2.2.1, fun i hi => ?_⟩⟩, o4⟩
 ·
  simp only [hl4]
  rw [ics_snoc]
  exact sv3.keeps k4 (fun i hi q => by simp only [List.mem_singleton] at q; subst q; exact xb3 hi)
 ·
  rcases List.mem_append.1 hq with z | z
  · exact dat (X2.dr q z)
  ·
   simp only [List.mem_singleton] at z
   subst z
   exact dat (hz.same (s1.trans s2))
 ·
  rcases List.mem_append.1 hq with z | z
  · exact X2.mr q z
  ·
   simp only [List.mem_singleton] at z
   subst z
   exact hm
 ·
  rcases o4 i hi with z | z
  · exact X2.ow.2.2.2 i z
  · omega
end Go.Proofs.Ytccbmmnkiihkaaa
namespace Go.Proofs.Ytccbmmnkiihkaaa
set_option maxRecDepth 100000
attribute [local irreducible] Go GoR GoL
def span16 (a b : Nat) : Nat := (b + 65536 - a) % 65536
theorem span16_lt (a b : Nat) : span16 a b < 65536 := Nat.mod_lt _ (by decide)
theorem sub16 (a b : Nat) (ha : a < 65536) (hb : b < 65536) : iBin .sub .u16 (b : Int) (a : Int) = some (.int .u16 ((span16 a b : Nat) : Int)) := by
 have e : ((span16 a b : Nat) : Int) = ((b : Int) - (a : Int)) % 65536 := by unfold span16; omega
 simp [iBin, IntKind.wrap, IntKind.bits, IntKind.signed, e]
theorem add16n (e : Nat) : iBin .add .u16 (e : Int) ((1 : Nat) : Int) = some (.int .u16 ((nx16 e : Nat) : Int)) := by
 have q : ((nx16 e : Nat) : Int) = ((e : Int) + 1) % 65536 := by unfold nx16; omega
 simp [iBin, IntKind.wrap, IntKind.bits, IntKind.signed, q]
theorem nx16_lt (e : Nat) : nx16 e < 65536 := Nat.mod_lt _ (by decide)
set_option maxHeartbeats 8000000 in
theorem before16_spec (a b : Nat) (ha : a < 65536) (hb : b < 65536) (h : AHeap) : CallS Try.prog [] 56 [.int .u16 a, .int .u16 b] h fun v h' => v = .bool (bef16 a b) ∧ h' = h := by
 have hs := sub16 a b ha hb
 have hl := span16_lt a b
 have hb16 : bef16 a b = (decide (0 < span16 a b) && decide (span16 a b < 32768)) := rfl
 rw [hb16]
 generalize span16 a b = s at *
 (refine CallS.of2 Try.func56 rfl Try.ntmps56 Try.results56 rfl ?_)
 (iterate 8 (refine Go.one (g:=?_)))
 refine GoR.bin rfl rfl rfl rfl rfl rfl hs ?_
 rcases Nat.lt_or_ge 0 s with s0 | s0
 case inr =>
  obtain rfl : s = 0 := by omega
  (refine Go.run (g:=?_))
  (first|refine Go.finA rfl ?_|refine Go.finB rfl (hq:=?_))
  exact ⟨rfl, rfl⟩
 (refine Go.run (g:=?_))
 refine GoR.com (v := .int .u16 (65535 : Nat)) rfl rfl rfl rfl rfl (by kernel_rfl) ?_
 (refine Go.run (g:=?_))
 (first|refine Go.finA rfl ?_|refine Go.finB rfl (hq:=?_))
 refine ⟨?_, rfl⟩
 simp only [retV]
 rw [decide_eq_true s0, Bool.true_and]
 exact congrArg Value.bool (decide_eq_decide.2 (by omega))
section
variable {h h' : AHeap} {xb : Nat} {A : IA} {ra : Option Addr} {rc wh wh' : Nat} {s : IS} {n0 : Nat}
theorem IX.kept {wr : List Nat} (X : IX h xb A ra rc wh s n0) (k : Keeps wr h h') (hx : ∀ j ∈ [xb, A.nx, A.wt] ++ blk ra, j ∉ wr) (hd : ∀ {a : Option Addr} {len cap : Nat} {cs : List Value}, Sv h 5 1 a len cap cs → ∀ i ∈ blk a, i ∉ wr) : IX h' xb A ra rc wh s n0 := { X with xc := k.get X.xc (hx _ (by simp)), nm := X.nm.keeps k (hx _ (by simp)), wm := X.wm.keeps k (hx _ (by simp)), rv := X.rv.keeps k (fun j hj => hx j (by simp [hj])), dr := fun m hm => (X.dr m hm).keeps k (hd (X.dr m hm)), dw := fun m hm => (X.dw m hm).keeps k (hd (X.dw m hm)) }
theorem IX.whole (X : IX h xb A ra rc wh s n0) (k : Keeps [xb] h h') (g : h'.get xb = some (.cells (xC A.st A.rm A.sp A.sb A.jb A.nx A.wt ra s.ready.length rc wh') 84)) : IX h' xb A ra rc wh' s n0 := { X with xc := g, nm := X.nm.keeps k (by simpa using X.xn), wm := X.wm.keeps k (by simpa using X.xw), rv := X.rv.keeps k (fun j hj hm => by simp only [List.mem_singleton] at hm; subst hm; exact X.xr hj), dr := fun m hm => (X.dr m hm).keeps k (fun i hi q => X.out (X.dr m hm) i hi (by simp only [List.mem_singleton] at q; simp [q])), dw := fun m hm => (X.dw m hm).keeps k (fun i hi q => X.out (X.dw m hm) i hi (by simp only [List.mem_singleton] at q; simp [q])) }
theorem IX.setNext (X : IX h xb A ra rc wh s n0) {l : List (Nat × Nat)} (k : Keeps [A.nx] h h') (M : SMap h' A.nx .u16 (nv l)) (hl : ∀ p ∈ l, p.2 < 65536) : IX h' xb A ra rc wh { s with next := l } n0 := { X with xc := k.get X.xc (by simpa using Ne.symm X.xn), nm := M, nb := hl, wm := X.wm.keeps k (by simpa using Ne.symm X.ne), rv := X.rv.keeps k (fun j hj hm => by simp only [List.mem_singleton] at hm; subst hm; exact X.nr hj), dr := fun m hm => (X.dr m hm).keeps k (fun i hi q => X.out (X.dr m hm) i hi (by simp only [List.mem_singleton] at q; simp [q])), dw := fun m hm => (X.dw m hm).keeps k (fun i hi q => X.out (X.dw m hm) i hi (by simp only [List.mem_singleton] at q; simp [q])) }
theorem IX.setWaits (X : IX h xb A ra rc wh s n0) {w : WL} (k : Keeps [A.wt] h h') (M : GMap tf h' A.wt (wv w)) (hd : ∀ m ∈ w.map (·.2), Sv h 5 1 m.a m.z.length m.cap (m.z.map bv)) (hb : ∀ m ∈ w.map (·.2), m.sid < 65536 ∧ m.ppid < 4294967296) : IX h' xb A ra rc wh { s with waits := w } n0 := { X with xc := k.get X.xc (by simpa using Ne.symm X.xw), nm := X.nm.keeps k (by simpa using X.ne), wm := M, rv := X.rv.keeps k (fun j hj hm => by simp only [List.mem_singleton] at hm; subst hm; exact X.wr hj), dr := fun m hm => (X.dr m hm).keeps k (fun i hi q => X.out (X.dr m hm) i hi (by simp only [List.mem_singleton] at q; simp [q])), dw := fun m hm => (hd m hm).keeps k (fun i hi q => X.out (hd m hm) i hi (by simp only [List.mem_singleton] at q; simp [q])), mw := hb }
theorem IX.lts (X : IX h xb A ra rc wh s n0) : ∀ j ∈ [xb, A.nx, A.wt] ++ blk ra, j < h.n := fun j hj => by
 simp only [List.cons_append, List.nil_append, List.mem_cons] at hj
 rcases hj with rfl | rfl | rfl | q
 · exact AHeap.lt X.xc
 · exact X.nm.lt
 · exact X.wm.lt
 · exact X.rv.lt j q
theorem IX.owns (X : IX h xb A ra rc wh s n0) : ∀ j ∈ [xb, A.nx, A.wt] ++ blk ra, n0 ≤ j := fun j hj => by
 simp only [List.cons_append, List.nil_append, List.mem_cons] at hj
 rcases hj with rfl | rfl | rfl | q
 · exact X.ow.1
 · exact X.ow.2.1
 · exact X.ow.2.2.1
 · exact X.ow.2.2.2 j q
end
theorem drainN_some {n sid t : Nat} {w : WL} {rd : List IM} {q : IM} (h : gl w (sid, t) = some q) : drainN (n + 1) sid t w rd = drainN n sid (nx16 t) (gdel w (sid, t)) (rd ++ [q]) := by
 rw [drainN, h]
theorem drainN_none {n sid t : Nat} {w : WL} {rd : List IM} (h : gl w (sid, t) = none) : drainN (n + 1) sid t w rd = (t, w, rd) := by
 rw [drainN, h]
theorem keeps_push {wr : List Nat} {h h' : AHeap} (k : Keeps wr h h') (o : AObj) : Keeps wr h (h'.push o) := ⟨by have := k.1; simp only [AHeap.n_push]; omega, fun i hi hn => by rw [AHeap.get_push_ne _ _ (by have := k.1; omega)]; exact k.2 i hi hn⟩
set_option maxHeartbeats 32000000 in
theorem message_spec (xb : Nat) (A : IA) (ra : Option Addr) (rc wh : Nat) (s : IS) (n0 : Nat) (m : IM) (ssn : Nat) (hss : ssn < 65536) (hl : s.ready.length + s.waits.length ≤ 900000) (hwh : wh + m.z.length ≤ 1000000000) (h : AHeap) (hn0 : n0 ≤ h.n) (X : IX h xb A ra rc wh s n0) (hm : m.sid < 65536 ∧ m.ppid < 4294967296) (hz : Sv h 5 1 m.a m.z.length m.cap (m.z.map bv)) : CallS Try.prog ([xb, A.nx, A.wt] ++ blk ra) 39 [.pointer (some ⟨xb, 0, none⟩), iV m, .int .u16 ssn] h fun v h' => ∃ ra' rc', (match msgN s m ssn with
  | none => IX h' xb A ra' rc' wh s n0
  | some s' => IX h' xb A ra' rc' (wh + m.z.length) s' n0) ∧ ∀ i ∈ blk ra', i ∈ blk ra ∨ h.n ≤ i := by
 have xlt := X.lts
 obtain ⟨hm1, hm2⟩ := hm
 (refine CallS.of3 Try.func39 rfl Try.ntmps39 Try.results39 rfl ?_)
 simp only [iV, iC]
 refine Go.runN (g:=?_)
 refine Go.name ?_
 intro h1 e1
 have s1 : Same h h1 := by subst e1; exact (((Same.refl h).push _).push _).put (by simp only [AHeap.n_push]; omega) _
 have g4 : h1.get h.n = some (.cells [.int .u16 (m.sid : Nat), .bool m.un, .int .u32 (m.ppid : Nat), .slice m.a m.z.length m.cap] 39) := by subst e1; exact hg_
 have g6 : h1.get (h.n + 1) = some (.cells [.int .u16 (m.sid : Nat), .int .u16 (ssn : Nat)] 115) := by subst e1; exact hg_
 have n1 : h1.n = h.n + 2 := by subst e1; rfl
 clear e1
 have X1 := X.same s1
 have gx1 := X1.xc
 have hz1 := hz.same s1
 simp only [AHeap.n_push]
 clear X hz s1
 refine Go.kk 2 rfl ?_
 refine Go.loud (by kernel_rfl) rfl ?_
 (refine Go.runL (g:=?_))
 refine GoL.lookupG2 (n := (m.sid, ssn)) rfl rfl rfl rfl rfl rfl X1.wm ?_
 rw [gl_wv]
 obtain ⟨y0, y1, y2, y3, y4, y5, hy⟩ : ∃ (y0 : Nat) (y1 : Bool) (y2 : Nat) (y3 : Option Addr) (y4 y5 : Nat), (Option.map iV (gl s.waits (m.sid, ssn))).getD (.agg #[.int .u16 0, .bool false, .int .u32 0, .slice none 0 0]) = .agg #[.int .u16 (y0 : Nat), .bool y1, .int .u32 (y2 : Nat), .slice y3 y4 y5] := by
  cases gl s.waits (m.sid, ssn) with
  | none => exact ⟨0, false, 0, none, 0, 0, rfl⟩
  | some w => exact ⟨_, _, _, _, _, _, rfl⟩
 have htw : (Option.map iV (gl s.waits (m.sid, ssn))).isSome = (gl s.waits (m.sid, ssn)).isSome := by cases gl s.waits (m.sid, ssn) <;> rfl
 rw [hy, htw]
 have htn : gl s.waits (m.sid, ssn) = none ↔ (gl s.waits (m.sid, ssn)).isSome = false := by cases gl s.waits (m.sid, ssn) <;> simp
 generalize htwb : (gl s.waits (m.sid, ssn)).isSome = tw at *
 clear hy htw
 (refine Go.runL (g:=?_))
 refine GoL.st (g:=?_)
 (refine Go.runL (g:=?_))
 refine GoL.endN (g:=?_)
 refine Go.name ?_
 intro h2 e2
 have s2 : Same h1 h2 := by subst e2; exact ((Same.refl h1).push _).put (Nat.le_refl _) _
 have n2 := s2.1
 clear e2
 have X2 := X1.same s2
 have gx2 := X2.xc
 have g42 := s2.get g4
 have g62 := s2.get g6
 have hz2 := hz1.same s2
 have nbx := X2.nb
 clear X1 g4 g6 hz1 gx1 s2
 (refine Go.run (g:=?_))
 refine GoR.lookup rfl rfl rfl rfl rfl rfl X2.nm.imap ?_
 rw [al_nv]
 have nlt := nget_lt (k := m.sid) nbx
 cases hun : m.un with
 | true =>
  have hmsg : msgN s m ssn = some { s with ready := s.ready ++ [m] } := by unfold msgN; rw [if_pos hun]
  (refine Go.run (g:=?_))
  refine GoR.callW rfl rfl rfl rfl rfl rfl rfl (((tells_spec xb A ra rc wh s n0 m (by omega) _ (by omega) X2 ⟨hm1, hm2⟩ hz2).argA).mono ?_)
  rintro _ h3 ⟨ra3, rc3, XE, o3⟩ k3
  refine ⟨fun i hi => .inl (by simp only [List.cons_append, List.nil_append, List.mem_cons] at hi ⊢; rcases hi with q | q; exact .inl q; exact .inr (.inr (.inr q))), ?_⟩
  have n3 := k3.1
  have oE : ∀ i ∈ blk ra3, i ∈ blk ra ∨ h.n ≤ i := fun i hi => (o3 i hi).imp id fun q => by omega
  have g43 := k3.get g42 (fun q => by
   have := xlt h.n (by simp only [List.cons_append, List.nil_append, List.mem_cons] at q ⊢; rcases q with q | q; exact .inl q; exact .inr (.inr (.inr q)))
   omega)
  clear X2 gx2 g42 g62 hz2 k3
  have gxE := XE.xc
  have ltE := XE.lts
  refine Go.runN (g:=?_)
  refine Go.kk 2 rfl ?_
  refine Go.loud (by kernel_rfl) rfl ?_
  (refine Go.runL (g:=?_))
  refine GoL.st (g:=?_)
  (refine Go.runL (g:=?_))
  refine GoL.endN (g:=?_)
  refine Go.name ?_
  intro h9 e9
  have k9 : Keeps [xb] h3 h9 := by subst e9; exact (Keeps.rf _ _).pt (.inl (by simp)) _
  have XF := XE.whole (wh' := wh + m.z.length) k9 (by subst e9; exact get_put_self gxE)
  clear e9
  (first|refine Go.finA rfl ?_|refine Go.finB rfl (hq:=?_))
  rw [hmsg]
  exact ⟨_, _, XF, oE⟩
 | false =>
  have hunf : ¬ m.un = true := by rw [hun]; decide
  by_cases hnx : ssn = nget s.next m.sid
  case neg =>
   have hbs := before16_spec (nget s.next m.sid) ssn nlt hss
   (refine Go.run (g:=?_))
   refine GoR.call rfl rfl rfl rfl rfl rfl rfl (((hbs _).argA).mono ?_)
   rintro _ h3 ⟨rfl, rfl⟩ -
   by_cases hc : bef16 (nget s.next m.sid) ssn = true ∧ gl s.waits (m.sid, ssn) = none
   ·
    have hmsg : msgN s m ssn = some { s with waits := s.waits ++ [((m.sid, ssn), m)] } := by unfold msgN; rw [if_neg hunf, if_neg hnx, if_pos hc]
    have htw0 := htn.1 hc.2
    rw [hc.1]
    subst htw0
    refine Go.runN (g:=?_)
    refine Go.kk 2 rfl ?_
    refine Go.loud (by kernel_rfl) rfl ?_
    (refine Go.runL (g:=?_))
    refine GoL.mapUpdateG (n := (m.sid, ssn)) (.inl rfl) rfl rfl rfl rfl rfl X2.wm (.inl (by simp)) ?_
    intro h4 M4 k4 n4
    have hdis : ∀ b ∈ ([] : List Nat), b ≠ h.n := fun b hb => by cases hb
    have hdis2 := hdis
    (refine Go.runL (g:=?_))
    refine GoL.endC (g:=?_)
    clear hdis hdis2
    have M4' : GMap tf h4 A.wt (wv (s.waits ++ [((m.sid, ssn), m)])) := by rw [← gset_wv _ _ _ hc.2]; exact M4
    have XE := X2.setWaits k4 M4' (fun q hq => by
     rw [List.map_append] at hq
     rcases List.mem_append.1 hq with z | z
     · exact X2.dw q z
     · simp only [List.map_cons, List.map_nil, List.mem_singleton] at z; subst z; exact hz2) (fun q hq => by
     rw [List.map_append] at hq
     rcases List.mem_append.1 hq with z | z
     · exact X2.mw q z
     · simp only [List.map_cons, List.map_nil, List.mem_singleton] at z; subst z; exact ⟨hm1, hm2⟩)
    have wlt := xlt A.wt (by simp)
    have g43 := k4.get g42 (by simp; omega)
    have oE : ∀ i ∈ blk ra, i ∈ blk ra ∨ h.n ≤ i := fun i hi => .inl hi
    clear X2 gx2 g42 g62 hz2 k4 M4 M4'
    have gxE := XE.xc
    have ltE := XE.lts
    refine Go.runN (g:=?_)
    refine Go.kk 2 rfl ?_
    refine Go.loud (by kernel_rfl) rfl ?_
    (refine Go.runL (g:=?_))
    refine GoL.st (g:=?_)
    (refine Go.runL (g:=?_))
    refine GoL.endN (g:=?_)
    refine Go.name ?_
    intro h9 e9
    have k9 : Keeps [xb] h4 h9 := by subst e9; exact (Keeps.rf _ _).pt (.inl (by simp)) _
    have XF := XE.whole (wh' := wh + m.z.length) k9 (by subst e9; exact get_put_self gxE)
    clear e9
    (first|refine Go.finA rfl ?_|refine Go.finB rfl (hq:=?_))
    rw [hmsg]
    exact ⟨_, _, XF, oE⟩
   ·
    have hmsg : msgN s m ssn = none := by unfold msgN; rw [if_neg hunf, if_neg hnx, if_neg hc]
    have hbt : bef16 (nget s.next m.sid) ssn = true → tw = true := fun e => by
     cases htv : tw with
     | true => rfl
     | false => exact absurd ⟨e, htn.2 htv⟩ hc
    cases hbv : bef16 (nget s.next m.sid) ssn with
    | false =>
     (refine Go.run (g:=?_))
     (first|refine Go.finA rfl ?_|refine Go.finB rfl (hq:=?_))
     exact ⟨ra, rc, by rw [hmsg]; exact X2, fun i hi => .inl hi⟩
    | true =>
     obtain rfl := hbt hbv
     (refine Go.run (g:=?_))
     (first|refine Go.finA rfl ?_|refine Go.finB rfl (hq:=?_))
     exact ⟨ra, rc, by rw [hmsg]; exact X2, fun i hi => .inl hi⟩
  (refine Go.run (g:=?_))
  refine GoR.callW rfl rfl rfl rfl rfl rfl rfl (((tells_spec xb A ra rc wh s n0 m (by omega) _ (by omega) X2 ⟨hm1, hm2⟩ hz2).argA).mono ?_)
  rintro _ h3 ⟨ra3, rc3, X3, o3⟩ k3
  refine ⟨fun i hi => .inl (by simp only [List.cons_append, List.nil_append, List.mem_cons] at hi ⊢; rcases hi with q | q; exact .inl q; exact .inr (.inr (.inr q))), ?_⟩
  have n3 := k3.1
  have hkk : ∀ j, h.n ≤ j → j ∉ [xb] ++ blk ra := fun j hj q => by
   have := xlt j (by simp only [List.cons_append, List.nil_append, List.mem_cons] at q ⊢; rcases q with q | q; exact .inl q; exact .inr (.inr (.inr q)))
   omega
  have g43 := k3.get g42 (hkk _ (Nat.le_refl _))
  have g63 := k3.get g62 (hkk _ (by omega))
  obtain ⟨T, hT⟩ : ∃ T, T = drainN (s.waits.length + 1) m.sid (nx16 ssn) s.waits (s.ready ++ [m]) := ⟨_, rfl⟩
  have hmsgT : msgN s m ssn = some { next := nput s.next m.sid T.1, waits := T.2.1, ready := T.2.2 } := by unfold msgN; rw [if_neg hunf, if_pos hnx, ← hT]
  clear X2 gx2 g42 g62 hz2 k3
  (refine Go.run (g:=?_))
  refine Go.loop (α := Bool × Nat × Nat × WL × List IM × Option Addr × Nat × AHeap) (fun x => [(10, .bool x.1), (6, .pointer (some ⟨h.n + 1, 0, none⟩)), (4, .pointer (some ⟨h.n, 0, none⟩)), (0, .pointer (some ⟨xb, 0, none⟩))]) (fun _ => []) (fun x => x.2.2.2.2.2.2.2) (fun x => IX x.2.2.2.2.2.2.2 xb A x.2.2.2.2.2.1 x.2.2.2.2.2.2.1 wh ⟨s.next, x.2.2.2.1, x.2.2.2.2.1⟩ n0 ∧ x.2.2.2.2.2.2.2.get h.n = some (.cells [.int .u16 (m.sid : Nat), .bool m.un, .int .u32 (m.ppid : Nat), .slice m.a m.z.length m.cap] 39) ∧ x.2.2.2.2.2.2.2.get (h.n + 1) = some (.cells [.int .u16 (m.sid : Nat), .int .u16 (x.2.2.1 : Nat)] 115) ∧ h2.n ≤ x.2.2.2.2.2.2.2.n ∧ (∀ i ∈ blk x.2.2.2.2.2.1, i ∈ blk ra ∨ h2.n ≤ i) ∧ x.2.2.2.2.1.length + x.2.2.2.1.length ≤ 900001 ∧ x.2.2.1 < 65536 ∧ (x.1 = true → drainN x.2.1 m.sid (nx16 x.2.2.1) x.2.2.2.1 x.2.2.2.2.1 = T ∧ x.2.2.2.1.length < x.2.1) ∧ (x.1 = false → (x.2.2.1, x.2.2.2.1, x.2.2.2.2.1) = T)) (fun x => if x.1 = true then x.2.1 else 0) (true, s.waits.length + 1, ssn, s.waits, s.ready ++ [m], ra3, rc3, h3) ⟨X3, g43, g63, n3, o3, by simp only [List.length_append, List.length_cons, List.length_nil]; omega, hss, fun _ => ⟨hT.symm, Nat.lt_succ_self _⟩, fun e => by cases e⟩ ⟨rfl, rfl, rfl, rfl, trivial⟩ rfl rfl ?_
  clear X3 g43 g63 hT
  rintro ⟨is, n, t, w, rd, ra', rc', H⟩ ⟨X, g4, g6, nH, oR, hlen, ht, hT, hF⟩
  simp only at X g4 g6 nH oR hlen ht hT hF ⊢
  have gx := X.xc
  have hnin : ∀ j, h.n ≤ j → j < h2.n → j ∉ [xb, A.nx, A.wt] ++ blk ra' := fun j h1' h2' q => by
   simp only [List.cons_append, List.nil_append, List.mem_cons] at q
   have l1 := xlt xb (by simp)
   have l2 := xlt A.nx (by simp)
   have l3 := xlt A.wt (by simp)
   rcases q with q | q | q | q
   · omega
   · omega
   · omega
   ·
    rcases oR j q with z | z
    · have := xlt j (by simp [z]); omega
    · omega
  have l1 := xlt xb (by simp)
  have l2 := xlt A.nx (by simp)
  have l3 := xlt A.wt (by simp)
  have oE : ∀ i ∈ blk ra', i ∈ blk ra ∨ h.n ≤ i := fun i hi => (oR i hi).imp id fun q => by omega
  cases is with
  | false =>
   have hF := hF rfl
   subst hF
   simp only at hmsgT
   have hmsg := hmsgT
   clear hT
   refine Go.runN (g:=?_)
   refine Go.kk 2 rfl ?_
   refine Go.loud (by kernel_rfl) rfl ?_
   (refine Go.runL (g:=?_))
   refine GoL.mapUpdateS (.inl rfl) rfl rfl rfl rfl rfl X.nm (.inl (by simp)) ?_
   intro H5 M5 k5 n5
   rw [aset_nv] at M5
   have hdis : ∀ b ∈ ([] : List Nat), b ≠ h.n := fun b hb => by cases hb
   have hdis2 := hdis
   (refine Go.runL (g:=?_))
   refine GoL.endC (g:=?_)
   clear hdis hdis2
   have XE := X.setNext k5 M5 (nput_lt X.nb ht)
   have g45 := k5.get g4 (by simp; omega)
   clear X g4 g6 gx k5 M5
   have gxE := XE.xc
   have ltE := XE.lts
   refine Go.runN (g:=?_)
   refine Go.kk 2 rfl ?_
   refine Go.loud (by kernel_rfl) rfl ?_
   (refine Go.runL (g:=?_))
   refine GoL.st (g:=?_)
   (refine Go.runL (g:=?_))
   refine GoL.endN (g:=?_)
   refine Go.name ?_
   intro h9 e9
   have k9 : Keeps [xb] H5 h9 := by subst e9; exact (Keeps.rf _ _).pt (.inl (by simp)) _
   have XF := XE.whole (wh' := wh + m.z.length) k9 (by subst e9; exact get_put_self gxE)
   clear e9
   (first|refine Go.finA rfl ?_|refine Go.finB rfl (hq:=?_))
   rw [hmsg]
   exact ⟨_, _, XF, oE⟩
  | true =>
   obtain ⟨hT, hwn⟩ := hT rfl
   obtain ⟨n, rfl⟩ : ∃ k, n = k + 1 := ⟨n - 1, by omega⟩
   clear hF
   (refine Go.run (g:=?_))
   refine GoR.bin rfl rfl rfl rfl rfl rfl (add16n t) ?_
   refine Go.runN (g:=?_)
   have Xlt := X.lts
   refine Go.name ?_
   intro H1 e1
   have k1 : Keeps [h.n + 1] H H1 := by subst e1; exact keeps_push ((Keeps.rf _ _).pt (.inl (by simp)) _) _
   have g61 : H1.get (h.n + 1) = some (.cells [.int .u16 (m.sid : Nat), .int .u16 (nx16 t : Nat)] 115) := by subst e1; exact get_push_lt (get_put_self g6)
   have g111 : H1.get H.n = some (.cells [.int .u16 0, .bool false, .int .u32 0, .slice none 0 0] 39) := by subst e1; exact AHeap.get_push_same _ _
   have n1' : H1.n = H.n + 1 := by subst e1; rfl
   clear e1
   have X1 := X.kept k1 (fun j hj q => by simp only [List.mem_singleton] at q; subst q; exact hnin _ (by omega) (by omega) hj) (fun k i hi q => by simp only [List.mem_singleton] at q; subst q; exact sv_out k g6 (fun c e => by cases e) hi)
   have g41 := k1.get g4 (by simp)
   simp only [AHeap.n_put, AHeap.n_push]
   clear X g4 g6 gx k1
   have gx1 := X1.xc
   refine Go.kk 2 rfl ?_
   refine Go.loud (by kernel_rfl) rfl ?_
   (refine Go.runL (g:=?_))
   refine GoL.lookupG2 (n := (m.sid, nx16 t)) rfl rfl rfl rfl rfl rfl X1.wm ?_
   rw [gl_wv]
   cases hg : gl w (m.sid, nx16 t) with
   | none =>
    simp only [Option.map_none, Option.getD_none, Option.isSome_none]
    (refine Go.runL (g:=?_))
    refine GoL.st (g:=?_)
    (refine Go.runL (g:=?_))
    refine GoL.endN (g:=?_)
    refine Go.name ?_
    intro H2 e2
    have k2 : Keeps [H.n] H1 H2 := by subst e2; exact (Keeps.rf _ _).pt (.inl (by simp)) _
    clear e2
    have n2' := k2.1
    have X2 := X1.kept k2 (fun j hj q => by simp only [List.mem_singleton] at q; subst q; have := Xlt _ hj; omega) (fun k i hi q => by simp only [List.mem_singleton] at q; subst q; exact sv_out k g111 (fun c e => by cases e) hi)
    have g42 := k2.get g41 (by simp; omega)
    have g62 := k2.get g61 (by simp; omega)
    clear X1 g41 g61 g111 gx1 k2
    (refine Go.run (g:=?_))
    exact Go.again (false, n, nx16 t, w, rd, ra', rc', H2) ⟨X2, g42, g62, by simp only; omega, oR, hlen, nx16_lt t, (fun e => by cases e), fun _ => by rw [drainN_none hg] at hT; exact hT⟩ (by simp) ⟨rfl, rfl, rfl, rfl, trivial⟩ rfl rfl
   | some q =>
    simp only [Option.map_some, Option.getD_some, Option.isSome_some, iV, iC]
    (refine Go.runL (g:=?_))
    refine GoL.st (g:=?_)
    (refine Go.runL (g:=?_))
    refine GoL.endN (g:=?_)
    refine Go.name ?_
    intro H2 e2
    have k2 : Keeps [H.n] H1 H2 := by subst e2; exact (Keeps.rf _ _).pt (.inl (by simp)) _
    have g112 : H2.get H.n = some (.cells [.int .u16 (q.sid : Nat), .bool q.un, .int .u32 (q.ppid : Nat), .slice q.a q.z.length q.cap] 39) := by subst e2; exact get_put_self g111
    clear e2
    have n2' := k2.1
    have X2 := X1.kept k2 (fun j hj q => by simp only [List.mem_singleton] at q; subst q; have := Xlt _ hj; omega) (fun k i hi q => by simp only [List.mem_singleton] at q; subst q; exact sv_out k g111 (fun c e => by cases e) hi)
    have g42 := k2.get g41 (by simp; omega)
    have g62 := k2.get g61 (by simp; omega)
    clear X1 g41 g61 g111 gx1 k2
    (refine Go.run (g:=?_))
    refine GoR.callW rfl rfl rfl rfl rfl rfl rfl (((tells_spec xb A ra' rc' wh ⟨s.next, w, rd⟩ n0 q (by simp only; omega) _ (by omega) X2 (X2.mw q (gl_memW hg)) (X2.dw q (gl_memW hg))).argA).mono ?_)
    rintro _ H3 ⟨ra4, rc4, X3, o4⟩ k3
    refine ⟨fun i hi => ?_, ?_⟩
    ·
     simp only [List.cons_append, List.nil_append, List.mem_cons] at hi ⊢
     rcases hi with z | z
     · exact .inl (.inl z)
     ·
      rcases oE i z with y | y
      · exact .inl (.inr (.inr (.inr y)))
      · exact .inr y
    have n3' := k3.1
    have hk3 : ∀ j, h.n ≤ j → j < h2.n → j ∉ [xb] ++ blk ra' := fun j a b z => hnin j a b (by simp only [List.cons_append, List.nil_append, List.mem_cons] at z ⊢; rcases z with z | z; exact .inl z; exact .inr (.inr (.inr z)))
    have g43 := k3.get g42 (hk3 _ (Nat.le_refl _) (by omega))
    have g63 := k3.get g62 (hk3 _ (by omega) (by omega))
    have gx3 := X3.xc
    clear X2 g42 g62 g112 k3
    refine Go.runN (g:=?_)
    refine Go.kk 2 rfl ?_
    refine Go.loud (by kernel_rfl) rfl ?_
    (refine Go.runL (g:=?_))
    refine GoL.deleteG (n := (m.sid, nx16 t)) rfl rfl rfl rfl rfl X3.wm (.inl (by simp)) ?_
    intro H4 M4 k4 n4'
    rw [gdel_wv] at M4
    have hdis : ∀ b ∈ ([] : List Nat), b ≠ h.n := fun b hb => by cases hb
    have hdis2 := hdis
    (refine Go.runL (g:=?_))
    refine GoL.endC (g:=?_)
    clear hdis hdis2
    have X4 := X3.setWaits k4 M4 (fun z hz => X3.dw z (gdel_memW hz)) (fun z hz => X3.mw z (gdel_memW hz))
    have g44 := k4.get g43 (by simp; omega)
    have g64 := k4.get g63 (by simp; omega)
    clear X3 g43 g63 gx3 M4 k4
    have hgl := gdel_len hg
    (refine Go.run (g:=?_))
    exact Go.again (true, n, nx16 t, gdel w (m.sid, nx16 t), rd ++ [q], ra4, rc4, H4) ⟨X4, g44, g64, by simp only; omega, fun i hi => by
     rcases o4 i hi with z | z
     · exact oR i z
     · exact .inr (by omega), by simp only [List.length_append, List.length_cons, List.length_nil]; omega, nx16_lt t, fun _ => ⟨by rw [drainN_some hg] at hT; exact hT, by simp only; omega⟩, fun e => by cases e⟩ (by simp) ⟨rfl, rfl, rfl, rfl, trivial⟩ rfl rfl
end Go.Proofs.Ytccbmmnkiihkaaa
namespace Go.Proofs.Ytccbmmnkiihkaaa
open Go.Sort
set_option maxRecDepth 100000
attribute [local irreducible] Go GoR GoL
abbrev ksU (d : Array Int) : List Value := d.toList.map (Value.int .u16)
theorem ksU_len (d : Array Int) : (ksU d).length = d.size := by simp
theorem ksU_get {d : Array Int} {i : Nat} (hi : i < d.size) : (ksU d)[i]? = some (.int .u16 d[i]!) := by
 simp [getElem!_pos, hi]
theorem ksU_swp (d : Array Int) (i j : Nat) : ((ksU d).set i (.int .u16 d[j]!)).set j (.int .u16 d[i]!) = ksU (swp d i j) := by
 unfold ksU
 simp [swp, List.map_set]
set_option maxHeartbeats 4000000 in
theorem nanU_spec (x : Int) (h : AHeap) : CallS Try.prog [] 86 [.int .u16 x] h fun v h' => v = .bool false ∧ h' = h := by
 (refine CallS.of1 Try.func86 rfl Try.ntmps86 Try.results86 rfl ?_)
 (refine Go.run (g:=?_))
 (first|refine Go.finA rfl ?_|refine Go.finB rfl (hq:=?_))
 simp [retV]
set_option maxHeartbeats 4000000 in
theorem lessU_spec (x y : Int) (h : AHeap) : CallS Try.prog [] 76 [.int .u16 x, .int .u16 y] h fun v h' => v = .bool (decide (x < y)) ∧ h' = h := by
 (refine CallS.of2 Try.func76 rfl Try.ntmps76 Try.results76 rfl ?_)
 (refine Go.run (g:=?_))
 refine GoR.call rfl rfl rfl rfl rfl rfl rfl (((nanU_spec x _).argA).mono ?_)
 rintro _ h2 ⟨rfl, rfl⟩ -
 (refine Go.run (g:=?_))
 (first|refine Go.finA rfl ?_|refine Go.finB rfl (hq:=?_))
 simp [retV]
abbrev KvU (h : AHeap) (a : Option Addr) (cap : Nat) (d : Array Int) : Prop := Sv h 22 1 a d.size cap (ksU d)
abbrev SortsU (f : FuncId) (a : Option Addr) (cap : Nat) (d : Array Int) (args : List Value) (h : AHeap) (d' : Array Int) : Prop := CallS Try.prog (blk a) f (.slice a d.size cap :: args) h fun v h' => v = .tuple #[] ∧ d'.size = d.size ∧ Sv h' 22 1 a d.size cap (ksU d')
set_option maxHeartbeats 16000000 in
theorem insU_spec (a : Option Addr) (cap : Nat) (d : Array Int) (x y : Nat) (hxy : x ≤ y) (hy : y ≤ d.size) (hn : d.size ≤ 1000000) (h : AHeap) (hS : KvU h a cap d) : SortsU 70 a cap d [.int .i64 x, .int .i64 y] h (insertionSort ltInt d x y) := by
 unfold SortsU insertionSort
 unfold KvU at hS
 generalize hL : d.size = L at *
 have hW : ∀ i ∈ blk a, i ∈ blk a ∨ h.n ≤ i := fun i hi => .inl hi
 (refine CallS.of3 Try.func70 rfl Try.ntmps70 Try.results70 rfl ?_)
 (refine Go.run (g:=?_))
 refine Go.loop (α := Nat × Array Int × AHeap) (fun s => [(6, .int .i64 s.1), (0, .slice a L cap), (1, .int .i64 x), (2, .int .i64 y)]) (fun _ => []) (fun s => s.2.2) (fun s => s.1 ≤ max y (x + 1) ∧ x < s.1 ∧ s.2.1.size = L ∧ Keeps (blk a) h s.2.2 ∧ Sv s.2.2 22 1 a L cap (ksU s.2.1) ∧ insOuter ltInt x y s.1 s.2.1 = insOuter ltInt x y (x + 1) d) (fun s => y - s.1) (x + 1, d, h) ?_ ?_ rfl rfl ?_
 · exact ⟨by simp only; omega, by simp only; omega, hL, Keeps.rf _ _, hS, rfl⟩
 · exact ⟨rfl, rfl, rfl, rfl, trivial⟩
 rintro ⟨i, e, H⟩ ⟨hi1, hi2, he, kp, sv, eq⟩
 simp only at hi1 hi2 he kp sv eq ⊢
 rcases Nat.lt_or_ge i y with i0 | i0
 case inr =>
  rw [insOuter, if_neg (by omega)] at eq
  (refine Go.run (g:=?_))
  (first|refine Go.finA rfl ?_|refine Go.finB rfl (hq:=?_))
  exact ⟨rfl, by rw [← eq]; exact he, by rw [← eq]; exact sv⟩
 rw [insOuter, if_pos i0] at eq
 (refine Go.run (g:=?_))
 refine Go.loop (α := Nat × Array Int × AHeap) (fun s => [(7, .int .i64 s.1), (6, .int .i64 i), (0, .slice a L cap), (1, .int .i64 x), (2, .int .i64 y)]) (fun _ => []) (fun s => s.2.2) (fun s => s.1 ≤ i ∧ x ≤ s.1 ∧ s.2.1.size = L ∧ Keeps (blk a) h s.2.2 ∧ Sv s.2.2 22 1 a L cap (ksU s.2.1) ∧ insInner ltInt x s.1 s.2.1 = insInner ltInt x i e) (fun s => s.1) (i, e, H) ?_ ?_ rfl rfl ?_
 · exact ⟨Nat.le_refl _, by simp only; omega, he, kp, sv, rfl⟩
 · exact ⟨rfl, rfl, rfl, rfl, rfl, trivial⟩
 rintro ⟨j, g, H1⟩ ⟨hj1, hj2, hg, kp1, sv1, eq1⟩
 simp only at hj1 hj2 hg kp1 sv1 eq1 ⊢
 have done : insInner ltInt x j g = g → insOuter ltInt x y (i + 1) g = insOuter ltInt x y (x + 1) d := fun e0 => by rw [← eq, ← eq1, e0]
 rcases Nat.lt_or_ge x j with j0 | j0
 case inr =>
  have e0 : insInner ltInt x j g = g := by
   cases j with
   | zero => rfl
   | succ j => unfold insInner; rw [if_neg]; simp; omega
  (refine Go.run (g:=?_))
  refine Go.again (i + 1, g, H1) ⟨by simp only; omega, by simp only; omega, hg, kp1, sv1, done e0⟩ (by simp only; omega) ⟨rfl, rfl, rfl, rfl, trivial⟩ rfl rfl
 have c1 : (ksU g)[j]? = some (.int .u16 g[j]!) := ksU_get (by omega)
 have c2 : (ksU g)[j - 1]? = some (.int .u16 g[j - 1]!) := ksU_get (by omega)
 have hl := ksU_len g
 (refine Go.run (g:=?_))
 refine GoR.call rfl rfl rfl rfl rfl rfl rfl (((lessU_spec _ _ _).argA).mono ?_)
 rintro _ H2 ⟨rfl, rfl⟩ -
 have un : insInner ltInt x j g = if decide (g[j]! < g[j - 1]!) = true then insInner ltInt x (j - 1) (swp g j (j - 1)) else g := by
  obtain ⟨k, rfl⟩ : ∃ k, j = k + 1 := ⟨j - 1, by omega⟩
  rw [insInner, show decide (k + 1 > x) = true from decide_eq_true (by omega), Bool.true_and]
  rfl
 cases hq : decide (g[j]! < g[j - 1]!) with
 | false =>
  rw [hq, if_neg (by decide)] at un
  (refine Go.run (g:=?_))
  refine Go.again (i + 1, g, H2) ⟨by simp only; omega, by simp only; omega, hg, kp1, sv1, done un⟩ (by simp only; omega) ⟨rfl, rfl, rfl, rfl, trivial⟩ rfl rfl
 | true =>
  rw [hq, if_pos rfl] at un
  refine Go.runN (g:=?_)
  refine Go.loud (by kernel_rfl) rfl ?_
  (refine Go.runL (g:=?_))
  refine GoL.store1' rfl rfl rfl rfl rfl rfl (hS := sv1) (hw := hW) (g:=?_)
  intro H3 sv3 k3 n3
  (refine Go.runL (g:=?_))
  refine GoL.store1' rfl rfl rfl rfl rfl rfl (hS := sv3) (hw := hW) (g:=?_)
  intro H4 sv4 k4 n4
  (refine Go.runL (g:=?_))
  (refine GoL.end_ (g:=?_))
  rw [ksU_swp] at sv4
  (refine Go.run (g:=?_))
  refine Go.again (j - 1, swp g j (j - 1), H4) ⟨by simp only; omega, by simp only; omega, by simp only [swp_size]; exact hg, (kp1.tr k3).tr k4, sv4, by simp only; rw [← un]; exact eq1⟩ (by simp only; omega) ⟨rfl, rfl, rfl, rfl, rfl, trivial⟩ rfl rfl
end Go.Proofs.Ytccbmmnkiihkaaa
namespace Go.Proofs.Ytccbmmnkiihkaaa
open Go.Sort
set_option maxRecDepth 100000
attribute [local irreducible] Go GoR GoL
set_option maxHeartbeats 16000000 in
theorem siftU_spec (a : Option Addr) (cap : Nat) (d : Array Int) (lo hi first : Nat) (hf : first + hi ≤ d.size) (hlo : lo ≤ 1000000) (hn : d.size ≤ 1000000) (h : AHeap) (hS : KvU h a cap d) : SortsU 81 a cap d [.int .i64 lo, .int .i64 hi, .int .i64 first] h (siftDown ltInt hi first lo d) := by
 unfold SortsU
 unfold KvU at hS
 generalize hL : d.size = L at *
 have hW : ∀ i ∈ blk a, i ∈ blk a ∨ h.n ≤ i := fun i hi => .inl hi
 (refine CallS.of4 Try.func81 rfl Try.ntmps81 Try.results81 rfl ?_)
 (refine Go.run (g:=?_))
 refine Go.loop (α := Nat × Array Int × AHeap) (fun s => [(8, .int .i64 s.1), (0, .slice a L cap), (2, .int .i64 hi), (3, .int .i64 first)]) (fun _ => []) (fun s => s.2.2) (fun s => s.1 ≤ 1000000 ∧ s.2.1.size = L ∧ Keeps (blk a) h s.2.2 ∧ Sv s.2.2 22 1 a L cap (ksU s.2.1) ∧ siftDown ltInt hi first s.1 s.2.1 = siftDown ltInt hi first lo d) (fun s => hi - s.1) (lo, d, h) ?_ ?_ rfl rfl ?_
 · exact ⟨hlo, hL, Keeps.rf _ _, hS, rfl⟩
 · exact ⟨rfl, rfl, rfl, rfl, trivial⟩
 rintro ⟨root, g, H⟩ ⟨hr, he, kp, sv, eq⟩
 simp only at hr he kp sv eq ⊢
 have hl := ksU_len g
 rw [siftDown] at eq
 rcases Nat.lt_or_ge (2 * root + 1) hi with i0 | i0
 case inr =>
  rw [dif_pos i0] at eq
  (refine Go.run (g:=?_))
  (first|refine Go.finA rfl ?_|refine Go.finB rfl (hq:=?_))
  exact ⟨rfl, by rw [← eq]; exact he, by rw [← eq]; exact sv⟩
 rw [dif_neg (by omega)] at eq
 rcases Nat.lt_or_ge (2 * root + 2) hi with i1 | i1
 case inr =>
  rw [show decide (2 * root + 1 + 1 < hi) = false from decide_eq_false (by omega), Bool.false_and, if_neg (by decide)] at eq
  have c1 : (ksU g)[first + root]? = some (.int .u16 g[first + root]!) := ksU_get (by omega)
  have c2 : (ksU g)[first + (2 * root + 1)]? = some (.int .u16 g[first + (2 * root + 1)]!) := ksU_get (by omega)
  (refine Go.run (g:=?_))
  refine GoR.call rfl rfl rfl rfl rfl rfl rfl (((lessU_spec _ _ _).argA).mono ?_)
  rintro _ H2 ⟨rfl, rfl⟩ -
  cases hq : decide (g[first + root]! < g[first + (2 * root + 1)]!) with
  | false =>
   rw [show ltInt g[first + root]! g[first + (2 * root + 1)]! = false from hq] at eq
   have eq : g = siftDown ltInt hi first lo d := by simpa using eq
   (refine Go.run (g:=?_))
   (first|refine Go.finA rfl ?_|refine Go.finB rfl (hq:=?_))
   exact ⟨rfl, by rw [← eq]; exact he, by rw [← eq]; exact sv⟩
  | true =>
   rw [show ltInt g[first + root]! g[first + (2 * root + 1)]! = true from hq] at eq
   have eq : siftDown ltInt hi first (2 * root + 1) (swp g (first + root) (first + (2 * root + 1))) = siftDown ltInt hi first lo d := by
    simpa (disch := omega) [show (2 * root + 1) < hi from by omega] using eq
   refine Go.runN (g:=?_)
   refine Go.loud (by kernel_rfl) rfl ?_
   (refine Go.runL (g:=?_))
   refine GoL.store1' rfl rfl rfl rfl rfl rfl (hS := sv) (hw := hW) (g:=?_)
   intro H3 sv3 k3 n3
   (refine Go.runL (g:=?_))
   refine GoL.store1' rfl rfl rfl rfl rfl rfl (hS := sv3) (hw := hW) (g:=?_)
   intro H4 sv4 k4 n4
   (refine Go.runL (g:=?_))
   (refine GoL.end_ (g:=?_))
   rw [ksU_swp] at sv4
   (refine Go.run (g:=?_))
   refine Go.again (2 * root + 1, swp g (first + root) (first + (2 * root + 1)), H4) ⟨by simp only; omega, by simp only [swp_size]; exact he, (kp.tr k3).tr k4, sv4, eq⟩ (by simp only; omega) ⟨rfl, rfl, rfl, rfl, trivial⟩ rfl rfl
 have c3 : (ksU g)[first + (2 * root + 1)]? = some (.int .u16 g[first + (2 * root + 1)]!) := ksU_get (by omega)
 have c4 : (ksU g)[first + (2 * root + 1) + 1]? = some (.int .u16 g[first + (2 * root + 1) + 1]!) := ksU_get (by omega)
 rw [show decide (2 * root + 1 + 1 < hi) = true from decide_eq_true (by omega), Bool.true_and] at eq
 (refine Go.run (g:=?_))
 refine GoR.call rfl rfl rfl rfl rfl rfl rfl (((lessU_spec _ _ _).argA).mono ?_)
 rintro _ H1 ⟨rfl, rfl⟩ -
 cases hc : decide (g[first + (2 * root + 1)]! < g[first + (2 * root + 1) + 1]!) with
 | false =>
  rw [show ltInt g[first + (2 * root + 1)]! g[first + (2 * root + 1) + 1]! = false from hc, if_neg (by decide)] at eq
  clear c3 c4
  have c1 : (ksU g)[first + root]? = some (.int .u16 g[first + root]!) := ksU_get (by omega)
  have c2 : (ksU g)[first + (2 * root + 1)]? = some (.int .u16 g[first + (2 * root + 1)]!) := ksU_get (by omega)
  (refine Go.run (g:=?_))
  refine GoR.call rfl rfl rfl rfl rfl rfl rfl (((lessU_spec _ _ _).argA).mono ?_)
  rintro _ H2 ⟨rfl, rfl⟩ -
  cases hq : decide (g[first + root]! < g[first + (2 * root + 1)]!) with
  | false =>
   rw [show ltInt g[first + root]! g[first + (2 * root + 1)]! = false from hq] at eq
   have eq : g = siftDown ltInt hi first lo d := by simpa using eq
   (refine Go.run (g:=?_))
   (first|refine Go.finA rfl ?_|refine Go.finB rfl (hq:=?_))
   exact ⟨rfl, by rw [← eq]; exact he, by rw [← eq]; exact sv⟩
  | true =>
   rw [show ltInt g[first + root]! g[first + (2 * root + 1)]! = true from hq] at eq
   have eq : siftDown ltInt hi first (2 * root + 1) (swp g (first + root) (first + (2 * root + 1))) = siftDown ltInt hi first lo d := by
    simpa (disch := omega) [show (2 * root + 1) < hi from by omega] using eq
   refine Go.runN (g:=?_)
   refine Go.loud (by kernel_rfl) rfl ?_
   (refine Go.runL (g:=?_))
   refine GoL.store1' rfl rfl rfl rfl rfl rfl (hS := sv) (hw := hW) (g:=?_)
   intro H3 sv3 k3 n3
   (refine Go.runL (g:=?_))
   refine GoL.store1' rfl rfl rfl rfl rfl rfl (hS := sv3) (hw := hW) (g:=?_)
   intro H4 sv4 k4 n4
   (refine Go.runL (g:=?_))
   (refine GoL.end_ (g:=?_))
   rw [ksU_swp] at sv4
   (refine Go.run (g:=?_))
   refine Go.again (2 * root + 1, swp g (first + root) (first + (2 * root + 1)), H4) ⟨by simp only; omega, by simp only [swp_size]; exact he, (kp.tr k3).tr k4, sv4, eq⟩ (by simp only; omega) ⟨rfl, rfl, rfl, rfl, trivial⟩ rfl rfl
 | true =>
  rw [show ltInt g[first + (2 * root + 1)]! g[first + (2 * root + 1) + 1]! = true from hc, if_pos rfl] at eq
  simp only [show 2 * root + 2 = 2 * root + 1 + 1 from rfl] at eq
  clear c3 c4
  have c1 : (ksU g)[first + root]? = some (.int .u16 g[first + root]!) := ksU_get (by omega)
  have c2 : (ksU g)[first + (2 * root + 1 + 1)]? = some (.int .u16 g[first + (2 * root + 1 + 1)]!) := ksU_get (by omega)
  (refine Go.run (g:=?_))
  refine GoR.call rfl rfl rfl rfl rfl rfl rfl (((lessU_spec _ _ _).argA).mono ?_)
  rintro _ H2 ⟨rfl, rfl⟩ -
  cases hq : decide (g[first + root]! < g[first + (2 * root + 1 + 1)]!) with
  | false =>
   rw [show ltInt g[first + root]! g[first + (2 * root + 1 + 1)]! = false from hq] at eq
   have eq : g = siftDown ltInt hi first lo d := by simpa using eq
   (refine Go.run (g:=?_))
   (first|refine Go.finA rfl ?_|refine Go.finB rfl (hq:=?_))
   exact ⟨rfl, by rw [← eq]; exact he, by rw [← eq]; exact sv⟩
  | true =>
   rw [show ltInt g[first + root]! g[first + (2 * root + 1 + 1)]! = true from hq] at eq
   have eq : siftDown ltInt hi first (2 * root + 1 + 1) (swp g (first + root) (first + (2 * root + 1 + 1))) = siftDown ltInt hi first lo d := by
    simpa (disch := omega) [show (2 * root + 1 + 1) < hi from by omega] using eq
   refine Go.runN (g:=?_)
   refine Go.loud (by kernel_rfl) rfl ?_
   (refine Go.runL (g:=?_))
   refine GoL.store1' rfl rfl rfl rfl rfl rfl (hS := sv) (hw := hW) (g:=?_)
   intro H3 sv3 k3 n3
   (refine Go.runL (g:=?_))
   refine GoL.store1' rfl rfl rfl rfl rfl rfl (hS := sv3) (hw := hW) (g:=?_)
   intro H4 sv4 k4 n4
   (refine Go.runL (g:=?_))
   (refine GoL.end_ (g:=?_))
   rw [ksU_swp] at sv4
   (refine Go.run (g:=?_))
   refine Go.again (2 * root + 1 + 1, swp g (first + root) (first + (2 * root + 1 + 1)), H4) ⟨by simp only; omega, by simp only [swp_size]; exact he, (kp.tr k3).tr k4, sv4, eq⟩ (by simp only; omega) ⟨rfl, rfl, rfl, rfl, trivial⟩ rfl rfl
set_option maxHeartbeats 16000000 in
theorem heapU_spec (a : Option Addr) (cap : Nat) (d : Array Int) (x y : Nat) (hxy : x < y) (hy : y ≤ d.size) (hn : d.size ≤ 1000000) (h : AHeap) (hS : KvU h a cap d) : SortsU 71 a cap d [.int .i64 x, .int .i64 y] h (heapSort ltInt d x y) := by
 unfold SortsU heapSort
 unfold KvU at hS
 generalize hL : d.size = L at *
 have hW : ∀ i ∈ blk a, i ∈ blk a ∨ h.n ≤ i := fun i hi => .inl hi
 obtain ⟨n, hyn⟩ : ∃ n, n = y - x := ⟨_, rfl⟩
 have hn1 : 1 ≤ n := by omega
 have hnx : x + n ≤ L := by omega
 rw [← hyn]
 (refine CallS.of3 Try.func71 rfl Try.ntmps71 Try.results71 rfl ?_)
 (refine Go.run (g:=?_))
 rw [← hyn]
 (refine Go.run (g:=?_))
 refine Go.loop (α := Int × Array Int × AHeap) (fun s => [(9, .int .i64 s.1), (8, .int .i64 n), (7, .int .i64 0), (6, .int .i64 x), (0, .slice a L cap)]) (fun _ => []) (fun s => s.2.2) (fun s => -1 ≤ s.1 ∧ s.1 < n ∧ s.2.1.size = L ∧ Keeps (blk a) h s.2.2 ∧ Sv s.2.2 22 1 a L cap (ksU s.2.1) ∧ heapBuild ltInt n x (s.1 + 1).toNat s.2.1 = heapBuild ltInt n x ((n - 1) / 2 + 1) d) (fun s => (s.1 + 1).toNat) (((n - 1) / 2 : Nat), d, h) ?_ ?_ rfl rfl ?_
 · exact ⟨by simp only; omega, by simp only; omega, hL, Keeps.rf _ _, hS, rfl⟩
 · exact ⟨rfl, rfl, rfl, rfl, rfl, trivial⟩
 rintro ⟨i, g, H⟩ ⟨hi0, hi1, he, kp, sv, eq⟩
 simp only at hi0 hi1 he kp sv eq ⊢
 rcases Int.lt_or_le i 0 with i0 | i0
 case inr =>
  obtain ⟨m, rfl⟩ : ∃ m : Nat, i = m := ⟨i.toNat, by omega⟩
  rw [show ((m : Int) + 1).toNat = m + 1 from by omega, heapBuild] at eq
  subst he
  (refine Go.run (g:=?_))
  refine GoR.callW rfl rfl rfl rfl rfl rfl rfl (((siftU_spec a cap g m n x (by omega) (by omega) (by omega) _ sv).argA).mono ?_)
  rintro _ H1 ⟨rfl, e1, sv1⟩ k1
  refine ⟨hW, ?_⟩
  (refine Go.run (g:=?_))
  refine Go.again ((m : Int) - 1, siftDown ltInt n x m g, H1) ⟨by simp only; omega, by simp only; omega, e1, kp.tr k1, sv1, by simp only; rw [← eq]; congr 1; omega⟩ (by simp only; omega) ⟨rfl, rfl, rfl, rfl, rfl, trivial⟩ rfl rfl
 obtain rfl : i = -1 := by omega
 have eq : g = heapBuild ltInt n x ((n - 1) / 2 + 1) d := by rw [← eq]; rfl
 rw [← eq]
 clear eq
 (refine Go.run (g:=?_))
 refine Go.loop (α := Int × Array Int × AHeap) (fun s => [(10, .int .i64 s.1), (8, .int .i64 n), (7, .int .i64 0), (6, .int .i64 x), (0, .slice a L cap)]) (fun _ => []) (fun s => s.2.2) (fun s => -1 ≤ s.1 ∧ s.1 < n ∧ s.2.1.size = L ∧ Keeps (blk a) h s.2.2 ∧ Sv s.2.2 22 1 a L cap (ksU s.2.1) ∧ heapPop ltInt x (s.1 + 1).toNat s.2.1 = heapPop ltInt x n g) (fun s => (s.1 + 1).toNat) ((n - 1 : Nat), g, H) ?_ ?_ rfl rfl ?_
 · exact ⟨by simp only; omega, by simp only; omega, he, kp, sv, by simp only; rw [show (((n - 1 : Nat) : Int) + 1).toNat = n from by omega]⟩
 · exact ⟨rfl, rfl, rfl, rfl, rfl, trivial⟩
 clear he kp sv
 rintro ⟨i, e, H0⟩ ⟨hi0, hi1, he, kp, sv, eq⟩
 simp only at hi0 hi1 he kp sv eq ⊢
 rcases Int.lt_or_le i 0 with i0 | i0
 case inl =>
  obtain rfl : i = -1 := by omega
  have eq : e = heapPop ltInt x n g := by rw [← eq]; rfl
  (refine Go.run (g:=?_))
  (first|refine Go.finA rfl ?_|refine Go.finB rfl (hq:=?_))
  exact ⟨rfl, by rw [← eq]; exact he, by rw [← eq]; exact sv⟩
 obtain ⟨m, rfl⟩ : ∃ m : Nat, i = m := ⟨i.toNat, by omega⟩
 rw [show ((m : Int) + 1).toNat = m + 1 from by omega, heapPop] at eq
 have hl := ksU_len e
 have c1 : (ksU e)[x]? = some (.int .u16 e[x]!) := ksU_get (by omega)
 have c2 : (ksU e)[x + m]? = some (.int .u16 e[x + m]!) := ksU_get (by omega)
 refine Go.runN (g:=?_)
 refine Go.loud (by kernel_rfl) rfl ?_
 (refine Go.runL (g:=?_))
 refine GoL.store1' rfl rfl rfl rfl rfl rfl (hS := sv) (hw := hW) (g:=?_)
 intro H3 sv3 k3 n3
 (refine Go.runL (g:=?_))
 refine GoL.store1' rfl rfl rfl rfl rfl rfl (hS := sv3) (hw := hW) (g:=?_)
 intro H4 sv4 k4 n4
 (refine Go.runL (g:=?_))
 (refine GoL.end_ (g:=?_))
 rw [ksU_swp] at sv4
 have hz : (swp e x (x + m)).size = L := by rw [swp_size]; exact he
 rw [← hz] at sv4
 (refine Go.run (g:=?_))
 have ssp := siftU_spec a cap (swp e x (x + m)) 0 m x (by omega) (by omega) (by omega) _ sv4
 unfold SortsU at ssp
 rw [hz] at ssp
 refine GoR.callW rfl rfl rfl rfl rfl rfl rfl (((ssp).argA).mono ?_)
 rintro _ H5 ⟨rfl, e5, sv5⟩ k5
 refine ⟨hW, ?_⟩
 (refine Go.run (g:=?_))
 refine Go.again ((m : Int) - 1, siftDown ltInt m x 0 (swp e x (x + m)), H5) ⟨by simp only; omega, by simp only; omega, e5, ((kp.tr k3).tr k4).tr k5, sv5, by simp only; rw [← eq]; congr 1; omega⟩ (by simp only; omega) ⟨rfl, rfl, rfl, rfl, rfl, trivial⟩ rfl rfl
end Go.Proofs.Ytccbmmnkiihkaaa
namespace Go.Proofs.Ytccbmmnkiihkaaa
open Go.Sort
set_option maxRecDepth 100000
attribute [local irreducible] Go GoR GoL
abbrev Cell1 (h : AHeap) (sb : Nat) (s : Nat) : Prop := h.get sb = some (.cells [.int .i64 s] 3)
set_option maxHeartbeats 8000000 in
theorem ordU_spec (a : Option Addr) (cap : Nat) (d : Array Int) (x y sb s : Nat) (hx : x < d.size) (hy : y < d.size) (hn : d.size ≤ 1000000) (hs : s ≤ 100) (h : AHeap) (hS : KvU h a cap d) (hc : Cell1 h sb s) : CallS Try.prog [sb] 87 [.slice a d.size cap, .int .i64 x, .int .i64 y, .pointer (some ⟨sb, 0, none⟩)] h fun v h' => v = .tuple #[.int .i64 (order2 ltInt d x y s).1, .int .i64 (order2 ltInt d x y s).2.1] ∧ Cell1 h' sb (order2 ltInt d x y s).2.2 := by
 unfold KvU at hS
 have c1 : (ksU d)[x]? = some (.int .u16 d[x]!) := ksU_get (by omega)
 have c2 : (ksU d)[y]? = some (.int .u16 d[y]!) := ksU_get (by omega)
 generalize hL : d.size = L at *
 have hl := ksU_len d
 (refine CallS.of4 Try.func87 rfl Try.ntmps87 Try.results87 rfl ?_)
 (refine Go.run (g:=?_))
 refine GoR.call rfl rfl rfl rfl rfl rfl rfl (((lessU_spec _ _ _).argA).mono ?_)
 rintro _ H2 ⟨rfl, rfl⟩ -
 unfold order2
 cases hq : decide (d[y]! < d[x]!) with
 | false =>
  rw [show ltInt d[y]! d[x]! = false from hq, if_neg (by decide)]
  (refine Go.run (g:=?_))
  refine Go.fin (.inr rfl) (.tmp rfl (.tmp rfl .nil)) ?_
  exact ⟨rfl, hc⟩
 | true =>
  rw [show ltInt d[y]! d[x]! = true from hq, if_pos rfl]
  (refine Go.run (g:=?_))
  refine Go.fin (.inr rfl) (.tmp rfl (.tmp rfl .nil)) ?_
  exact ⟨rfl, get_put_self hc⟩
theorem ordU_fst (d : Array Int) (x y s : Nat) : ((order2 ltInt d x y s).1 = x ∧ (order2 ltInt d x y s).2.1 = y ∨ (order2 ltInt d x y s).1 = y ∧ (order2 ltInt d x y s).2.1 = x) ∧ s ≤ (order2 ltInt d x y s).2.2 ∧ (order2 ltInt d x y s).2.2 ≤ s + 1 := by
 unfold order2
 split
 · exact ⟨.inr ⟨rfl, rfl⟩, by simp, by simp⟩
 · exact ⟨.inl ⟨rfl, rfl⟩, by simp, by simp⟩
set_option maxHeartbeats 8000000 in
theorem medU_spec (a : Option Addr) (cap : Nat) (d : Array Int) (x y z sb s : Nat) (hx : x < d.size) (hy : y < d.size) (hz : z < d.size) (hn : d.size ≤ 1000000) (hs : s ≤ 50) (h : AHeap) (hS : KvU h a cap d) (hc : Cell1 h sb s) (hne : sb ∉ blk a) : CallS Try.prog [sb] 85 [.slice a d.size cap, .int .i64 x, .int .i64 y, .int .i64 z, .pointer (some ⟨sb, 0, none⟩)] h fun v h' => v = .int .i64 (median ltInt d x y z s).1 ∧ (median ltInt d x y z s).1 < d.size ∧ (median ltInt d x y z s).2 ≤ s + 3 ∧ Cell1 h' sb (median ltInt d x y z s).2 := by
 have sub : ∀ {H H' : AHeap}, Sv H 22 1 a d.size cap (ksU d) → Keeps [sb] H H' → Sv H' 22 1 a d.size cap (ksU d) := fun k kp => k.keeps kp (fun i hi hm => by simp only [List.mem_singleton] at hm; subst hm; exact hne hi)
 have hsb := AHeap.lt hc
 unfold median
 obtain ⟨f1, f2, f3⟩ := ordU_fst d x y s
 have sp1 := ordU_spec a cap d x y sb s hx hy hn (by omega) h hS hc
 generalize order2 ltInt d x y s = r1 at *
 obtain ⟨p1, q1, s1⟩ := r1
 simp only at f1 f2 f3 sp1 ⊢
 have sp2 := ordU_spec a cap d q1 z sb s1 (by omega) hz hn (by omega)
 obtain ⟨g1, g2, g3⟩ := ordU_fst d q1 z s1
 generalize order2 ltInt d q1 z s1 = r2 at *
 obtain ⟨p2, q2, s2⟩ := r2
 simp only at g1 g2 g3 sp2 ⊢
 have sp3 := ordU_spec a cap d p1 p2 sb s2 (by omega) (by omega) hn (by omega)
 obtain ⟨k1, k2, k3⟩ := ordU_fst d p1 p2 s2
 generalize order2 ltInt d p1 p2 s2 = r3 at *
 obtain ⟨p3, q3, s3⟩ := r3
 simp only at k1 k2 k3 sp3 ⊢
 (refine CallS.of5 Try.func85 rfl Try.ntmps85 Try.results85 rfl ?_)
 (refine Go.run (g:=?_))
 refine GoR.callW rfl rfl rfl rfl rfl rfl rfl (((sp1).argA).mono ?_)
 rintro _ h1 ⟨rfl, hc1⟩ kp1
 refine ⟨fun i hi => .inl hi, ?_⟩
 have hS1 := sub hS kp1
 (refine Go.run (g:=?_))
 refine GoR.callW rfl rfl rfl rfl rfl rfl rfl (((sp2 h1 hS1 hc1).argA).mono ?_)
 rintro _ h2 ⟨rfl, hc2⟩ kp2
 refine ⟨fun i hi => .inl hi, ?_⟩
 have hS2 := sub hS1 kp2
 (refine Go.run (g:=?_))
 refine GoR.callW rfl rfl rfl rfl rfl rfl rfl (((sp3 h2 hS2 hc2).argA).mono ?_)
 rintro _ h3 ⟨rfl, hc3⟩ kp3
 refine ⟨fun i hi => .inl hi, ?_⟩
 (refine Go.run (g:=?_))
 (first|refine Go.finA rfl ?_|refine Go.finB rfl (hq:=?_))
 exact ⟨rfl, by omega, by omega, hc3⟩
set_option maxHeartbeats 8000000 in
theorem adjU_spec (a : Option Addr) (cap : Nat) (d : Array Int) (x sb s : Nat) (h1x : 1 ≤ x) (hx : x + 1 < d.size) (hn : d.size ≤ 1000000) (hs : s ≤ 50) (h : AHeap) (hS : KvU h a cap d) (hc : Cell1 h sb s) (hne : sb ∉ blk a) : CallS Try.prog [sb] 84 [.slice a d.size cap, .int .i64 x, .pointer (some ⟨sb, 0, none⟩)] h fun v h' => v = .int .i64 (medianAdjacent ltInt d x s).1 ∧ (medianAdjacent ltInt d x s).1 < d.size ∧ (medianAdjacent ltInt d x s).2 ≤ s + 3 ∧ Cell1 h' sb (medianAdjacent ltInt d x s).2 := by
 unfold medianAdjacent
 have sp := medU_spec a cap d (x - 1) x (x + 1) sb s (by omega) (by omega) hx hn hs h hS hc hne
 (refine CallS.of3 Try.func84 rfl Try.ntmps84 Try.results84 rfl ?_)
 (refine Go.run (g:=?_))
 refine GoR.callW rfl rfl rfl rfl rfl rfl rfl (((sp).argA).mono ?_)
 rintro _ h1 ⟨rfl, k1, k2, k3⟩ kp1
 refine ⟨fun i hi => .inl hi, ?_⟩
 (refine Go.run (g:=?_))
 (first|refine Go.finA rfl ?_|refine Go.finB rfl (hq:=?_))
 exact ⟨rfl, k1, k2, k3⟩
def hintN : Hint → Nat
 | .unknown => 0
 | .increasing => 1
 | .decreasing => 2
set_option maxHeartbeats 16000000 in
theorem pivU_spec (a : Option Addr) (cap : Nat) (d : Array Int) (x y : Nat) (hxy : x + 12 < y) (hy : y ≤ d.size) (hn : d.size ≤ 1000000) (h : AHeap) (hS : KvU h a cap d) : CallS Try.prog [] 73 [.slice a d.size cap, .int .i64 x, .int .i64 y] h fun v h' => v = .tuple #[.int .i64 (choosePivot ltInt d x y).1, .int .i64 (hintN (choosePivot ltInt d x y).2)] ∧ (choosePivot ltInt d x y).1 < d.size := by
 have sub : ∀ {H H' : AHeap}, Sv H 22 1 a d.size cap (ksU d) → Keeps [h.n] H H' → Sv H' 22 1 a d.size cap (ksU d) := fun k kp => k.keeps kp (fun i hi hm => by simp only [List.mem_singleton] at hm; subst hm; have := hS.lt _ hi; omega)
 have hne : h.n ∉ blk a := fun hi => by have := hS.lt _ hi; omega
 unfold choosePivot
 obtain ⟨n, hyn⟩ : ∃ n, n = y - x := ⟨_, rfl⟩
 rw [← hyn]
 simp only
 (refine CallS.of3 Try.func73 rfl Try.ntmps73 Try.results73 rfl ?_)
 (refine Go.run (g:=?_))
 rw [← hyn]
 rw [if_pos (show n ≥ 8 from by omega)]
 have w9 : ∀ i ∈ [h.n], i ∈ ([] : List Nat) ∨ h.n ≤ i := fun i hi => by simp only [List.mem_singleton] at hi; omega
 rcases Nat.lt_or_ge n 50 with n0 | n0
 ·
  rw [if_neg (by omega)]
  (refine Go.run (g:=?_))
  refine GoR.name ?_
  intro h2 e2
  have s2 : Same h h2 := by subst e2; exact (Same.refl h).push _
  have cl2 : Cell1 h2 h.n 0 := by subst e2; exact AHeap.get_push_same h _
  clear e2
  have msp := medU_spec a cap d (x + n / 4 * 1) (x + n / 4 * 2) (x + n / 4 * 3) h.n 0 (by omega) (by omega) (by omega) hn (by omega) h2 (hS.same s2) cl2 hne
  generalize median ltInt d (x + n / 4 * 1) (x + n / 4 * 2) (x + n / 4 * 3) 0 = r at *
  obtain ⟨mi, sw⟩ := r
  simp only at msp ⊢
  refine GoR.callW rfl rfl rfl rfl rfl rfl rfl (((msp).argA).mono ?_)
  rintro _ h3 ⟨rfl, fb, b3, cl3⟩ kp3
  refine ⟨w9, ?_⟩
  unfold Cell1 at cl3
  clear b3
  (refine Go.run (g:=?_))
  rcases Nat.lt_or_ge 0 sw with z0 | z0
  case inr =>
   obtain rfl : sw = 0 := by omega
   (refine Go.run (g:=?_))
   refine Go.fin (.inr rfl) (.tmp rfl (.tmp rfl .nil)) ?_
   exact ⟨rfl, fb⟩
  by_cases z1 : sw = 12
  ·
   subst z1
   (refine Go.run (g:=?_))
   refine Go.fin (.inr rfl) (.tmp rfl (.tmp rfl .nil)) ?_
   exact ⟨rfl, fb⟩
  ·
   rw [if_neg (by omega), if_neg z1]
   (refine Go.run (g:=?_))
   refine Go.fin (.inr rfl) (.tmp rfl (.tmp rfl .nil)) ?_
   exact ⟨rfl, fb⟩
 ·
  rw [if_pos (by omega)]
  (refine Go.run (g:=?_))
  refine GoR.name ?_
  intro h2 e2
  have s2 : Same h h2 := by subst e2; exact (Same.refl h).push _
  have cl2 : Cell1 h2 h.n 0 := by subst e2; exact AHeap.get_push_same h _
  clear e2
  have hS2 := hS.same s2
  have asp1 := adjU_spec a cap d (x + n / 4 * 1) h.n 0 (by omega) (by omega) hn (by omega) h2 hS2 cl2 hne
  have asp2 := fun s => adjU_spec a cap d (x + n / 4 * 2) h.n s (by omega) (by omega) hn
  have asp3 := fun s => adjU_spec a cap d (x + n / 4 * 3) h.n s (by omega) (by omega) hn
  generalize medianAdjacent ltInt d (x + n / 4 * 1) 0 = r1 at *
  obtain ⟨m1, t1⟩ := r1
  simp only at asp1 ⊢
  have asp2 := asp2 t1
  generalize medianAdjacent ltInt d (x + n / 4 * 2) t1 = r2 at *
  obtain ⟨m2, t2⟩ := r2
  simp only at asp2 ⊢
  have asp3 := asp3 t2
  generalize medianAdjacent ltInt d (x + n / 4 * 3) t2 = r3 at *
  obtain ⟨m3, t3⟩ := r3
  simp only at asp3 ⊢
  refine GoR.callW rfl rfl rfl rfl rfl rfl rfl (((asp1).argA).mono ?_)
  rintro _ h3 ⟨rfl, fb1, b3, cl3⟩ kp3
  refine ⟨w9, ?_⟩
  have hS3 := sub hS2 kp3
  (refine Go.run (g:=?_))
  refine GoR.callW rfl rfl rfl rfl rfl rfl rfl (((asp2 (by omega) h3 hS3 cl3 hne).argA).mono ?_)
  rintro _ h4 ⟨rfl, fb2, b4, cl4⟩ kp4
  refine ⟨w9, ?_⟩
  have hS4 := sub hS3 kp4
  (refine Go.run (g:=?_))
  refine GoR.callW rfl rfl rfl rfl rfl rfl rfl (((asp3 (by omega) h4 hS4 cl4 hne).argA).mono ?_)
  rintro _ h5 ⟨rfl, fb3, b5, cl5⟩ kp5
  refine ⟨w9, ?_⟩
  have hS5 := sub hS4 kp5
  have msp := medU_spec a cap d m1 m2 m3 h.n t3 (by omega) (by omega) (by omega) hn (by omega) h5 hS5 cl5 hne
  generalize median ltInt d m1 m2 m3 t3 = r at *
  obtain ⟨mi, sw⟩ := r
  simp only at msp ⊢
  clear cl3 cl4 cl2
  (refine Go.run (g:=?_))
  refine GoR.callW rfl rfl rfl rfl rfl rfl rfl (((msp).argA).mono ?_)
  rintro _ h6 ⟨rfl, fb, b6, cl6⟩ kp6
  refine ⟨w9, ?_⟩
  unfold Cell1 at cl6
  clear cl5
  (refine Go.run (g:=?_))
  rcases Nat.lt_or_ge 0 sw with z0 | z0
  case inr =>
   obtain rfl : sw = 0 := by omega
   (refine Go.run (g:=?_))
   refine Go.fin (.inr rfl) (.tmp rfl (.tmp rfl .nil)) ?_
   exact ⟨rfl, fb⟩
  by_cases z1 : sw = 12
  ·
   subst z1
   (refine Go.run (g:=?_))
   refine Go.fin (.inr rfl) (.tmp rfl (.tmp rfl .nil)) ?_
   exact ⟨rfl, fb⟩
  ·
   rw [if_neg (by omega), if_neg z1]
   (refine Go.run (g:=?_))
   refine Go.fin (.inr rfl) (.tmp rfl (.tmp rfl .nil)) ?_
   exact ⟨rfl, fb⟩
set_option maxHeartbeats 16000000 in
theorem revU_spec (a : Option Addr) (cap : Nat) (d : Array Int) (x y : Nat) (hxy : x < y) (hy : y ≤ d.size) (hn : d.size ≤ 1000000) (h : AHeap) (hS : KvU h a cap d) : SortsU 74 a cap d [.int .i64 x, .int .i64 y] h (reverseRange d x y) := by
 unfold SortsU reverseRange
 unfold KvU at hS
 generalize hL : d.size = L at *
 have hW : ∀ i ∈ blk a, i ∈ blk a ∨ h.n ≤ i := fun i hi => .inl hi
 (refine CallS.of3 Try.func74 rfl Try.ntmps74 Try.results74 rfl ?_)
 (refine Go.run (g:=?_))
 refine Go.loop (α := Nat × Nat × Array Int × AHeap) (fun s => [(6, .int .i64 s.1), (7, .int .i64 s.2.1), (0, .slice a L cap)]) (fun _ => []) (fun s => s.2.2.2) (fun s => s.1 ≤ s.2.1 + 1 ∧ s.2.1 < L ∧ s.2.2.1.size = L ∧ Keeps (blk a) h s.2.2.2 ∧ Sv s.2.2.2 22 1 a L cap (ksU s.2.2.1) ∧ reverseLoop s.1 s.2.1 s.2.2.1 = reverseLoop x (y - 1) d) (fun s => s.2.1 + 1 - s.1) (x, y - 1, d, h) ?_ ?_ rfl rfl ?_
 · exact ⟨by simp only; omega, by simp only; omega, hL, Keeps.rf _ _, hS, rfl⟩
 · exact ⟨rfl, rfl, rfl, trivial⟩
 rintro ⟨i, j, e, H⟩ ⟨hi, hj, he, kp, sv, eq⟩
 simp only at hi hj he kp sv eq ⊢
 rw [reverseLoop] at eq
 rcases Nat.lt_or_ge i j with i0 | i0
 case inr =>
  rw [if_neg (by omega)] at eq
  (refine Go.run (g:=?_))
  (first|refine Go.finA rfl ?_|refine Go.finB rfl (hq:=?_))
  exact ⟨rfl, by rw [← eq]; exact he, by rw [← eq]; exact sv⟩
 rw [if_pos i0] at eq
 have hl := ksU_len e
 have c1 : (ksU e)[i]? = some (.int .u16 e[i]!) := ksU_get (by omega)
 have c2 : (ksU e)[j]? = some (.int .u16 e[j]!) := ksU_get (by omega)
 refine Go.runN (g:=?_)
 refine Go.loud (by kernel_rfl) rfl ?_
 (refine Go.runL (g:=?_))
 refine GoL.store1' rfl rfl rfl rfl rfl rfl (hS := sv) (hw := hW) (g:=?_)
 intro H3 sv3 k3 n3
 (refine Go.runL (g:=?_))
 refine GoL.store1' rfl rfl rfl rfl rfl rfl (hS := sv3) (hw := hW) (g:=?_)
 intro H4 sv4 k4 n4
 (refine Go.runL (g:=?_))
 (refine GoL.end_ (g:=?_))
 rw [ksU_swp] at sv4
 (refine Go.run (g:=?_))
 refine Go.again (i + 1, j - 1, swp e i j, H4) ⟨by simp only; omega, by simp only; omega, by simp only [swp_size]; exact he, (kp.tr k3).tr k4, sv4, eq⟩ (by simp only; omega) ⟨rfl, rfl, rfl, trivial⟩ rfl rfl
end Go.Proofs.Ytccbmmnkiihkaaa
namespace Go.Proofs.Ytccbmmnkiihkaaa
open Go.Sort
set_option maxRecDepth 100000
attribute [local irreducible] Go GoR GoL
set_option maxHeartbeats 32000000 in
theorem partU_spec (a : Option Addr) (cap : Nat) (d : Array Int) (x y pv : Nat) (hx : x ≤ pv) (hp : pv < y) (hxy : x + 2 ≤ y) (hy : y ≤ d.size) (hn : d.size ≤ 1000000) (h : AHeap) (hS : KvU h a cap d) : CallS Try.prog (blk a) 78 [.slice a d.size cap, .int .i64 x, .int .i64 y, .int .i64 pv] h fun v h' => v = .tuple #[.int .i64 (partition ltInt d x y pv).1, .bool (partition ltInt d x y pv).2.1] ∧ (partition ltInt d x y pv).2.2.size = d.size ∧ Sv h' 22 1 a d.size cap (ksU (partition ltInt d x y pv).2.2) := by
 unfold partition
 unfold KvU at hS
 generalize hL : d.size = L at *
 have hW : ∀ i ∈ blk a, i ∈ blk a ∨ h.n ≤ i := fun i hi => .inl hi
 have c1 : (ksU d)[x]? = some (.int .u16 d[x]!) := ksU_get (by omega)
 have c2 : (ksU d)[pv]? = some (.int .u16 d[pv]!) := ksU_get (by omega)
 have hl0 := ksU_len d
 have sv := hS
 (refine CallS.of4 Try.func78 rfl Try.ntmps78 Try.results78 rfl ?_)
 refine Go.runN (g:=?_)
 refine Go.loud (by kernel_rfl) rfl ?_
 (refine Go.runL (g:=?_))
 refine GoL.store1' rfl rfl rfl rfl rfl rfl (hS := sv) (hw := hW) (g:=?_)
 intro H3 sv3 k3 n3
 (refine Go.runL (g:=?_))
 refine GoL.store1' rfl rfl rfl rfl rfl rfl (hS := sv3) (hw := hW) (g:=?_)
 intro H4 sv4 k4 n4
 (refine Go.runL (g:=?_))
 (refine GoL.end_ (g:=?_))
 rw [ksU_swp] at sv4
 have he : (swp d x pv).size = L := by rw [swp_size]; exact hL
 generalize swp d x pv = e at *
 have kp := k3.tr k4
 clear sv sv3 k3 k4 n3 n4 c1 c2 hl0
 have sv := sv4
 clear sv4
 simp only
 (refine Go.run (g:=?_))
 obtain ⟨H, hH⟩ : ∃ H, H = H4 := ⟨_, rfl⟩
 subst hH
 obtain ⟨i, hi⟩ : ∃ i, i = x + 1 := ⟨_, rfl⟩
 obtain ⟨j, hj⟩ : ∃ j, j = y - 1 := ⟨_, rfl⟩
 rw [← hi, ← hj]
 have hl := ksU_len e
 obtain ⟨I, hI⟩ : ∃ I, I = scanUp (fun v => ltInt v e[x]!) e j i := ⟨_, rfl⟩
 have bI := scanUp_ge (fun v => ltInt v e[x]!) e j i
 rw [← hI] at bI
 refine Go.join2 (α := Unit) (fun _ => [(10, .int .i64 I), (11, .int .i64 j), (0, .slice a L cap), (1, .int .i64 x)]) (fun _ => []) (fun _ => H) (fun _ => True) ?_ ?_
 ·
  refine Go.loop (α := Nat) (fun s => [(10, .int .i64 s), (11, .int .i64 j), (0, .slice a L cap), (1, .int .i64 x)]) (fun _ => []) (fun _ => H) (fun s => i ≤ s ∧ s ≤ max i (j + 1) ∧ I = scanUp (fun v => ltInt v e[x]!) e j s) (fun s => j + 1 - s) i ?_ ?_ rfl rfl ?_
  · exact ⟨Nat.le_refl _, by omega, hI⟩
  · exact ⟨rfl, rfl, rfl, rfl, trivial⟩
  rintro i2 ⟨hi2, hi3, eq2⟩
  rcases Nat.lt_or_ge j i2 with z | z
  ·
   rw [scanUp_stop (.inl z)] at eq2
   subst eq2
   (refine Go.run (g:=?_))
   exact Go.joined () trivial ⟨rfl, rfl, rfl, rfl, trivial⟩ rfl rfl
  have c1 : (ksU e)[i2]? = some (.int .u16 e[i2]!) := ksU_get (by omega)
  have c2 : (ksU e)[x]? = some (.int .u16 e[x]!) := ksU_get (by omega)
  (refine Go.run (g:=?_))
  refine GoR.call rfl rfl rfl rfl rfl rfl rfl (((lessU_spec _ _ _).argA).mono ?_)
  rintro _ H2 ⟨rfl, rfl⟩ -
  cases hq : decide (e[i2]! < e[x]!) with
  | false =>
   rw [scanUp_stop (.inr (by show decide (e[i2]! < e[x]!) = false; rw [hq]; try rfl))] at eq2
   subst eq2
   (refine Go.run (g:=?_))
   exact Go.joined () trivial ⟨rfl, rfl, rfl, rfl, trivial⟩ rfl rfl
  | true =>
   rw [scanUp_more z (by show decide (e[i2]! < e[x]!) = true; rw [hq]; try rfl)] at eq2
   (refine Go.run (g:=?_))
   exact Go.again (i2 + 1) ⟨by omega, by omega, eq2⟩ (by omega) ⟨rfl, rfl, rfl, rfl, trivial⟩ rfl rfl
 intro _ _
 rw [← hI]
 (refine Go.run (g:=?_))
 obtain ⟨J, hJ⟩ : ∃ J, J = scanDown (fun v => !ltInt v e[x]!) e I j := ⟨_, rfl⟩
 have bJ := scanDown_le (fun v => !ltInt v e[x]!) e I j
 rw [← hJ] at bJ
 refine Go.join2 (α := Unit) (fun _ => [(10, .int .i64 I), (11, .int .i64 J), (0, .slice a L cap), (1, .int .i64 x)]) (fun _ => []) (fun _ => H) (fun _ => True) ?_ ?_
 ·
  refine Go.loop (α := Nat) (fun s => [(10, .int .i64 I), (11, .int .i64 s), (0, .slice a L cap), (1, .int .i64 x)]) (fun _ => []) (fun _ => H) (fun s => s ≤ j ∧ J = scanDown (fun v => !ltInt v e[x]!) e I s) (fun s => s) j ?_ ?_ rfl rfl ?_
  · exact ⟨Nat.le_refl _, hJ⟩
  · exact ⟨rfl, rfl, rfl, rfl, trivial⟩
  rintro j2 ⟨hi2, eq2⟩
  rcases Nat.lt_or_ge j2 I with z | z
  ·
   rw [scanDown_stop (by omega) (.inl z)] at eq2
   subst eq2
   (refine Go.run (g:=?_))
   exact Go.joined () trivial ⟨rfl, rfl, rfl, rfl, trivial⟩ rfl rfl
  have c1 : (ksU e)[j2]? = some (.int .u16 e[j2]!) := ksU_get (by omega)
  have c2 : (ksU e)[x]? = some (.int .u16 e[x]!) := ksU_get (by omega)
  (refine Go.run (g:=?_))
  refine GoR.call rfl rfl rfl rfl rfl rfl rfl (((lessU_spec _ _ _).argA).mono ?_)
  rintro _ H2 ⟨rfl, rfl⟩ -
  cases hq : decide (e[j2]! < e[x]!) with
  | true =>
   rw [scanDown_stop (by omega) (.inr (by show (!decide (e[j2]! < e[x]!)) = false; rw [hq]; try rfl))] at eq2
   subst eq2
   (refine Go.run (g:=?_))
   exact Go.joined () trivial ⟨rfl, rfl, rfl, rfl, trivial⟩ rfl rfl
  | false =>
   rw [scanDown_more (by omega) z (by show (!decide (e[j2]! < e[x]!)) = true; rw [hq]; try rfl)] at eq2
   (refine Go.run (g:=?_))
   exact Go.again (j2 - 1) ⟨by omega, eq2⟩ (by omega) ⟨rfl, rfl, rfl, rfl, trivial⟩ rfl rfl
 intro _ _
 rw [← hJ]
 clear hI
 have c1 : (ksU e)[x]? = some (.int .u16 e[x]!) := ksU_get (by omega)
 rcases Nat.lt_or_ge J I with z | z
 ·
  have c2 : (ksU e)[J]? = some (.int .u16 e[J]!) := ksU_get (by omega)
  rw [if_pos z]
  refine Go.runN (g:=?_)
  refine Go.loud (by kernel_rfl) rfl ?_
  (refine Go.runL (g:=?_))
  refine GoL.store1' rfl rfl rfl rfl rfl rfl (hS := sv) (hw := hW) (g:=?_)
  intro H3 sv3 k3 n3
  (refine Go.runL (g:=?_))
  refine GoL.store1' rfl rfl rfl rfl rfl rfl (hS := sv3) (hw := hW) (g:=?_)
  intro H4 sv4 k4 n4
  (refine Go.runL (g:=?_))
  (refine GoL.end_ (g:=?_))
  rw [ksU_swp] at sv4
  (refine Go.run (g:=?_))
  refine Go.fin (.inr rfl) (.tmp rfl (.tmp rfl .nil)) ?_
  exact ⟨rfl, by rw [swp_size]; exact he, sv4⟩
 rw [if_neg (by omega)]
 have c2 : (ksU e)[J]? = some (.int .u16 e[J]!) := ksU_get (by omega)
 have c3 : (ksU e)[I]? = some (.int .u16 e[I]!) := ksU_get (by omega)
 refine Go.runN (g:=?_)
 refine Go.loud (by kernel_rfl) rfl ?_
 (refine Go.runL (g:=?_))
 refine GoL.store1' rfl rfl rfl rfl rfl rfl (hS := sv) (hw := hW) (g:=?_)
 intro H3 sv3 k3 n3
 (refine Go.runL (g:=?_))
 refine GoL.store1' rfl rfl rfl rfl rfl rfl (hS := sv3) (hw := hW) (g:=?_)
 intro H4 sv4 k4 n4
 (refine Go.runL (g:=?_))
 (refine GoL.end_ (g:=?_))
 rw [ksU_swp] at sv4
 (refine Go.run (g:=?_))
 obtain ⟨F, hF⟩ : ∃ F, F = partLoop ltInt x (I + 1) (J - 1) (swp e I J) := ⟨_, rfl⟩
 rw [← hF]
 refine Go.loop (α := Nat × Nat × Array Int × AHeap) (fun s => [(10, .int .i64 s.1), (11, .int .i64 s.2.1), (0, .slice a L cap), (1, .int .i64 x)]) (fun _ => []) (fun s => s.2.2.2) (fun s => x < s.1 ∧ s.1 ≤ s.2.1 + 2 ∧ x ≤ s.2.1 ∧ s.2.1 < L ∧ s.2.2.1.size = L ∧ Keeps (blk a) h s.2.2.2 ∧ Sv s.2.2.2 22 1 a L cap (ksU s.2.2.1) ∧ F = partLoop ltInt x s.1 s.2.1 s.2.2.1) (fun s => s.2.1 + 1 - s.1) (I + 1, J - 1, swp e I J, H4) ?_ ?_ rfl rfl ?_
 · exact ⟨by simp only; omega, by simp only; omega, by simp only; omega, by simp only; omega, by simp only [swp_size]; exact he, (kp.tr k3).tr k4, sv4, hF⟩
 · exact ⟨rfl, rfl, rfl, rfl, trivial⟩
 clear hF hJ c1 c2 c3 z bI bJ hi hj hl he kp sv sv3 sv4 k3 k4 n3 n4
 clear I J i j e
 rintro ⟨i, j, e, H⟩ ⟨q1, q2, q3, q4, he, kp, sv, eq⟩
 simp only at q1 q2 q3 q4 he kp sv eq ⊢
 have hl := ksU_len e
 rw [partLoop] at eq
 try simp only at eq
 (refine Go.run (g:=?_))
 obtain ⟨I, hI⟩ : ∃ I, I = scanUp (fun v => ltInt v e[x]!) e j i := ⟨_, rfl⟩
 have bI := scanUp_ge (fun v => ltInt v e[x]!) e j i
 rw [← hI] at bI
 refine Go.join2 (α := Unit) (fun _ => [(10, .int .i64 I), (11, .int .i64 j), (0, .slice a L cap), (1, .int .i64 x)]) (fun _ => []) (fun _ => H) (fun _ => True) ?_ ?_
 ·
  refine Go.loop (α := Nat) (fun s => [(10, .int .i64 s), (11, .int .i64 j), (0, .slice a L cap), (1, .int .i64 x)]) (fun _ => []) (fun _ => H) (fun s => i ≤ s ∧ s ≤ max i (j + 1) ∧ I = scanUp (fun v => ltInt v e[x]!) e j s) (fun s => j + 1 - s) i ?_ ?_ rfl rfl ?_
  · exact ⟨Nat.le_refl _, by omega, hI⟩
  · exact ⟨rfl, rfl, rfl, rfl, trivial⟩
  rintro i2 ⟨hi2, hi3, eq2⟩
  rcases Nat.lt_or_ge j i2 with z | z
  ·
   rw [scanUp_stop (.inl z)] at eq2
   subst eq2
   (refine Go.run (g:=?_))
   exact Go.joined () trivial ⟨rfl, rfl, rfl, rfl, trivial⟩ rfl rfl
  have c1 : (ksU e)[i2]? = some (.int .u16 e[i2]!) := ksU_get (by omega)
  have c2 : (ksU e)[x]? = some (.int .u16 e[x]!) := ksU_get (by omega)
  (refine Go.run (g:=?_))
  refine GoR.call rfl rfl rfl rfl rfl rfl rfl (((lessU_spec _ _ _).argA).mono ?_)
  rintro _ H2 ⟨rfl, rfl⟩ -
  cases hq : decide (e[i2]! < e[x]!) with
  | false =>
   rw [scanUp_stop (.inr (by show decide (e[i2]! < e[x]!) = false; rw [hq]; try rfl))] at eq2
   subst eq2
   (refine Go.run (g:=?_))
   exact Go.joined () trivial ⟨rfl, rfl, rfl, rfl, trivial⟩ rfl rfl
  | true =>
   rw [scanUp_more z (by show decide (e[i2]! < e[x]!) = true; rw [hq]; try rfl)] at eq2
   (refine Go.run (g:=?_))
   exact Go.again (i2 + 1) ⟨by omega, by omega, eq2⟩ (by omega) ⟨rfl, rfl, rfl, rfl, trivial⟩ rfl rfl
 intro _ _
 (refine Go.run (g:=?_))
 rw [← hI] at eq
 clear hI
 obtain ⟨J, hJ⟩ : ∃ J, J = scanDown (fun v => !ltInt v e[x]!) e I j := ⟨_, rfl⟩
 have bJ := scanDown_le (fun v => !ltInt v e[x]!) e I j
 rw [← hJ] at bJ
 refine Go.join2 (α := Unit) (fun _ => [(10, .int .i64 I), (11, .int .i64 J), (0, .slice a L cap), (1, .int .i64 x)]) (fun _ => []) (fun _ => H) (fun _ => True) ?_ ?_
 ·
  refine Go.loop (α := Nat) (fun s => [(10, .int .i64 I), (11, .int .i64 s), (0, .slice a L cap), (1, .int .i64 x)]) (fun _ => []) (fun _ => H) (fun s => s ≤ j ∧ J = scanDown (fun v => !ltInt v e[x]!) e I s) (fun s => s) j ?_ ?_ rfl rfl ?_
  · exact ⟨Nat.le_refl _, hJ⟩
  · exact ⟨rfl, rfl, rfl, rfl, trivial⟩
  rintro j2 ⟨hi2, eq2⟩
  rcases Nat.lt_or_ge j2 I with z | z
  ·
   rw [scanDown_stop (by omega) (.inl z)] at eq2
   subst eq2
   (refine Go.run (g:=?_))
   exact Go.joined () trivial ⟨rfl, rfl, rfl, rfl, trivial⟩ rfl rfl
  have c1 : (ksU e)[j2]? = some (.int .u16 e[j2]!) := ksU_get (by omega)
  have c2 : (ksU e)[x]? = some (.int .u16 e[x]!) := ksU_get (by omega)
  (refine Go.run (g:=?_))
  refine GoR.call rfl rfl rfl rfl rfl rfl rfl (((lessU_spec _ _ _).argA).mono ?_)
  rintro _ H2 ⟨rfl, rfl⟩ -
  cases hq : decide (e[j2]! < e[x]!) with
  | true =>
   rw [scanDown_stop (by omega) (.inr (by show (!decide (e[j2]! < e[x]!)) = false; rw [hq]; try rfl))] at eq2
   subst eq2
   (refine Go.run (g:=?_))
   exact Go.joined () trivial ⟨rfl, rfl, rfl, rfl, trivial⟩ rfl rfl
  | false =>
   rw [scanDown_more (by omega) z (by show (!decide (e[j2]! < e[x]!)) = true; rw [hq]; try rfl)] at eq2
   (refine Go.run (g:=?_))
   exact Go.again (j2 - 1) ⟨by omega, eq2⟩ (by omega) ⟨rfl, rfl, rfl, rfl, trivial⟩ rfl rfl
 intro _ _
 rw [← hJ] at eq
 have c1 : (ksU e)[x]? = some (.int .u16 e[x]!) := ksU_get (by omega)
 have c2 : (ksU e)[J]? = some (.int .u16 e[J]!) := ksU_get (by omega)
 rcases Nat.lt_or_ge J I with z | z
 ·
  rw [if_pos z] at eq
  subst eq
  refine Go.runN (g:=?_)
  refine Go.loud (by kernel_rfl) rfl ?_
  (refine Go.runL (g:=?_))
  refine GoL.store1' rfl rfl rfl rfl rfl rfl (hS := sv) (hw := hW) (g:=?_)
  intro H3 sv3 k3 n3
  (refine Go.runL (g:=?_))
  refine GoL.store1' rfl rfl rfl rfl rfl rfl (hS := sv3) (hw := hW) (g:=?_)
  intro H4 sv4 k4 n4
  (refine Go.runL (g:=?_))
  (refine GoL.end_ (g:=?_))
  rw [ksU_swp] at sv4
  (refine Go.run (g:=?_))
  refine Go.fin (.inr rfl) (.tmp rfl (.tmp rfl .nil)) ?_
  exact ⟨rfl, by rw [swp_size]; exact he, sv4⟩
 rw [if_neg (by omega), dif_pos (by omega)] at eq
 have c3 : (ksU e)[I]? = some (.int .u16 e[I]!) := ksU_get (by omega)
 refine Go.runN (g:=?_)
 refine Go.loud (by kernel_rfl) rfl ?_
 (refine Go.runL (g:=?_))
 refine GoL.store1' rfl rfl rfl rfl rfl rfl (hS := sv) (hw := hW) (g:=?_)
 intro H3 sv3 k3 n3
 (refine Go.runL (g:=?_))
 refine GoL.store1' rfl rfl rfl rfl rfl rfl (hS := sv3) (hw := hW) (g:=?_)
 intro H4 sv4 k4 n4
 (refine Go.runL (g:=?_))
 (refine GoL.end_ (g:=?_))
 rw [ksU_swp] at sv4
 (refine Go.run (g:=?_))
 exact Go.again (I + 1, J - 1, swp e I J, H4) ⟨by simp only; omega, by simp only; omega, by simp only; omega, by simp only; omega, by simp only [swp_size]; exact he, (kp.tr k3).tr k4, sv4, eq⟩ (by simp only; omega) ⟨rfl, rfl, rfl, rfl, trivial⟩ rfl rfl
end Go.Proofs.Ytccbmmnkiihkaaa
namespace Go.Proofs.Ytccbmmnkiihkaaa
open Go.Sort
set_option maxRecDepth 100000
attribute [local irreducible] Go GoR GoL
set_option maxHeartbeats 32000000 in
theorem parteqU_spec (a : Option Addr) (cap : Nat) (d : Array Int) (x y pv : Nat) (hx : x ≤ pv) (hp : pv < y) (hxy : x + 2 ≤ y) (hy : y ≤ d.size) (hn : d.size ≤ 1000000) (h : AHeap) (hS : KvU h a cap d) : CallS Try.prog (blk a) 77 [.slice a d.size cap, .int .i64 x, .int .i64 y, .int .i64 pv] h fun v h' => v = .int .i64 (partitionEqual ltInt d x y pv).1 ∧ (partitionEqual ltInt d x y pv).2.size = d.size ∧ Sv h' 22 1 a d.size cap (ksU (partitionEqual ltInt d x y pv).2) := by
 unfold partitionEqual
 unfold KvU at hS
 generalize hL : d.size = L at *
 have hW : ∀ i ∈ blk a, i ∈ blk a ∨ h.n ≤ i := fun i hi => .inl hi
 have c1 : (ksU d)[x]? = some (.int .u16 d[x]!) := ksU_get (by omega)
 have c2 : (ksU d)[pv]? = some (.int .u16 d[pv]!) := ksU_get (by omega)
 have hl0 := ksU_len d
 have sv := hS
 (refine CallS.of4 Try.func77 rfl Try.ntmps77 Try.results77 rfl ?_)
 refine Go.runN (g:=?_)
 refine Go.loud (by kernel_rfl) rfl ?_
 (refine Go.runL (g:=?_))
 refine GoL.store1' rfl rfl rfl rfl rfl rfl (hS := sv) (hw := hW) (g:=?_)
 intro H3 sv3 k3 n3
 (refine Go.runL (g:=?_))
 refine GoL.store1' rfl rfl rfl rfl rfl rfl (hS := sv3) (hw := hW) (g:=?_)
 intro H4 sv4 k4 n4
 (refine Go.runL (g:=?_))
 (refine GoL.end_ (g:=?_))
 rw [ksU_swp] at sv4
 have he : (swp d x pv).size = L := by rw [swp_size]; exact hL
 (refine Go.run (g:=?_))
 obtain ⟨F, hF⟩ : ∃ F, F = partEqLoop ltInt x (x + 1) (y - 1) (swp d x pv) := ⟨_, rfl⟩
 rw [← hF]
 refine Go.loop (α := Nat × Nat × Array Int × AHeap) (fun s => [(9, .int .i64 s.1), (10, .int .i64 s.2.1), (0, .slice a L cap), (1, .int .i64 x)]) (fun _ => []) (fun s => s.2.2.2) (fun s => x < s.1 ∧ s.1 ≤ s.2.1 + 2 ∧ x ≤ s.2.1 ∧ s.2.1 < L ∧ s.2.2.1.size = L ∧ Keeps (blk a) h s.2.2.2 ∧ Sv s.2.2.2 22 1 a L cap (ksU s.2.2.1) ∧ F = partEqLoop ltInt x s.1 s.2.1 s.2.2.1) (fun s => s.2.1 + 1 - s.1) (x + 1, y - 1, swp d x pv, H4) ?_ ?_ rfl rfl ?_
 · exact ⟨by simp only; omega, by simp only; omega, by simp only; omega, by simp only; omega, he, k3.tr k4, sv4, hF⟩
 · exact ⟨rfl, rfl, rfl, rfl, trivial⟩
 clear hF he sv sv3 sv4 k3 k4 n3 n4 c1 c2 hl0
 rintro ⟨i, j, e, H⟩ ⟨q1, q2, q3, q4, he, kp, sv, eq⟩
 simp only at q1 q2 q3 q4 he kp sv eq ⊢
 have hl := ksU_len e
 rw [partEqLoop] at eq
 try simp only at eq
 (refine Go.run (g:=?_))
 obtain ⟨I, hI⟩ : ∃ I, I = scanUp (fun v => !ltInt e[x]! v) e j i := ⟨_, rfl⟩
 have bI := scanUp_ge (fun v => !ltInt e[x]! v) e j i
 rw [← hI] at bI
 refine Go.join2 (α := Unit) (fun _ => [(9, .int .i64 I), (10, .int .i64 j), (0, .slice a L cap), (1, .int .i64 x)]) (fun _ => []) (fun _ => H) (fun _ => True) ?_ ?_
 ·
  refine Go.loop (α := Nat) (fun s => [(9, .int .i64 s), (10, .int .i64 j), (0, .slice a L cap), (1, .int .i64 x)]) (fun _ => []) (fun _ => H) (fun s => i ≤ s ∧ s ≤ max i (j + 1) ∧ I = scanUp (fun v => !ltInt e[x]! v) e j s) (fun s => j + 1 - s) i ?_ ?_ rfl rfl ?_
  · exact ⟨Nat.le_refl _, by omega, hI⟩
  · exact ⟨rfl, rfl, rfl, rfl, trivial⟩
  rintro i2 ⟨hi2, hi3, eq2⟩
  rcases Nat.lt_or_ge j i2 with z | z
  ·
   rw [scanUp_stop (.inl z)] at eq2
   subst eq2
   (refine Go.run (g:=?_))
   exact Go.joined () trivial ⟨rfl, rfl, rfl, rfl, trivial⟩ rfl rfl
  have c1 : (ksU e)[i2]? = some (.int .u16 e[i2]!) := ksU_get (by omega)
  have c2 : (ksU e)[x]? = some (.int .u16 e[x]!) := ksU_get (by omega)
  (refine Go.run (g:=?_))
  refine GoR.call rfl rfl rfl rfl rfl rfl rfl (((lessU_spec _ _ _).argA).mono ?_)
  rintro _ H2 ⟨rfl, rfl⟩ -
  cases hq : decide (e[x]! < e[i2]!) with
  | true =>
   rw [scanUp_stop (.inr (by show (!decide (e[x]! < e[i2]!)) = false; rw [hq]; try rfl))] at eq2
   subst eq2
   (refine Go.run (g:=?_))
   exact Go.joined () trivial ⟨rfl, rfl, rfl, rfl, trivial⟩ rfl rfl
  | false =>
   rw [scanUp_more z (by show (!decide (e[x]! < e[i2]!)) = true; rw [hq]; try rfl)] at eq2
   (refine Go.run (g:=?_))
   exact Go.again (i2 + 1) ⟨by omega, by omega, eq2⟩ (by omega) ⟨rfl, rfl, rfl, rfl, trivial⟩ rfl rfl
 intro _ _
 (refine Go.run (g:=?_))
 rw [← hI] at eq
 clear hI
 obtain ⟨J, hJ⟩ : ∃ J, J = scanDown (fun v => ltInt e[x]! v) e I j := ⟨_, rfl⟩
 have bJ := scanDown_le (fun v => ltInt e[x]! v) e I j
 rw [← hJ] at bJ
 refine Go.join2 (α := Unit) (fun _ => [(9, .int .i64 I), (10, .int .i64 J), (0, .slice a L cap), (1, .int .i64 x)]) (fun _ => []) (fun _ => H) (fun _ => True) ?_ ?_
 ·
  refine Go.loop (α := Nat) (fun s => [(9, .int .i64 I), (10, .int .i64 s), (0, .slice a L cap), (1, .int .i64 x)]) (fun _ => []) (fun _ => H) (fun s => s ≤ j ∧ J = scanDown (fun v => ltInt e[x]! v) e I s) (fun s => s) j ?_ ?_ rfl rfl ?_
  · exact ⟨Nat.le_refl _, hJ⟩
  · exact ⟨rfl, rfl, rfl, rfl, trivial⟩
  rintro j2 ⟨hi2, eq2⟩
  rcases Nat.lt_or_ge j2 I with z | z
  ·
   rw [scanDown_stop (by omega) (.inl z)] at eq2
   subst eq2
   (refine Go.run (g:=?_))
   exact Go.joined () trivial ⟨rfl, rfl, rfl, rfl, trivial⟩ rfl rfl
  have c1 : (ksU e)[j2]? = some (.int .u16 e[j2]!) := ksU_get (by omega)
  have c2 : (ksU e)[x]? = some (.int .u16 e[x]!) := ksU_get (by omega)
  (refine Go.run (g:=?_))
  refine GoR.call rfl rfl rfl rfl rfl rfl rfl (((lessU_spec _ _ _).argA).mono ?_)
  rintro _ H2 ⟨rfl, rfl⟩ -
  cases hq : decide (e[x]! < e[j2]!) with
  | false =>
   rw [scanDown_stop (by omega) (.inr (by show decide (e[x]! < e[j2]!) = false; rw [hq]; try rfl))] at eq2
   subst eq2
   (refine Go.run (g:=?_))
   exact Go.joined () trivial ⟨rfl, rfl, rfl, rfl, trivial⟩ rfl rfl
  | true =>
   rw [scanDown_more (by omega) z (by show decide (e[x]! < e[j2]!) = true; rw [hq]; try rfl)] at eq2
   (refine Go.run (g:=?_))
   exact Go.again (j2 - 1) ⟨by omega, eq2⟩ (by omega) ⟨rfl, rfl, rfl, rfl, trivial⟩ rfl rfl
 intro _ _
 rw [← hJ] at eq
 have c2 : J < L := by omega
 rcases Nat.lt_or_ge J I with z | z
 ·
  rw [if_pos z] at eq
  subst eq
  (refine Go.run (g:=?_))
  (first|refine Go.finA rfl ?_|refine Go.finB rfl (hq:=?_))
  exact ⟨rfl, he, sv⟩
 rw [if_neg (by omega), dif_pos (by omega)] at eq
 have c2 : (ksU e)[J]? = some (.int .u16 e[J]!) := ksU_get (by omega)
 have c3 : (ksU e)[I]? = some (.int .u16 e[I]!) := ksU_get (by omega)
 refine Go.runN (g:=?_)
 refine Go.loud (by kernel_rfl) rfl ?_
 (refine Go.runL (g:=?_))
 refine GoL.store1' rfl rfl rfl rfl rfl rfl (hS := sv) (hw := hW) (g:=?_)
 intro H3 sv3 k3 n3
 (refine Go.runL (g:=?_))
 refine GoL.store1' rfl rfl rfl rfl rfl rfl (hS := sv3) (hw := hW) (g:=?_)
 intro H4 sv4 k4 n4
 (refine Go.runL (g:=?_))
 (refine GoL.end_ (g:=?_))
 rw [ksU_swp] at sv4
 (refine Go.run (g:=?_))
 exact Go.again (I + 1, J - 1, swp e I J, H4) ⟨by simp only; omega, by simp only; omega, by simp only; omega, by simp only; omega, by simp only [swp_size]; exact he, (kp.tr k3).tr k4, sv4, eq⟩ (by simp only; omega) ⟨rfl, rfl, rfl, rfl, trivial⟩ rfl rfl
end Go.Proofs.Ytccbmmnkiihkaaa
namespace Go.Proofs.Ytccbmmnkiihkaaa
open Go.Sort
set_option maxRecDepth 100000
attribute [local irreducible] Go GoR GoL
set_option maxHeartbeats 32000000 in
theorem pinsU_spec (a : Option Addr) (cap : Nat) (d : Array Int) (x y : Nat) (hxy : x < y) (hy : y ≤ d.size) (hn : d.size ≤ 1000000) (h : AHeap) (hS : KvU h a cap d) : CallS Try.prog (blk a) 75 [.slice a d.size cap, .int .i64 x, .int .i64 y] h fun v h' => v = .bool (partialInsertionSort ltInt d x y).2 ∧ (partialInsertionSort ltInt d x y).1.size = d.size ∧ Sv h' 22 1 a d.size cap (ksU (partialInsertionSort ltInt d x y).1) := by
 unfold partialInsertionSort
 unfold KvU at hS
 generalize hL : d.size = L at *
 have hW : ∀ i ∈ blk a, i ∈ blk a ∨ h.n ≤ i := fun i hi => .inl hi
 obtain ⟨R, hR⟩ : ∃ R, R = partialIns ltInt x y 5 (x + 1) d := ⟨_, rfl⟩
 rw [← hR]
 (refine CallS.of3 Try.func75 rfl Try.ntmps75 Try.results75 rfl ?_)
 (refine Go.run (g:=?_))
 refine Go.loop (α := Nat × Nat × Array Int × AHeap) (fun s => [(8, .int .i64 s.1), (7, .int .i64 s.2.1), (0, .slice a L cap), (1, .int .i64 x), (2, .int .i64 y)]) (fun _ => []) (fun s => s.2.2.2) (fun s => s.1 ≤ 5 ∧ x < s.2.1 ∧ s.2.1 ≤ y ∧ s.2.2.1.size = L ∧ Keeps (blk a) h s.2.2.2 ∧ Sv s.2.2.2 22 1 a L cap (ksU s.2.2.1) ∧ R = partialIns ltInt x y (5 - s.1) s.2.1 s.2.2.1) (fun s => 5 - s.1) (0, x + 1, d, h) ?_ ?_ rfl rfl ?_
 · exact ⟨by simp only; omega, by simp only; omega, by simp only; omega, hL, Keeps.rf _ _, hS, hR⟩
 · exact ⟨rfl, rfl, rfl, rfl, rfl, trivial⟩
 clear hR hS hL
 clear d
 rintro ⟨k, i, e, H⟩ ⟨hk, hi1, hi2, he, kp, sv, eq⟩
 simp only at hk hi1 hi2 he kp sv eq ⊢
 rcases Nat.lt_or_ge k 5 with k0 | k0
 case inr =>
  obtain rfl : k = 5 := by omega
  have eq : R = (e, false) := eq
  subst eq
  (refine Go.run (g:=?_))
  (first|refine Go.finA rfl ?_|refine Go.finB rfl (hq:=?_))
  exact ⟨rfl, he, sv⟩
 obtain ⟨s, hs⟩ : ∃ s, 5 - k = s + 1 := ⟨4 - k, by omega⟩
 rw [hs, partialIns] at eq
 try simp only at eq
 have hl := ksU_len e
 (refine Go.run (g:=?_))
 obtain ⟨I, hI⟩ : ∃ I, I = scanSorted ltInt e y i := ⟨_, rfl⟩
 have bI := scanSorted_ge e y i
 rw [← hI] at bI eq
 refine Go.join2 (α := Unit) (fun _ => [(8, .int .i64 k), (7, .int .i64 I), (0, .slice a L cap), (1, .int .i64 x), (2, .int .i64 y)]) (fun _ => []) (fun _ => H) (fun _ => True) ?_ ?_
 ·
  refine Go.loop (α := Nat) (fun s => [(8, .int .i64 k), (7, .int .i64 s), (0, .slice a L cap), (1, .int .i64 x), (2, .int .i64 y)]) (fun _ => []) (fun _ => H) (fun s => i ≤ s ∧ s ≤ y ∧ I = scanSorted ltInt e y s) (fun s => y - s) i ?_ ?_ rfl rfl ?_
  · exact ⟨Nat.le_refl _, hi2, hI⟩
  · exact ⟨rfl, rfl, rfl, rfl, rfl, trivial⟩
  clear eq
  rintro i2 ⟨g1, g2, eq2⟩
  rcases Nat.lt_or_ge i2 y with z | z
  case inr =>
   rw [scanSorted_stop (.inl z)] at eq2
   subst eq2
   (refine Go.run (g:=?_))
   exact Go.joined () trivial ⟨rfl, rfl, rfl, rfl, rfl, trivial⟩ rfl rfl
  have c1 : (ksU e)[i2]? = some (.int .u16 e[i2]!) := ksU_get (by omega)
  have c2 : (ksU e)[i2 - 1]? = some (.int .u16 e[i2 - 1]!) := ksU_get (by omega)
  (refine Go.run (g:=?_))
  refine GoR.call rfl rfl rfl rfl rfl rfl rfl (((lessU_spec _ _ _).argA).mono ?_)
  rintro _ H2 ⟨rfl, rfl⟩ -
  cases hq : decide (e[i2]! < e[i2 - 1]!) with
  | true =>
   rw [scanSorted_stop (.inr hq)] at eq2
   subst eq2
   (refine Go.run (g:=?_))
   exact Go.joined () trivial ⟨rfl, rfl, rfl, rfl, rfl, trivial⟩ rfl rfl
  | false =>
   rw [scanSorted_more z hq] at eq2
   (refine Go.run (g:=?_))
   exact Go.again (i2 + 1) ⟨by omega, by omega, eq2⟩ (by omega) ⟨rfl, rfl, rfl, rfl, rfl, trivial⟩ rfl rfl
 intro _ _
 clear hI
 by_cases z1 : I = y
 ·
  rw [if_pos z1] at eq
  subst eq
  (refine Go.run (g:=?_))
  (first|refine Go.finA rfl ?_|refine Go.finB rfl (hq:=?_))
  exact ⟨rfl, he, sv⟩
 rw [if_neg z1] at eq
 rcases Nat.lt_or_ge (y - x) 50 with z2 | z2
 ·
  rw [if_pos z2] at eq
  subst eq
  (refine Go.run (g:=?_))
  (first|refine Go.finA rfl ?_|refine Go.finB rfl (hq:=?_))
  exact ⟨rfl, he, sv⟩
 rw [if_neg (by omega)] at eq
 have c1 : (ksU e)[I]? = some (.int .u16 e[I]!) := ksU_get (by omega)
 have c2 : (ksU e)[I - 1]? = some (.int .u16 e[I - 1]!) := ksU_get (by omega)
 refine Go.runN (g:=?_)
 refine Go.loud (by kernel_rfl) rfl ?_
 (refine Go.runL (g:=?_))
 refine GoL.store1' rfl rfl rfl rfl rfl rfl (hS := sv) (hw := hW) (g:=?_)
 intro H3 sv3 k3 n3
 (refine Go.runL (g:=?_))
 refine GoL.store1' rfl rfl rfl rfl rfl rfl (hS := sv3) (hw := hW) (g:=?_)
 intro H4 sv4 k4 n4
 (refine Go.runL (g:=?_))
 (refine GoL.end_ (g:=?_))
 rw [ksU_swp] at sv4
 have he1 : (swp e I (I - 1)).size = L := by rw [swp_size]; exact he
 have kp1 := (kp.tr k3).tr k4
 generalize swp e I (I - 1) = g at *
 clear sv sv3 k3 k4 n3 n4 c1 c2 hl he kp
 obtain ⟨G2, hG2⟩ : ∃ G2, G2 = (if I - x ≥ 2 then shiftDown ltInt (I - 1) g else g) := ⟨_, rfl⟩
 rw [← hG2] at eq
 obtain ⟨G3, hG3⟩ : ∃ G3, G3 = (if y - I ≥ 2 then shiftUp ltInt y (I + 1) G2 else G2) := ⟨_, rfl⟩
 rw [← hG3] at eq
 (refine Go.run (g:=?_))
 refine Go.join1 (α := AHeap) (fun _ => [(8, .int .i64 k), (7, .int .i64 I), (0, .slice a L cap), (1, .int .i64 x), (2, .int .i64 y)]) (fun _ => []) (fun H => H) (fun H => G2.size = L ∧ Keeps (blk a) h H ∧ Sv H 22 1 a L cap (ksU G2)) ?_ ?_
 ·
  rcases Nat.lt_or_ge (I - x) 2 with z3 | z3
  ·
   rw [if_neg (by omega)] at hG2
   subst hG2
   (refine Go.run (g:=?_))
   exact Go.joined H4 ⟨he1, kp1, sv4⟩ ⟨rfl, rfl, rfl, rfl, rfl, trivial⟩ rfl rfl
  rw [if_pos z3] at hG2
  (refine Go.run (g:=?_))
  refine Go.loop (α := Nat × Array Int × AHeap) (fun s => [(9, .int .i64 s.1), (8, .int .i64 k), (7, .int .i64 I), (0, .slice a L cap), (1, .int .i64 x), (2, .int .i64 y)]) (fun _ => []) (fun s => s.2.2) (fun s => s.1 < L ∧ s.2.1.size = L ∧ Keeps (blk a) h s.2.2 ∧ Sv s.2.2 22 1 a L cap (ksU s.2.1) ∧ G2 = shiftDown ltInt s.1 s.2.1) (fun s => s.1) (I - 1, g, H4) ?_ ?_ rfl rfl ?_
  · exact ⟨by simp only; omega, he1, kp1, sv4, hG2⟩
  · exact ⟨rfl, rfl, rfl, rfl, rfl, rfl, trivial⟩
  clear hG2 sv4 kp1 he1 hG3
  clear eq
  rintro ⟨j, e, H⟩ ⟨q1, he, kp, sv, eq⟩
  simp only at q1 he kp sv eq ⊢
  rcases Nat.lt_or_ge 0 j with z4 | z4
  case inr =>
   obtain rfl : j = 0 := by omega
   rw [shiftDown_stop (.inl rfl)] at eq
   subst eq
   (refine Go.run (g:=?_))
   exact Go.joined H ⟨he, kp, sv⟩ ⟨rfl, rfl, rfl, rfl, rfl, trivial⟩ rfl rfl
  have hl := ksU_len e
  have c1 : (ksU e)[j]? = some (.int .u16 e[j]!) := ksU_get (by omega)
  have c2 : (ksU e)[j - 1]? = some (.int .u16 e[j - 1]!) := ksU_get (by omega)
  (refine Go.run (g:=?_))
  refine GoR.call rfl rfl rfl rfl rfl rfl rfl (((lessU_spec _ _ _).argA).mono ?_)
  rintro _ H2 ⟨rfl, rfl⟩ -
  cases hq : decide (e[j]! < e[j - 1]!) with
  | false =>
   rw [shiftDown_stop (.inr hq)] at eq
   subst eq
   (refine Go.run (g:=?_))
   exact Go.joined H2 ⟨he, kp, sv⟩ ⟨rfl, rfl, rfl, rfl, rfl, trivial⟩ rfl rfl
  | true =>
   rw [shiftDown_more z4 hq] at eq
   refine Go.runN (g:=?_)
   refine Go.loud (by kernel_rfl) rfl ?_
   (refine Go.runL (g:=?_))
   refine GoL.store1' rfl rfl rfl rfl rfl rfl (hS := sv) (hw := hW) (g:=?_)
   intro H3 sv3 k3 n3
   (refine Go.runL (g:=?_))
   refine GoL.store1' rfl rfl rfl rfl rfl rfl (hS := sv3) (hw := hW) (g:=?_)
   intro H4 sv4 k4 n4
   (refine Go.runL (g:=?_))
   (refine GoL.end_ (g:=?_))
   rw [ksU_swp] at sv4
   (refine Go.run (g:=?_))
   exact Go.again (j - 1, swp e j (j - 1), H4) ⟨by simp only; omega, by simp only [swp_size]; exact he, (kp.tr k3).tr k4, sv4, eq⟩ (by simp only; omega) ⟨rfl, rfl, rfl, rfl, rfl, rfl, trivial⟩ rfl rfl
 clear hG2 sv4 kp1 he1
 rintro H5 ⟨he5, kp5, sv5⟩
 (refine Go.run (g:=?_))
 refine Go.join1 (α := AHeap) (fun _ => [(8, .int .i64 k), (7, .int .i64 I), (0, .slice a L cap), (1, .int .i64 x), (2, .int .i64 y)]) (fun _ => []) (fun H => H) (fun H => G3.size = L ∧ Keeps (blk a) h H ∧ Sv H 22 1 a L cap (ksU G3)) ?_ ?_
 ·
  clear eq
  rcases Nat.lt_or_ge (y - I) 2 with z3 | z3
  ·
   rw [if_neg (by omega)] at hG3
   subst hG3
   (refine Go.run (g:=?_))
   exact Go.joined H5 ⟨he5, kp5, sv5⟩ ⟨rfl, rfl, rfl, rfl, rfl, trivial⟩ rfl rfl
  rw [if_pos z3] at hG3
  (refine Go.run (g:=?_))
  refine Go.loop (α := Nat × Array Int × AHeap) (fun s => [(10, .int .i64 s.1), (8, .int .i64 k), (7, .int .i64 I), (0, .slice a L cap), (1, .int .i64 x), (2, .int .i64 y)]) (fun _ => []) (fun s => s.2.2) (fun s => 1 ≤ s.1 ∧ s.1 ≤ y ∧ s.2.1.size = L ∧ Keeps (blk a) h s.2.2 ∧ Sv s.2.2 22 1 a L cap (ksU s.2.1) ∧ G3 = shiftUp ltInt y s.1 s.2.1) (fun s => y - s.1) (I + 1, G2, H5) ?_ ?_ rfl rfl ?_
  · exact ⟨by simp only; omega, by simp only; omega, he5, kp5, sv5, hG3⟩
  · exact ⟨rfl, rfl, rfl, rfl, rfl, rfl, trivial⟩
  clear hG3 sv5 kp5 he5
  rintro ⟨j, e, H⟩ ⟨q0, q1, he, kp, sv, eq⟩
  simp only at q0 q1 he kp sv eq ⊢
  rcases Nat.lt_or_ge j y with z4 | z4
  case inr =>
   rw [shiftUp_stop (.inl z4)] at eq
   subst eq
   (refine Go.run (g:=?_))
   exact Go.joined H ⟨he, kp, sv⟩ ⟨rfl, rfl, rfl, rfl, rfl, trivial⟩ rfl rfl
  have hl := ksU_len e
  have c1 : (ksU e)[j]? = some (.int .u16 e[j]!) := ksU_get (by omega)
  have c2 : (ksU e)[j - 1]? = some (.int .u16 e[j - 1]!) := ksU_get (by omega)
  (refine Go.run (g:=?_))
  refine GoR.call rfl rfl rfl rfl rfl rfl rfl (((lessU_spec _ _ _).argA).mono ?_)
  rintro _ H2 ⟨rfl, rfl⟩ -
  cases hq : decide (e[j]! < e[j - 1]!) with
  | false =>
   rw [shiftUp_stop (.inr hq)] at eq
   subst eq
   (refine Go.run (g:=?_))
   exact Go.joined H2 ⟨he, kp, sv⟩ ⟨rfl, rfl, rfl, rfl, rfl, trivial⟩ rfl rfl
  | true =>
   rw [shiftUp_more z4 hq] at eq
   refine Go.runN (g:=?_)
   refine Go.loud (by kernel_rfl) rfl ?_
   (refine Go.runL (g:=?_))
   refine GoL.store1' rfl rfl rfl rfl rfl rfl (hS := sv) (hw := hW) (g:=?_)
   intro H3 sv3 k3 n3
   (refine Go.runL (g:=?_))
   refine GoL.store1' rfl rfl rfl rfl rfl rfl (hS := sv3) (hw := hW) (g:=?_)
   intro H4 sv4 k4 n4
   (refine Go.runL (g:=?_))
   (refine GoL.end_ (g:=?_))
   rw [ksU_swp] at sv4
   (refine Go.run (g:=?_))
   exact Go.again (j + 1, swp e j (j - 1), H4) ⟨by simp only; omega, by simp only; omega, by simp only [swp_size]; exact he, (kp.tr k3).tr k4, sv4, eq⟩ (by simp only; omega) ⟨rfl, rfl, rfl, rfl, rfl, rfl, trivial⟩ rfl rfl
 clear hG3 sv5 kp5 he5
 rintro H6 ⟨he6, kp6, sv6⟩
 (refine Go.run (g:=?_))
 exact Go.again (k + 1, I, G3, H6) ⟨by simp only; omega, by simp only; omega, by simp only; omega, he6, kp6, sv6, by simp only; rw [show 5 - (k + 1) = s from by omega]; exact eq⟩ (by simp only; omega) ⟨rfl, rfl, rfl, rfl, rfl, trivial⟩ rfl rfl
end Go.Proofs.Ytccbmmnkiihkaaa
namespace Go.Proofs.Ytccbmmnkiihkaaa
open Go.Sort
set_option maxRecDepth 100000
attribute [local irreducible] Go GoR GoL
theorem bitsLen_sh {n k : Nat} (h : 2 ^ k ≤ n) : bitsLen n = k + bitsLen (n / 2 ^ k) := by
 have hp : 0 < 2 ^ k := Nat.two_pow_pos k
 have m1 : 1 ≤ bitsLen (n / 2 ^ k) := by
  apply Nat.pos_of_ne_zero
  intro e
  have := (bitsLen_le_iff (n / 2 ^ k) 0).1 (by omega)
  have : 1 ≤ n / 2 ^ k := (Nat.le_div_iff_mul_le hp).2 (by omega)
  omega
 have key : ∀ j, k ≤ j → (n / 2 ^ k < 2 ^ (j - k) ↔ n < 2 ^ j) := fun j hj => by
  rw [Nat.div_lt_iff_lt_mul hp, ← Nat.pow_add, Nat.sub_add_cancel hj]
 apply Nat.le_antisymm
 ·
  rw [bitsLen_le_iff, ← key _ (Nat.le_add_right _ _), Nat.add_sub_cancel_left]
  exact lt_two_pow_bitsLen _
 ·
  have a := lt_two_pow_bitsLen n
  have hk : k ≤ bitsLen n := by
   apply Nat.le_of_lt
   apply Nat.lt_of_not_le
   intro q
   have := (bitsLen_le_iff n k).1 q
   omega
  have b := (key _ hk).2 a
  rw [← bitsLen_le_iff] at b
  omega
theorem tab_at {P : Program} {t : TypeId} {s : ByteArray} (ht : P.underlying t = some .string) (hall : (List.range 256).all (fun k => decide ((s.data[k]?).map (fun b => b.toNat) = some (bitsLen k))) = true) {m : Nat} (hm : m < 256) : aIndex P t (.string s) (.int .u8 (m : Int)) = some (.int .u8 (bitsLen m : Nat)) := by
 have h := of_decide_eq_true (List.all_eq_true.1 hall m (List.mem_range.2 hm))
 unfold aIndex
 simp only [ht]
 rw [if_pos (by omega), Int.toNat_natCast]
 cases hs : s.data[m]? with
 | none => rw [hs] at h; cases h
 | some b =>
  rw [hs] at h
  simp only [Option.map_some, Option.some.injEq] at h ⊢
  rw [h]
set_option maxHeartbeats 8000000 in
theorem len64_spec (n : Nat) (hn : n ≤ 1000000) (h : AHeap) : CallS Try.prog [] 80 [.int .u64 n] h fun v h' => v = .int .i64 (bitsLen n : Nat) ∧ h' = h := by
 rcases Nat.lt_or_ge n 256 with n0 | n0
 ·
  (refine CallS.of1 Try.func80 rfl Try.ntmps80 Try.results80 rfl ?_)
  (refine Go.run (g:=?_))
  have hm : n % 256 = n := by omega
  have tb := fun (P : Program) (t : TypeId) (s : ByteArray) (ht : P.underlying t = some .string) hall => tab_at (P := P) (t := t) (s := s) ht hall n0
  obtain ⟨b, hb⟩ : ∃ b, b = bitsLen n := ⟨_, rfl⟩
  have hb8 : b ≤ 8 := by rw [hb]; exact (bitsLen_le_iff _ 8).2 (by omega)
  rw [hm]
  rw [← hb] at tb ⊢
  refine GoR.index rfl rfl rfl rfl rfl rfl (tb _ _ _ (by kernel_rfl) (by kernel_rfl)) ?_
  (refine Go.run (g:=?_))
  (first|refine Go.finA rfl ?_|refine Go.finB rfl (hq:=?_))
  exact ⟨by simp [retV], rfl⟩
 rcases Nat.lt_or_ge n 65536 with n1 | n1
 ·
  have e1 := bitsLen_sh (n := n) (k := 8) n0
  obtain ⟨m, hm⟩ : ∃ m, m = n / 2 ^ 8 := ⟨_, rfl⟩
  have hm2 : m < 256 := by omega
  rw [← hm] at e1
  have tb := fun (P : Program) (t : TypeId) (s : ByteArray) (ht : P.underlying t = some .string) hall => tab_at (P := P) (t := t) (s := s) ht hall hm2
  obtain ⟨b, hb⟩ : ∃ b, b = bitsLen m := ⟨_, rfl⟩
  have hb8 : b ≤ 8 := by rw [hb]; exact (bitsLen_le_iff _ 8).2 (by omega)
  rw [← hb] at e1 tb
  rw [e1]
  (refine CallS.of1 Try.func80 rfl Try.ntmps80 Try.results80 rfl ?_)
  (refine Go.run (g:=?_))
  rw [← hm, show m % 256 = m from by omega]
  refine GoR.index rfl rfl rfl rfl rfl rfl (tb _ _ _ (by kernel_rfl) (by kernel_rfl)) ?_
  (refine Go.run (g:=?_))
  (first|refine Go.finA rfl ?_|refine Go.finB rfl (hq:=?_))
  exact ⟨by simp [retV], rfl⟩
 have e1 := bitsLen_sh (n := n) (k := 16) n1
 obtain ⟨m, hm⟩ : ∃ m, m = n / 2 ^ 16 := ⟨_, rfl⟩
 have hm2 : m < 256 := by omega
 rw [← hm] at e1
 have tb := fun (P : Program) (t : TypeId) (s : ByteArray) (ht : P.underlying t = some .string) hall => tab_at (P := P) (t := t) (s := s) ht hall hm2
 obtain ⟨b, hb⟩ : ∃ b, b = bitsLen m := ⟨_, rfl⟩
 have hb8 : b ≤ 8 := by rw [hb]; exact (bitsLen_le_iff _ 8).2 (by omega)
 rw [← hb] at e1 tb
 rw [e1]
 (refine CallS.of1 Try.func80 rfl Try.ntmps80 Try.results80 rfl ?_)
 (refine Go.run (g:=?_))
 rw [← hm, show m % 256 = m from by omega]
 refine GoR.index rfl rfl rfl rfl rfl rfl (tb _ _ _ (by kernel_rfl) (by kernel_rfl)) ?_
 (refine Go.run (g:=?_))
 (first|refine Go.finA rfl ?_|refine Go.finB rfl (hq:=?_))
 exact ⟨by simp [retV], rfl⟩
set_option maxHeartbeats 8000000 in
theorem len_spec (n : Nat) (hn : n ≤ 1000000) (h : AHeap) : CallS Try.prog [] 68 [.int .u64 n] h fun v h' => v = .int .i64 (bitsLen n : Nat) ∧ h' = h := by
 (refine CallS.of1 Try.func68 rfl Try.ntmps68 Try.results68 rfl ?_)
 (refine Go.run (g:=?_))
 refine GoR.call rfl rfl rfl rfl rfl rfl rfl (((len64_spec n hn _).argA).mono ?_)
 rintro _ H2 ⟨rfl, rfl⟩ -
 (refine Go.run (g:=?_))
 (first|refine Go.finA rfl ?_|refine Go.finB rfl (hq:=?_))
 exact ⟨rfl, rfl⟩
theorem shl64 (x k : Nat) (hk : k ≤ 64) : iSh .shl .u64 (x : Int) (k : Int) = some (.int .u64 ((x * 2 ^ k % 18446744073709551616 : Nat) : Int)) := by
 unfold iSh
 rw [if_neg (by omega)]
 simp only [Int.toNat_natCast]
 rw [show min k IntKind.u64.bits = k from Nat.min_eq_left hk]
 simp [IntKind.wrap, IntKind.bits, IntKind.signed]
set_option maxHeartbeats 8000000 in
theorem npow_spec (n : Nat) (hn : n ≤ 1000000) (h : AHeap) : CallS Try.prog [] 82 [.int .i64 n] h fun v h' => v = .int .u64 (1 <<< bitsLen n : Nat) ∧ h' = h := by
 have hb : bitsLen n ≤ 20 := (bitsLen_le_iff n 20).2 (by omega)
 have hp : 2 ^ bitsLen n ≤ 2 ^ 20 := Nat.pow_le_pow_right (by decide) hb
 (refine CallS.of1 Try.func82 rfl Try.ntmps82 Try.results82 rfl ?_)
 (refine Go.run (g:=?_))
 refine GoR.call rfl rfl rfl rfl rfl rfl rfl (((len_spec n hn _).argA).mono ?_)
 rintro _ H2 ⟨rfl, rfl⟩ -
 (refine Go.run (g:=?_))
 refine GoR.shift rfl rfl rfl rfl rfl rfl (shl64 1 (bitsLen n) (by omega)) ?_
 (refine Go.run (g:=?_))
 (first|refine Go.finA rfl ?_|refine Go.finB rfl (hq:=?_))
 refine ⟨?_, rfl⟩
 rw [Nat.one_mul, Nat.mod_eq_of_lt (by omega), Nat.shiftLeft_eq, Nat.one_mul]
 rfl
set_option maxHeartbeats 8000000 in
theorem xor_spec (rb R : Nat) (hR : R < 18446744073709551616) (h : AHeap) (hc : h.get rb = some (.cells [.int .u64 R] 142)) : CallS Try.prog [rb] 83 [.pointer (some ⟨rb, 0, none⟩)] h fun v h' => v = .int .u64 (xorNextN R : Nat) ∧ h'.get rb = some (.cells [.int .u64 (xorNextN R : Nat)] 142) := by
 have p64 : (18446744073709551616 : Nat) = 2 ^ 64 := by decide
 obtain ⟨A, hA⟩ : ∃ A, A = R ^^^ (R * 2 ^ 13 % 18446744073709551616) := ⟨_, rfl⟩
 have lA : A < 18446744073709551616 := by rw [hA, p64]; exact Nat.xor_lt_two_pow (by omega) (by omega)
 obtain ⟨B, hB⟩ : ∃ B, B = A ^^^ (A / 2 ^ 7) := ⟨_, rfl⟩
 have lB : B < 18446744073709551616 := by rw [hB, p64]; exact Nat.xor_lt_two_pow (by omega) (by omega)
 have hC : xorNextN R = B ^^^ (B * 2 ^ 17 % 18446744073709551616) := by rw [hB, hA]; rfl
 (refine CallS.of1 Try.func83 rfl Try.ntmps83 Try.results83 rfl ?_)
 (refine Go.run (g:=?_))
 refine Go.loud (by kernel_rfl) rfl ?_
 (refine Go.runL (g:=?_))
 refine GoL.shift rfl rfl rfl rfl rfl rfl (shl64 R 13 (by omega)) ?_
 (refine Go.runL (g:=?_))
 refine GoL.xorN rfl rfl rfl rfl rfl rfl hR (Nat.mod_lt _ (by decide)) ?_
 rw [← hA]
 (refine Go.runL (g:=?_))
 refine GoL.st (g:=?_)
 (refine Go.runL (g:=?_))
 refine GoL.endN (g:=?_)
 refine Go.name ?_
 intro h1 e1
 have c1 : h1.get rb = some (.cells [.int .u64 A] 142) := by subst e1; exact get_put_self hc
 clear e1
 (refine Go.run (g:=?_))
 refine Go.loud (by kernel_rfl) rfl ?_
 (refine Go.runL (g:=?_))
 refine GoL.xorN rfl rfl rfl rfl rfl rfl lA (show A / 2 ^ 7 < 18446744073709551616 from by omega) ?_
 rw [← hB]
 (refine Go.runL (g:=?_))
 refine GoL.st (g:=?_)
 (refine Go.runL (g:=?_))
 refine GoL.endN (g:=?_)
 refine Go.name ?_
 intro h2 e2
 have c2 : h2.get rb = some (.cells [.int .u64 B] 142) := by subst e2; exact get_put_self c1
 clear e2
 (refine Go.run (g:=?_))
 refine Go.loud (by kernel_rfl) rfl ?_
 (refine Go.runL (g:=?_))
 refine GoL.shift rfl rfl rfl rfl rfl rfl (shl64 B 17 (by omega)) ?_
 (refine Go.runL (g:=?_))
 refine GoL.xorN rfl rfl rfl rfl rfl rfl lB (Nat.mod_lt _ (by decide)) ?_
 rw [← hC]
 (refine Go.runL (g:=?_))
 refine GoL.st (g:=?_)
 (refine Go.runL (g:=?_))
 refine GoL.endN (g:=?_)
 refine Go.name ?_
 intro h3 e3
 have c3 : h3.get rb = some (.cells [.int .u64 (xorNextN R : Nat)] 142) := by subst e3; exact get_put_self c2
 clear e3
 (refine Go.run (g:=?_))
 (first|refine Go.finA rfl ?_|refine Go.finB rfl (hq:=?_))
 exact ⟨rfl, c3⟩
def bst (a n m i0 : Nat) (st : UInt64 × Array Int) : Nat → UInt64 × Array Int
 | 0 => st
 | t + 1 => breakStep a n m (bst a n m i0 st t) (i0 + t)
theorem partEq_range (a : Nat) : ∀ (n i j : Nat) (d : Array Int), j + 1 - i ≤ n → 1 ≤ i → i ≤ (partEqLoop ltInt a i j d).1 ∧ (partEqLoop ltInt a i j d).1 ≤ max i (j + 1)
 | 0, i, j, d, h, h1 => by
  rw [partEqLoop]
  try simp only
  have bI := scanUp_ge (fun x => !ltInt d[a]! x) d j i
  have bJ := scanDown_le (fun x => ltInt d[a]! x) d (scanUp (fun x => !ltInt d[a]! x) d j i) j
  rw [if_pos (by omega)]
  exact bI
 | n + 1, i, j, d, h, h1 => by
  rw [partEqLoop]
  try simp only
  have bI := scanUp_ge (fun x => !ltInt d[a]! x) d j i
  have bJ := scanDown_le (fun x => ltInt d[a]! x) d (scanUp (fun x => !ltInt d[a]! x) d j i) j
  generalize scanUp (fun x => !ltInt d[a]! x) d j i = I at *
  generalize scanDown (fun x => ltInt d[a]! x) d I j = J at *
  split
  · exact bI
  ·
   split
   ·
    have := partEq_range a n (I + 1) (J - 1) (swp d I J) (by omega) (by omega)
    omega
   · exact bI
theorem partEq_mid (d : Array Int) {a b pv : Nat} (h : a + 1 ≤ b) : a < (partitionEqual ltInt d a b pv).1 ∧ (partitionEqual ltInt d a b pv).1 ≤ b := by
 have := partEq_range a _ (a + 1) (b - 1) (swp d a pv) (Nat.le_refl _) (by omega)
 unfold partitionEqual
 omega
theorem part_mid (d : Array Int) {a b pv : Nat} (h1 : a ≤ pv) (h2 : pv < b) (h3 : b ≤ d.size) : a ≤ (partition ltInt d a b pv).1 ∧ (partition ltInt d a b pv).1 < b := by
 obtain ⟨x, y, -⟩ := partition_holds ltInt swo_ltInt d a b pv h1 h2 h3
 exact ⟨x, y⟩
def pq4 (d : Array Int) (a b limit : Nat) (wb wp : Bool) (pivot : Nat) : Array Int :=
 if a > 0 && !ltInt d[a - 1]! d[pivot]! then
  match partitionEqual ltInt d a b pivot with
  | (mid, d4) => if _h : a < mid ∧ mid ≤ b then pdq ltInt d4 mid b limit wb wp else d4
 else
  match partition ltInt d a b pivot with
  | (mid, alreadyPartitioned, d4) =>
   if _h : a ≤ mid ∧ mid < b then
    if mid - a < b - mid then
     pdq ltInt (pdq ltInt d4 a mid limit true true) (mid + 1) b limit (decide (mid - a ≥ (b - a) / 8)) alreadyPartitioned
    else
     pdq ltInt (pdq ltInt d4 (mid + 1) b limit true true) a mid limit (decide (b - mid ≥ (b - a) / 8)) alreadyPartitioned
   else d4
def pq3 (d : Array Int) (a b limit : Nat) (wb wp : Bool) (pivot : Nat) (hint : Hint) : Array Int :=
 if (if wb && wp && hint = .increasing then partialInsertionSort ltInt d a b else (d, false)).2 then (if wb && wp && hint = .increasing then partialInsertionSort ltInt d a b else (d, false)).1
 else pq4 (if wb && wp && hint = .increasing then partialInsertionSort ltInt d a b else (d, false)).1 a b limit wb wp pivot
def pq2 (d : Array Int) (a b limit : Nat) (wb wp : Bool) : Array Int :=
 pq3 (if (choosePivot ltInt d a b).2 = .decreasing then reverseRange d a b else d) a b limit wb wp (if (choosePivot ltInt d a b).2 = .decreasing then (b - 1) - ((choosePivot ltInt d a b).1 - a) else (choosePivot ltInt d a b).1) (if (choosePivot ltInt d a b).2 = .decreasing then Hint.increasing else (choosePivot ltInt d a b).2)
theorem pdq_unfold {d : Array Int} {a b limit : Nat} {wb wp : Bool} (h1 : ¬ b - a ≤ 12) (h2 : ¬ limit = 0) : pdq ltInt d a b limit wb wp = pq2 (if !wb then breakPatterns d a b else d) a b (if !wb then limit - 1 else limit) wb wp := by
 rw [pdq, if_neg h1, if_neg h2]
 rfl
theorem pq4_eq {d : Array Int} {a b limit : Nat} {wb wp : Bool} {pivot : Nat} (h0 : a + 1 ≤ b) (h : (decide (a > 0) && !ltInt d[a - 1]! d[pivot]!) = true) : pq4 d a b limit wb wp pivot = pdq ltInt (partitionEqual ltInt d a b pivot).2 (partitionEqual ltInt d a b pivot).1 b limit wb wp := by
 unfold pq4
 rw [if_pos h]
 show (if _h : a < (partitionEqual ltInt d a b pivot).1 ∧ (partitionEqual ltInt d a b pivot).1 ≤ b then pdq ltInt (partitionEqual ltInt d a b pivot).2 (partitionEqual ltInt d a b pivot).1 b limit wb wp else (partitionEqual ltInt d a b pivot).2) = _
 rw [dif_pos (partEq_mid d h0)]
theorem pq4_ne {d : Array Int} {a b limit : Nat} {wb wp : Bool} {pivot : Nat} (h1 : a ≤ pivot) (h2 : pivot < b) (h3 : b ≤ d.size) (h : (decide (a > 0) && !ltInt d[a - 1]! d[pivot]!) = false) : pq4 d a b limit wb wp pivot =
  if (partition ltInt d a b pivot).1 - a < b - (partition ltInt d a b pivot).1 then
   pdq ltInt (pdq ltInt (partition ltInt d a b pivot).2.2 a (partition ltInt d a b pivot).1 limit true true) ((partition ltInt d a b pivot).1 + 1) b limit (decide ((partition ltInt d a b pivot).1 - a ≥ (b - a) / 8)) (partition ltInt d a b pivot).2.1
  else
   pdq ltInt (pdq ltInt (partition ltInt d a b pivot).2.2 ((partition ltInt d a b pivot).1 + 1) b limit true true) a (partition ltInt d a b pivot).1 limit (decide (b - (partition ltInt d a b pivot).1 ≥ (b - a) / 8)) (partition ltInt d a b pivot).2.1 := by
 unfold pq4
 rw [if_neg (by rw [h]; decide)]
 have hm := part_mid d h1 h2 h3
 generalize partition ltInt d a b pivot = r at *
 obtain ⟨mid, ap, d4⟩ := r
 exact dif_pos hm
section
variable {P : Program} {W : Nat → Prop} {q : Bool} {N : Nat} {k k' : List It} {x : Exit} {ov : Ov} {tm : List Value} {df : List Nat} {h : AHeap} {Q : PQ} {a b c : Code}
theorem Gx.seq (g : Gx P W q (.code a :: .code b :: k) x tm df h Q) : Gx P W q (.code (.seq a b) :: k) x tm df h Q := by
 refine ⟨fun e => ?_, fun hx => (g.2 hx).2 hx⟩
 obtain ⟨x₁, tm₁, df₁, h₁, r₁, n₁, g₁⟩ := g.1 e
 by_cases hx : x₁ = .normal
 ·
  obtain ⟨x₂, tm₂, df₂, h₂, r₂, n₂, g₂⟩ := g₁.1 hx
  subst hx
  exact ⟨x₂, tm₂, df₂, h₂, .seq r₁ r₂, n₂.trans n₁, g₂⟩
 · exact ⟨x₁, tm₁, df₁, h₁, .seq_out r₁ hx, n₁, g₁.2 hx⟩
end
end Go.Proofs.Ytccbmmnkiihkaaa
namespace Go.Proofs.Ytccbmmnkiihkaaa
open Go.Sort
set_option maxRecDepth 100000
attribute [local irreducible] Go GoR GoL
set_option maxHeartbeats 32000000 in
theorem brkU_spec (a : Option Addr) (cap : Nat) (d : Array Int) (x y : Nat) (hxy : x + 12 < y) (hy : y ≤ d.size) (hn : d.size ≤ 1000000) (h : AHeap) (hS : KvU h a cap d) : SortsU 72 a cap d [.int .i64 x, .int .i64 y] h (breakPatterns d x y) := by
 unfold SortsU breakPatterns
 unfold KvU at hS
 generalize hL : d.size = L at *
 obtain ⟨n, hyn⟩ : ∃ n, n = y - x := ⟨_, rfl⟩
 have hn12 : 12 < n := by omega
 have hnL : x + n ≤ L := by omega
 rw [← hyn]
 have hba : ∀ i ∈ blk a, i < h.n := hS.lt
 have hW : ∀ i ∈ blk a, i ∈ blk a ∨ h.n ≤ i := fun i hi => .inl hi
 rw [if_pos (show n ≥ 8 from by omega)]
 obtain ⟨M, hM⟩ : ∃ M, M = 1 <<< bitsLen n := ⟨_, rfl⟩
 have hMn : M ≤ 2 * n := by
  rw [hM, Nat.shiftLeft_eq, Nat.one_mul]
  have : Nat.log2 n + 1 = bitsLen n := by unfold bitsLen; rw [if_neg (by omega)]
  rw [← this, Nat.pow_succ]
  have := Nat.log2_self_le (n := n) (by omega)
  omega
 have hM1 : 1 ≤ M := by rw [hM, Nat.shiftLeft_eq, Nat.one_mul]; exact Nat.two_pow_pos _
 try simp only
 rw [← hM]
 (refine CallS.of3 Try.func72 rfl Try.ntmps72 Try.results72 rfl ?_)
 (refine Go.run (g:=?_))
 rw [← hyn]
 (refine Go.run (g:=?_))
 refine GoR.name ?_
 intro h2 e2
 have kp2 : Keeps (blk a) h h2 := by subst e2; exact (Keeps.ofSame ((Same.refl h).push _)).pt (.inr (Nat.le_refl _)) _
 have n2 : h2.n = h.n + 1 := by subst e2; rfl
 have rc2 : h2.get h.n = some (.cells [.int .u64 n] 142) := by subst e2; exact AHeap.get_put_same _ (by simp) _
 have sv2 : Sv h2 22 1 a L cap (ksU d) := by subst e2; exact hS.same (((Same.refl h).push _).put (Nat.le_refl _) _)
 clear e2
 refine GoR.call rfl rfl rfl rfl rfl rfl rfl (((npow_spec n (by omega) _).argA).mono ?_)
 rintro _ H2 ⟨rfl, rfl⟩ -
 rw [← hM]
 clear hM
 (refine Go.run (g:=?_))
 obtain ⟨i0, hi0⟩ : ∃ i0, i0 = x + n / 4 * 2 - 1 := ⟨_, rfl⟩
 rw [← hi0]
 obtain ⟨F, hF⟩ : ∃ F, F = (bst x n M i0 (UInt64.ofNat n, d) 3).2 := ⟨_, rfl⟩
 rw [show (breakStep x n M (breakStep x n M (breakStep x n M (UInt64.ofNat n, d) i0) (i0 + 1)) (i0 + 2)).2 = F from hF.symm]
 refine Go.loop (α := Nat × UInt64 × Array Int × AHeap) (fun s => [(9, .int .i64 (i0 + s.1 : Nat)), (7, .pointer (some ⟨h.n, 0, none⟩)), (8, .int .u64 M), (6, .int .i64 n), (0, .slice a L cap), (1, .int .i64 x)]) (fun _ => []) (fun s => s.2.2.2) (fun s => s.1 ≤ 3 ∧ s.2.2.1.size = L ∧ Keeps (blk a) h s.2.2.2 ∧ h.n < s.2.2.2.n ∧ Sv s.2.2.2 22 1 a L cap (ksU s.2.2.1) ∧ s.2.2.2.get h.n = some (.cells [.int .u64 s.2.1.toNat] 142) ∧ (s.2.1, s.2.2.1) = bst x n M i0 (UInt64.ofNat n, d) s.1) (fun s => 3 - s.1) (0, UInt64.ofNat n, d, H2) ?_ ?_ rfl rfl ?_
 ·
  refine ⟨by simp only; omega, hL, kp2, by simp only; omega, sv2, ?_, rfl⟩
  simp only
  rw [show (UInt64.ofNat n).toNat = n from by simp; omega]
  exact rc2
 · exact ⟨rfl, rfl, rfl, rfl, rfl, rfl, trivial⟩
 clear kp2 n2 rc2 sv2 hS
 rintro ⟨t, R, g, H⟩ ⟨ht, he, kp, hnn, sv, rc, eq⟩
 simp only at ht he kp hnn sv rc eq ⊢
 rcases Nat.lt_or_ge t 3 with t0 | t0
 case inr =>
  obtain rfl : t = 3 := by omega
  have eq : g = F := by rw [hF, ← eq]
  subst eq
  (refine Go.run (g:=?_))
  (first|refine Go.finA rfl ?_|refine Go.finB rfl (hq:=?_))
  exact ⟨rfl, he, sv⟩
 (refine Go.run (g:=?_))
 refine GoR.callW rfl rfl rfl rfl rfl rfl rfl (((xor_spec h.n R.toNat R.toNat_lt H rc).argA).mono ?_)
 rintro _ H3 ⟨rfl, rc3⟩ kq
 refine ⟨fun i hi => .inr (by simp only [List.mem_singleton] at hi; omega), ?_⟩
 obtain ⟨R2, hR2⟩ : ∃ R2, R2 = xorNext R := ⟨_, rfl⟩
 have eR2 : xorNextN R.toNat = R2.toNat := by rw [hR2, xorNext_toNat]
 rw [eR2] at rc3 ⊢
 obtain ⟨O, hO⟩ : ∃ O, O = R2.toNat &&& (M - 1) := ⟨_, rfl⟩
 have hOM : O ≤ M - 1 := by rw [hO]; exact Nat.and_le_right
 have lR2 := R2.toNat_lt
 have sv3 := sv.keeps kq (fun i hi hm => by simp only [List.mem_singleton] at hm; have := hba i hi; omega)
 have kp3 : Keeps (blk a) h H3 := ⟨by have := kp.1; have := kq.1; omega, fun i hi hn => by rw [kq.2 i (by have := kp.1; omega) (by simp; omega)]; exact kp.2 i hi hn⟩
 (refine Go.run (g:=?_))
 refine GoR.andN rfl rfl rfl rfl rfl rfl lR2 (show M - 1 < 18446744073709551616 from by omega) ?_
 rw [← hO]
 have step : bst x n M i0 (UInt64.ofNat n, d) (t + 1) = (R2, swp g (i0 + t) (x + (if O ≥ n then O - n else O))) := by
  show breakStep x n M (bst x n M i0 (UInt64.ofNat n, d) t) (i0 + t) = _
  rw [← eq, hO, hR2]; rfl
 have hl := ksU_len g
 have c1 : (ksU g)[i0 + t]? = some (.int .u16 g[i0 + t]!) := ksU_get (by omega)
 clear hO hR2 eR2 rc sv kp kq eq
 rcases Nat.lt_or_ge O n with z | z
 ·
  rw [if_neg (by omega)] at step
  have c2 : (ksU g)[x + O]? = some (.int .u16 g[x + O]!) := ksU_get (by omega)
  have sv := sv3
  clear sv3
  refine Go.runN (g:=?_)
  refine Go.loud (by kernel_rfl) rfl ?_
  (refine Go.runL (g:=?_))
  refine GoL.store1' rfl rfl rfl rfl rfl rfl (hS := sv) (hw := hW) (g:=?_)
  intro H3 sv3 k3 n3
  (refine Go.runL (g:=?_))
  refine GoL.store1' rfl rfl rfl rfl rfl rfl (hS := sv3) (hw := hW) (g:=?_)
  intro H4 sv4 k4 n4
  (refine Go.runL (g:=?_))
  (refine GoL.end_ (g:=?_))
  rw [ksU_swp] at sv4
  have rc4 := k4.get (k3.get rc3 (fun hm => by have := hba _ hm; omega)) (fun hm => by have := hba _ hm; omega)
  (refine Go.run (g:=?_))
  exact Go.again (t + 1, R2, swp g (i0 + t) (x + O), H4) ⟨by simp only; omega, by simp only [swp_size]; exact he, (kp3.tr k3).tr k4, by simp only; exact AHeap.lt rc4, sv4, rc4, step.symm⟩ (by simp only; omega) ⟨rfl, rfl, rfl, rfl, rfl, rfl, trivial⟩ rfl rfl
 ·
  rw [if_pos z] at step
  have c2 : (ksU g)[x + (O - n)]? = some (.int .u16 g[x + (O - n)]!) := ksU_get (by omega)
  have sv := sv3
  clear sv3
  refine Go.runN (g:=?_)
  refine Go.loud (by kernel_rfl) rfl ?_
  (refine Go.runL (g:=?_))
  refine GoL.store1' rfl rfl rfl rfl rfl rfl (hS := sv) (hw := hW) (g:=?_)
  intro H3 sv3 k3 n3
  (refine Go.runL (g:=?_))
  refine GoL.store1' rfl rfl rfl rfl rfl rfl (hS := sv3) (hw := hW) (g:=?_)
  intro H4 sv4 k4 n4
  (refine Go.runL (g:=?_))
  (refine GoL.end_ (g:=?_))
  rw [ksU_swp] at sv4
  have rc4 := k4.get (k3.get rc3 (fun hm => by have := hba _ hm; omega)) (fun hm => by have := hba _ hm; omega)
  (refine Go.run (g:=?_))
  exact Go.again (t + 1, R2, swp g (i0 + t) (x + (O - n)), H4) ⟨by simp only; omega, by simp only [swp_size]; exact he, (kp3.tr k3).tr k4, by simp only; exact AHeap.lt rc4, sv4, rc4, step.symm⟩ (by simp only; omega) ⟨rfl, rfl, rfl, rfl, rfl, rfl, trivial⟩ rfl rfl
end Go.Proofs.Ytccbmmnkiihkaaa