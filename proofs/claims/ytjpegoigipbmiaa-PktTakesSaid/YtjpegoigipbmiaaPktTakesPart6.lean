/- What the law leans on, part 6. No conditions. -/
import Derived.Test.YtjpegoigipbmiaaProg
import Derived.KernelRfl
import Derived.Test.YtjpegoigipbmiaaChecked
import Derived.Test.YtjpegoigipbmiaaPktTakesPart5
set_option linter.unusedVariables false
set_option linter.unusedSimpArgs false
namespace Go.Proofs.Ytjpegoigipbmiaa
instance : CT Try.prog 3 none := ⟨by kernel_rfl⟩
instance : SZ Try.prog 3 1 := ⟨by kernel_rfl⟩
theorem un3 : Try.prog.underlying 3 = some (.int .i64) := by kernel_rfl
instance : AL Try.prog 3 [.int .i64 0] := ⟨by kernel_rfl⟩
instance : CT Try.prog 4 none := ⟨by kernel_rfl⟩
instance : SZ Try.prog 4 1 := ⟨by kernel_rfl⟩
instance : CT Try.prog 5 none := ⟨by kernel_rfl⟩
instance : SZ Try.prog 5 1 := ⟨by kernel_rfl⟩
theorem un5 : Try.prog.underlying 5 = some (.int .u8) := by kernel_rfl
instance : CT Try.prog 22 none := ⟨by kernel_rfl⟩
instance : SZ Try.prog 22 1 := ⟨by kernel_rfl⟩
theorem un22 : Try.prog.underlying 22 = some (.int .u16) := by kernel_rfl
instance : CT Try.prog 23 none := ⟨by kernel_rfl⟩
instance : SZ Try.prog 23 1 := ⟨by kernel_rfl⟩
theorem un23 : Try.prog.underlying 23 = some (.int .u32) := by kernel_rfl
instance : CT Try.prog 25 (some 3) := ⟨by kernel_rfl⟩
instance : SZ Try.prog 25 3 := ⟨by kernel_rfl⟩
instance : FO Try.prog 25 0 0 := ⟨by kernel_rfl⟩
instance : FO Try.prog 25 1 1 := ⟨by kernel_rfl⟩
instance : FO Try.prog 25 2 2 := ⟨by kernel_rfl⟩
instance : ST Try.prog 25 [.int .u16 0, .int .u16 0, .int .u32 0] [(0, 1), (1, 1), (2, 1)] := .of (z := .agg #[.int .u16 0, .int .u16 0, .int .u32 0]) (fs := (match Try.prog.underlying 25 with | some (.struct fs) => fs | _ => #[])) (by kernel_rfl) (by kernel_rfl) (by kernel_rfl) (by kernel_rfl) (by kernel_rfl)
instance : AL Try.prog 25 [.int .u16 0, .int .u16 0, .int .u32 0] := ⟨by kernel_rfl⟩
instance : CT Try.prog 26 none := ⟨by kernel_rfl⟩
instance : SZ Try.prog 26 1 := ⟨by kernel_rfl⟩
instance : EL Try.prog 26 (none, 15) := ⟨by kernel_rfl⟩
instance : UN Try.prog 26 (.slice 43) := ⟨by kernel_rfl⟩
instance : BS Try.prog 26 43 15 (.agg #[.int .u8 0, .int .u8 0, .int .u32 0, .int .u32 0, .int .u32 0, .int .u16 0, .int .u16 0, .int .u16 0, .int .u16 0, .int .u32 0, .slice none 0 0, .slice none 0 0, .slice none 0 0, .slice none 0 0, .slice none 0 0]) := .of (by kernel_rfl) (by kernel_rfl) (by kernel_rfl) (by kernel_rfl) (by kernel_rfl)
instance : AP Try.prog 26 26 43 15 152 := .of (inf := Try.t43) (z := .agg #[.int .u8 0, .int .u8 0, .int .u32 0, .int .u32 0, .int .u32 0, .int .u16 0, .int .u16 0, .int .u16 0, .int .u16 0, .int .u32 0, .slice none 0 0, .slice none 0 0, .slice none 0 0, .slice none 0 0, .slice none 0 0]) (e₂ := 43) (by kernel_rfl) (by kernel_rfl) (by kernel_rfl) (by kernel_rfl) (by kernel_rfl) (by kernel_rfl) (by decide) (by kernel_rfl) (by kernel_rfl)
instance : CT Try.prog 28 (some 4) := ⟨by kernel_rfl⟩
instance : SZ Try.prog 28 4 := ⟨by kernel_rfl⟩
instance : FO Try.prog 28 0 0 := ⟨by kernel_rfl⟩
instance : FO Try.prog 28 1 3 := ⟨by kernel_rfl⟩
instance : ST Try.prog 28 [.int .u16 0, .int .u16 0, .int .u32 0, .slice none 0 0] [(0, 3), (3, 1)] := .of (z := .agg #[.int .u16 0, .int .u16 0, .int .u32 0, .slice none 0 0]) (fs := (match Try.prog.underlying 28 with | some (.struct fs) => fs | _ => #[])) (by kernel_rfl) (by kernel_rfl) (by kernel_rfl) (by kernel_rfl) (by kernel_rfl)
instance : AL Try.prog 28 [.int .u16 0, .int .u16 0, .int .u32 0, .slice none 0 0] := ⟨by kernel_rfl⟩
instance : CT Try.prog 31 none := ⟨by kernel_rfl⟩
instance : SZ Try.prog 31 1 := ⟨by kernel_rfl⟩
instance : EL Try.prog 31 (none, 1) := ⟨by kernel_rfl⟩
instance : UN Try.prog 31 (.slice 5) := ⟨by kernel_rfl⟩
instance : BS Try.prog 31 5 1 (.int .u8 0) := .of (by kernel_rfl) (by kernel_rfl) (by kernel_rfl) (by kernel_rfl) (by kernel_rfl)
instance : MK Try.prog 31 5 1 (.int .u8 0) := .of (inf := Try.t5) (by kernel_rfl) (by kernel_rfl) (by kernel_rfl) (by kernel_rfl) (by kernel_rfl) (by kernel_rfl) (by kernel_rfl)
instance : AP Try.prog 31 31 5 1 1 := .of (inf := Try.t5) (z := .int .u8 0) (e₂ := 5) (by kernel_rfl) (by kernel_rfl) (by kernel_rfl) (by kernel_rfl) (by kernel_rfl) (by kernel_rfl) (by decide) (by kernel_rfl) (by kernel_rfl)
instance : CT Try.prog 32 none := ⟨by kernel_rfl⟩
instance : SZ Try.prog 32 1 := ⟨by kernel_rfl⟩
instance : AL Try.prog 32 [.int .i64 0] := ⟨by kernel_rfl⟩
instance : CT Try.prog 39 none := ⟨by kernel_rfl⟩
instance : SZ Try.prog 39 1 := ⟨by kernel_rfl⟩
instance : EL Try.prog 39 (none, 1) := ⟨by kernel_rfl⟩
instance : UN Try.prog 39 (.slice 23) := ⟨by kernel_rfl⟩
instance : BS Try.prog 39 23 1 (.int .u32 0) := .of (by kernel_rfl) (by kernel_rfl) (by kernel_rfl) (by kernel_rfl) (by kernel_rfl)
instance : AP Try.prog 39 39 23 1 4 := .of (inf := Try.t23) (z := .int .u32 0) (e₂ := 23) (by kernel_rfl) (by kernel_rfl) (by kernel_rfl) (by kernel_rfl) (by kernel_rfl) (by kernel_rfl) (by decide) (by kernel_rfl) (by kernel_rfl)
instance : CT Try.prog 40 none := ⟨by kernel_rfl⟩
instance : SZ Try.prog 40 1 := ⟨by kernel_rfl⟩
instance : EL Try.prog 40 (none, 2) := ⟨by kernel_rfl⟩
instance : UN Try.prog 40 (.slice 78) := ⟨by kernel_rfl⟩
instance : BS Try.prog 40 78 2 (.agg #[.int .u16 0, .int .u16 0]) := .of (by kernel_rfl) (by kernel_rfl) (by kernel_rfl) (by kernel_rfl) (by kernel_rfl)
instance : AP Try.prog 40 40 78 2 4 := .of (inf := Try.t78) (z := .agg #[.int .u16 0, .int .u16 0]) (e₂ := 78) (by kernel_rfl) (by kernel_rfl) (by kernel_rfl) (by kernel_rfl) (by kernel_rfl) (by kernel_rfl) (by decide) (by kernel_rfl) (by kernel_rfl)
instance : CT Try.prog 41 none := ⟨by kernel_rfl⟩
instance : SZ Try.prog 41 1 := ⟨by kernel_rfl⟩
instance : EL Try.prog 41 (none, 2) := ⟨by kernel_rfl⟩
instance : UN Try.prog 41 (.slice 69) := ⟨by kernel_rfl⟩
instance : BS Try.prog 41 69 2 (.agg #[.int .u16 0, .slice none 0 0]) := .of (by kernel_rfl) (by kernel_rfl) (by kernel_rfl) (by kernel_rfl) (by kernel_rfl)
instance : AP Try.prog 41 41 69 2 32 := .of (inf := Try.t69) (z := .agg #[.int .u16 0, .slice none 0 0]) (e₂ := 69) (by kernel_rfl) (by kernel_rfl) (by kernel_rfl) (by kernel_rfl) (by kernel_rfl) (by kernel_rfl) (by decide) (by kernel_rfl) (by kernel_rfl)
instance : CT Try.prog 43 (some 15) := ⟨by kernel_rfl⟩
instance : SZ Try.prog 43 15 := ⟨by kernel_rfl⟩
instance : FO Try.prog 43 0 0 := ⟨by kernel_rfl⟩
instance : FO Try.prog 43 1 1 := ⟨by kernel_rfl⟩
instance : FO Try.prog 43 2 2 := ⟨by kernel_rfl⟩
instance : FO Try.prog 43 3 3 := ⟨by kernel_rfl⟩
instance : FO Try.prog 43 4 4 := ⟨by kernel_rfl⟩
instance : FO Try.prog 43 5 5 := ⟨by kernel_rfl⟩
instance : FO Try.prog 43 6 6 := ⟨by kernel_rfl⟩
instance : FO Try.prog 43 7 7 := ⟨by kernel_rfl⟩
instance : FO Try.prog 43 8 8 := ⟨by kernel_rfl⟩
instance : FO Try.prog 43 9 9 := ⟨by kernel_rfl⟩
instance : FO Try.prog 43 10 10 := ⟨by kernel_rfl⟩
instance : FO Try.prog 43 11 11 := ⟨by kernel_rfl⟩
instance : FO Try.prog 43 12 12 := ⟨by kernel_rfl⟩
instance : FO Try.prog 43 13 13 := ⟨by kernel_rfl⟩
instance : FO Try.prog 43 14 14 := ⟨by kernel_rfl⟩
instance : ST Try.prog 43 [.int .u8 0, .int .u8 0, .int .u32 0, .int .u32 0, .int .u32 0, .int .u16 0, .int .u16 0, .int .u16 0, .int .u16 0, .int .u32 0, .slice none 0 0, .slice none 0 0, .slice none 0 0, .slice none 0 0, .slice none 0 0] [(0, 1), (1, 1), (2, 1), (3, 1), (4, 1), (5, 1), (6, 1), (7, 1), (8, 1), (9, 1), (10, 1), (11, 1), (12, 1), (13, 1), (14, 1)] := .of (z := .agg #[.int .u8 0, .int .u8 0, .int .u32 0, .int .u32 0, .int .u32 0, .int .u16 0, .int .u16 0, .int .u16 0, .int .u16 0, .int .u32 0, .slice none 0 0, .slice none 0 0, .slice none 0 0, .slice none 0 0, .slice none 0 0]) (fs := (match Try.prog.underlying 43 with | some (.struct fs) => fs | _ => #[])) (by kernel_rfl) (by kernel_rfl) (by kernel_rfl) (by kernel_rfl) (by kernel_rfl)
instance : AL Try.prog 43 [.int .u8 0, .int .u8 0, .int .u32 0, .int .u32 0, .int .u32 0, .int .u16 0, .int .u16 0, .int .u16 0, .int .u16 0, .int .u32 0, .slice none 0 0, .slice none 0 0, .slice none 0 0, .slice none 0 0, .slice none 0 0] := ⟨by kernel_rfl⟩
instance : CT Try.prog 53 none := ⟨by kernel_rfl⟩
instance : SZ Try.prog 53 1 := ⟨by kernel_rfl⟩
theorem un54 : Try.prog.underlying 54 = some (.int .u8) := by kernel_rfl
instance : CT Try.prog 61 (some 3) := ⟨by kernel_rfl⟩
instance : SZ Try.prog 61 3 := ⟨by kernel_rfl⟩
instance : FO Try.prog 61 0 0 := ⟨by kernel_rfl⟩
instance : FO Try.prog 61 1 1 := ⟨by kernel_rfl⟩
instance : FO Try.prog 61 2 2 := ⟨by kernel_rfl⟩
instance : ST Try.prog 61 [.int .u16 0, .int .u8 0, .slice none 0 0] [(0, 1), (1, 1), (2, 1)] := .of (z := .agg #[.int .u16 0, .int .u8 0, .slice none 0 0]) (fs := (match Try.prog.underlying 61 with | some (.struct fs) => fs | _ => #[])) (by kernel_rfl) (by kernel_rfl) (by kernel_rfl) (by kernel_rfl) (by kernel_rfl)
instance : AL Try.prog 61 [.int .u16 0, .int .u8 0, .slice none 0 0] := ⟨by kernel_rfl⟩
instance : SZ Try.prog 69 2 := ⟨by kernel_rfl⟩
instance : FO Try.prog 69 0 0 := ⟨by kernel_rfl⟩
instance : FO Try.prog 69 1 1 := ⟨by kernel_rfl⟩
instance : ST Try.prog 69 [.int .u16 0, .slice none 0 0] [(0, 1), (1, 1)] := .of (z := .agg #[.int .u16 0, .slice none 0 0]) (fs := (match Try.prog.underlying 69 with | some (.struct fs) => fs | _ => #[])) (by kernel_rfl) (by kernel_rfl) (by kernel_rfl) (by kernel_rfl) (by kernel_rfl)
instance : CT Try.prog 78 (some 2) := ⟨by kernel_rfl⟩
instance : SZ Try.prog 78 2 := ⟨by kernel_rfl⟩
instance : FO Try.prog 78 0 0 := ⟨by kernel_rfl⟩
instance : FO Try.prog 78 1 1 := ⟨by kernel_rfl⟩
instance : ST Try.prog 78 [.int .u16 0, .int .u16 0] [(0, 1), (1, 1)] := .of (z := .agg #[.int .u16 0, .int .u16 0]) (fs := (match Try.prog.underlying 78 with | some (.struct fs) => fs | _ => #[])) (by kernel_rfl) (by kernel_rfl) (by kernel_rfl) (by kernel_rfl) (by kernel_rfl)
instance : AL Try.prog 78 [.int .u16 0, .int .u16 0] := ⟨by kernel_rfl⟩
instance : CT Try.prog 87 none := ⟨by kernel_rfl⟩
instance : SZ Try.prog 87 1 := ⟨by kernel_rfl⟩
instance : AL Try.prog 87 [.pointer none] := ⟨by kernel_rfl⟩
instance : SZ Try.prog 89 2 := ⟨by kernel_rfl⟩
instance : FO Try.prog 89 0 0 := ⟨by kernel_rfl⟩
instance : FO Try.prog 89 1 1 := ⟨by kernel_rfl⟩
instance : ST Try.prog 89 [.slice none 0 0, .bool false] [(0, 1), (1, 1)] := .of (z := .agg #[.slice none 0 0, .bool false]) (fs := (match Try.prog.underlying 89 with | some (.struct fs) => fs | _ => #[])) (by kernel_rfl) (by kernel_rfl) (by kernel_rfl) (by kernel_rfl) (by kernel_rfl)
instance : CT Try.prog 94 none := ⟨by kernel_rfl⟩
instance : SZ Try.prog 94 1 := ⟨by kernel_rfl⟩
theorem un95 : Try.prog.underlying 95 = some (.int .u64) := by kernel_rfl
instance : EL Try.prog 100 (none, 3) := ⟨by kernel_rfl⟩
instance : UN Try.prog 100 (.slice 61) := ⟨by kernel_rfl⟩
instance : BS Try.prog 100 61 3 (.agg #[.int .u16 0, .int .u8 0, .slice none 0 0]) := .of (by kernel_rfl) (by kernel_rfl) (by kernel_rfl) (by kernel_rfl) (by kernel_rfl)
instance : AP Try.prog 100 100 61 3 32 := .of (inf := Try.t61) (z := .agg #[.int .u16 0, .int .u8 0, .slice none 0 0]) (e₂ := 61) (by kernel_rfl) (by kernel_rfl) (by kernel_rfl) (by kernel_rfl) (by kernel_rfl) (by kernel_rfl) (by decide) (by kernel_rfl) (by kernel_rfl)
instance : CT Try.prog 116 none := ⟨by kernel_rfl⟩
instance : SZ Try.prog 116 1 := ⟨by kernel_rfl⟩
instance : AL Try.prog 116 [.nilFunc] := ⟨by kernel_rfl⟩
instance : SZ Try.prog 117 256 := ⟨by kernel_rfl⟩
instance : EL Try.prog 117 (some 256, 1) := ⟨by kernel_rfl⟩
instance : IC Try.prog 5 3 .i64 := .of un5 un3
instance : IC Try.prog 5 22 .u16 := .of un5 un22
instance : IC Try.prog 5 23 .u32 := .of un5 un23
instance : IC Try.prog 5 95 .u64 := .of un5 un95
instance : IC Try.prog 22 3 .i64 := .of un22 un3
instance : IC Try.prog 22 5 .u8 := .of un22 un5
instance : IC Try.prog 22 23 .u32 := .of un22 un23
instance : IC Try.prog 22 54 .u8 := .of un22 un54
instance : IC Try.prog 22 95 .u64 := .of un22 un95
instance : IC Try.prog 23 3 .i64 := .of un23 un3
instance : IC Try.prog 23 5 .u8 := .of un23 un5
instance : IC Try.prog 23 22 .u16 := .of un23 un22
instance : IC Try.prog 23 95 .u64 := .of un23 un95
instance : IC Try.prog 95 3 .i64 := .of un95 un3
instance : IC Try.prog 95 5 .u8 := .of un95 un5
instance : IC Try.prog 95 22 .u16 := .of un95 un22
instance : IC Try.prog 95 23 .u32 := .of un95 un23
instance : BY Try.prog 31 9 := ⟨⟨5, by kernel_rfl, by kernel_rfl⟩, by kernel_rfl⟩
theorem noGlobals : Try.prog.globals.size = 0 := by kernel_rfl
end Go.Proofs.Ytjpegoigipbmiaa
namespace Go.Proofs.Ytjpegoigipbmiaa
set_option maxRecDepth 100000
attribute [local irreducible] Go GoR GoL
theorem up_spec (n : Nat) (hn : n ≤ 1000000000) (h : AHeap) : CallS Try.prog [] 56 [.int .i64 n] h fun v h' => v = .int .i64 ((n + 3) / 4 * 4 : Nat) := by
  (refine CallS.of1 Try.func56 rfl Try.ntmps56 Try.results56 rfl ?_)
  (refine Go.run (g:=?_))
  refine GoR.binE _ rfl rfl rfl rfl rfl rfl (iAndNot3 (x := n + 3) (by omega)) ?_
  (refine Go.run (g:=?_))
  (first|refine Go.finT (by first|exact .inr rfl|exact .inl rfl) rfl ?_|refine Go.fin1 (by first|exact .inr rfl|exact .inl rfl) rfl (hq:=?_))
  rfl
abbrev tlvV (kind flags : Nat) (a : Option Addr) (len cap : Nat) : Value := .agg #[.int .u16 kind, .int .u8 flags, .slice a len cap]
end Go.Proofs.Ytjpegoigipbmiaa
namespace Go.Proofs.Ytjpegoigipbmiaa
open Go.RowKit
set_option maxRecDepth 100000
attribute [local irreducible] Go GoR GoL
def kn (k : Nat) : Bool := decide (k ≤ 11) || decide (k = 14)
theorem kknown_spec (k : Nat) (h : AHeap) : CallS Try.prog [] 20 [.int .u8 k] h fun v h' => v = .bool (kn k) ∧ h' = h := by
  by_cases c1 : k ≤ 11
  · (refine CallS.of1 Try.func20 rfl Try.ntmps20 Try.results20 rfl ?_)
    (refine Go.run (g:=?_))
    (first|refine Go.finT (by first|exact .inr rfl|exact .inl rfl) rfl ?_|refine Go.fin1 (by first|exact .inr rfl|exact .inl rfl) rfl (hq:=?_))
    exact ⟨by simp [retV, kn, c1], rfl⟩
  · by_cases c2 : k = 14
    · subst c2
      (refine CallS.of1 Try.func20 rfl Try.ntmps20 Try.results20 rfl ?_)
      (refine Go.run (g:=?_))
      (first|refine Go.finT (by first|exact .inr rfl|exact .inl rfl) rfl ?_|refine Go.fin1 (by first|exact .inr rfl|exact .inl rfl) rfl (hq:=?_))
      exact ⟨by simp [retV, kn], rfl⟩
    · have c3 : ¬ (k : Int) = 14 := by omega
      (refine CallS.of1 Try.func20 rfl Try.ntmps20 Try.results20 rfl ?_)
      (refine Go.run (g:=?_))
      (first|refine Go.finT (by first|exact .inr rfl|exact .inl rfl) rfl ?_|refine Go.fin1 (by first|exact .inr rfl|exact .inl rfl) rfl (hq:=?_))
      exact ⟨by simp [retV, kn, c1, c2, c3], rfl⟩
theorem rknown_spec (k : Nat) (h : AHeap) : CallS Try.prog [] 62 [.int .u8 k] h fun v h' => v = .bool (kn k) ∧ h' = h := by
  by_cases c1 : k < 12
  · have c4 : k ≤ 11 := by omega
    (refine CallS.of1 Try.func62 rfl Try.ntmps62 Try.results62 rfl ?_)
    (refine Go.run (g:=?_))
    (first|refine Go.finT (by first|exact .inr rfl|exact .inl rfl) rfl ?_|refine Go.fin1 (by first|exact .inr rfl|exact .inl rfl) rfl (hq:=?_))
    exact ⟨by simp [retV, kn, c1, c4], rfl⟩
  · have c4 : ¬ k ≤ 11 := by omega
    by_cases c2 : k = 14
    · subst c2
      (refine CallS.of1 Try.func62 rfl Try.ntmps62 Try.results62 rfl ?_)
      (refine Go.run (g:=?_))
      (first|refine Go.finT (by first|exact .inr rfl|exact .inl rfl) rfl ?_|refine Go.fin1 (by first|exact .inr rfl|exact .inl rfl) rfl (hq:=?_))
      exact ⟨by simp [retV, kn], rfl⟩
    · have c3 : ¬ (k : Int) = 14 := by omega
      (refine CallS.of1 Try.func62 rfl Try.ntmps62 Try.results62 rfl ?_)
      (refine Go.run (g:=?_))
      (first|refine Go.finT (by first|exact .inr rfl|exact .inl rfl) rfl ?_|refine Go.fin1 (by first|exact .inr rfl|exact .inl rfl) rfl (hq:=?_))
      exact ⟨by simp [retV, kn, c4, c2, c3], rfl⟩
theorem skips_spec (k : Nat) (hk : k < 256) (h : AHeap) : CallS Try.prog [] 21 [.int .u8 k] h fun v h' => v = .bool (!kn k && decide (128 ≤ k)) ∧ h' = h := by
  (refine CallS.of1 Try.func21 rfl Try.ntmps21 Try.results21 rfl ?_)
  (refine Go.run (g:=?_))
  refine GoR.call rfl rfl rfl rfl rfl rfl rfl (((kknown_spec k _).argA).mono ?_)
  rintro _ h ⟨rfl, rfl⟩ -
  cases kn k
  · (refine Go.run (g:=?_))
    (first|refine Go.finT (by first|exact .inr rfl|exact .inl rfl) rfl ?_|refine Go.fin1 (by first|exact .inr rfl|exact .inl rfl) rfl (hq:=?_))
    refine ⟨?_, rfl⟩
    by_cases c : 128 ≤ k
    · have : k / 2 ^ 7 = 1 := by omega
      simp [retV, c]; omega
    · simp [retV, c]; omega
  · (refine Go.run (g:=?_))
    (first|refine Go.finT (by first|exact .inr rfl|exact .inl rfl) rfl ?_|refine Go.fin1 (by first|exact .inr rfl|exact .inl rfl) rfl (hq:=?_))
    exact ⟨rfl, rfl⟩
end Go.Proofs.Ytjpegoigipbmiaa
namespace Go.Proofs.Ytjpegoigipbmiaa
set_option maxRecDepth 100000
attribute [local irreducible] Go GoR GoL
structure Sl where
  a : Option Addr
  n : Nat
  cap : Nat
structure Ck where
  k : Nat
  f : Nat
  tag : Nat
  rwnd : Nat
  tsn : Nat
  out : Nat
  inn : Nat
  sid : Nat
  ssn : Nat
  ppid : Nat
  D : Sl
  A : Sl
  G : Sl
  U : Sl
  C : Sl
abbrev Ck.cs (c : Ck) : List Value := [.int .u8 c.k, .int .u8 c.f, .int .u32 c.tag, .int .u32 c.rwnd, .int .u32 c.tsn, .int .u16 c.out, .int .u16 c.inn, .int .u16 c.sid, .int .u16 c.ssn, .int .u32 c.ppid, .slice c.D.a c.D.n c.D.cap, .slice c.A.a c.A.n c.A.cap, .slice c.G.a c.G.n c.G.cap, .slice c.U.a c.U.n c.U.cap, .slice c.C.a c.C.n c.C.cap]
abbrev Ck.v (c : Ck) : Value := .agg #[.int .u8 c.k, .int .u8 c.f, .int .u32 c.tag, .int .u32 c.rwnd, .int .u32 c.tsn, .int .u16 c.out, .int .u16 c.inn, .int .u16 c.sid, .int .u16 c.ssn, .int .u32 c.ppid, .slice c.D.a c.D.n c.D.cap, .slice c.A.a c.A.n c.A.cap, .slice c.G.a c.G.n c.G.cap, .slice c.U.a c.U.n c.U.cap, .slice c.C.a c.C.n c.C.cap]
def Sl.nil : Sl := ⟨none, 0, 0⟩
def Ck.none (k : Nat) : Ck := ⟨k, 0, 0, 0, 0, 0, 0, 0, 0, 0, .nil, .nil, .nil, .nil, .nil⟩
def cl (c : Ck) : Ck :=
  match c.k with
  | 0 => { Ck.none c.k with f := c.f &&& 7, tsn := c.tsn, sid := c.sid, ssn := c.ssn, ppid := c.ppid, D := c.D }
  | 1 => { Ck.none c.k with tag := c.tag, rwnd := c.rwnd, out := c.out, inn := c.inn, tsn := c.tsn, A := c.A }
  | 2 => { Ck.none c.k with tag := c.tag, rwnd := c.rwnd, out := c.out, inn := c.inn, tsn := c.tsn, A := c.A, D := c.D }
  | 3 => { Ck.none c.k with tsn := c.tsn, rwnd := c.rwnd, G := c.G, U := c.U }
  | 4 => { Ck.none c.k with D := c.D }
  | 5 => { Ck.none c.k with D := c.D }
  | 10 => { Ck.none c.k with D := c.D }
  | 6 => { Ck.none c.k with f := c.f &&& 1, C := c.C }
  | 9 => { Ck.none c.k with C := c.C }
  | 7 => { Ck.none c.k with tsn := c.tsn }
  | 14 => { Ck.none c.k with f := c.f &&& 1 }
  | 8 => Ck.none c.k
  | 11 => Ck.none c.k
  | _ => { Ck.none c.k with f := c.f, D := c.D }
theorem cl_else {c : Ck} (h1 : 11 < c.k) (h2 : c.k ≠ 14) : cl c = { Ck.none c.k with f := c.f, D := c.D } := by
  unfold cl
  split <;> first | rfl | omega
set_option maxHeartbeats 16000000 in
theorem clean_spec (c : Ck) (hf : c.f < 256) (h : AHeap) : CallS Try.prog [] 73 [c.v] h fun v h' => v = (cl c).v := by
  unfold Ck.v
  (refine CallS.of1 Try.func73 rfl Try.ntmps73 Try.results73 rfl ?_)
  (iterate 12 (first|refine GoR.end ?_|(refine GoR.gd rfl ?_;first|refine GoR.wanted' rfl rfl rfl rfl (g:=?_)|refine GoR.unwanted' rfl rfl rfl rfl (hd:=rfl) (hN:=rfl) (g:=?_)|refine GoR.unwantedU rfl rfl rfl rfl rfl rfl ?_)|(refine GoR.kk 0 rfl ?_;first|refine GoR.move rfl rfl rfl rfl rfl ?_|refine GoR.assign rfl rfl rfl rfl rfl ?_)|(refine GoR.kk 1 rfl ?_;first|refine GoR.load' rfl rfl rfl rfl rfl (g:=?_)|refine GoR.loadA' rfl rfl rfl rfl rfl (hv:=rfl) (g:=?_)|refine GoR.loadV' rfl rfl rfl rfl rfl (g:=?_)|refine GoR.loadVN' rfl rfl rfl rfl rfl (g:=?_))|(refine GoR.kk 2 rfl ?_;first|refine GoR.store' rfl rfl rfl rfl rfl (hl:=rfl) (h1:=rfl) (h3:=rfl) (g:=?_))|(refine GoR.kk 3 rfl ?_;first|refine GoR.fieldAddr rfl rfl rfl rfl rfl ?_|refine GoR.indexN' rfl rfl rfl rfl rfl rfl (g:=?_)|refine GoR.indexNs' rfl rfl rfl rfl rfl rfl (g:=?_)|refine GoR.indexV' rfl rfl rfl rfl rfl rfl (g:=?_)|refine GoR.indexA' rfl rfl rfl rfl rfl rfl (g:=?_)|refine GoR.fieldV' rfl rfl rfl rfl rfl (g:=?_))|(refine GoR.kk 4 rfl ?_;first|refine GoR.eq rfl rfl rfl rfl rfl rfl ?_|refine GoR.ne rfl rfl rfl rfl rfl rfl ?_|refine GoR.lt rfl rfl rfl rfl rfl rfl ?_|refine GoR.le rfl rfl rfl rfl rfl rfl ?_|refine GoR.gt rfl rfl rfl rfl rfl rfl ?_|refine GoR.ge rfl rfl rfl rfl rfl rfl ?_|refine GoR.addN' rfl rfl rfl rfl rfl rfl (g:=?_)|refine GoR.subN' rfl rfl rfl rfl rfl rfl (g:=?_)|refine GoR.add' rfl rfl rfl rfl rfl rfl (g:=?_)|refine GoR.sub' rfl rfl rfl rfl rfl rfl (g:=?_)|refine GoR.addM' rfl rfl rfl rfl rfl rfl (g:=?_)|refine GoR.subM' rfl rfl rfl rfl rfl rfl (g:=?_)|refine GoR.mulM' rfl rfl rfl rfl rfl rfl (g:=?_)|refine GoR.shrN rfl rfl rfl rfl rfl rfl rfl ?_|refine GoR.structEq rfl rfl rfl rfl rfl rfl (by rfl) (by rfl) ?_|refine GoR.structNe rfl rfl rfl rfl rfl rfl (by rfl) (by rfl) ?_|refine GoR.strEq rfl rfl rfl rfl rfl rfl ?_|refine GoR.strNe rfl rfl rfl rfl rfl rfl ?_|refine GoR.remN' rfl rfl rfl rfl rfl rfl (g:=?_)|refine GoR.quoN' rfl rfl rfl rfl rfl rfl (g:=?_)|refine GoR.shlN' rfl rfl rfl rfl rfl rfl rfl (g:=?_)|refine GoR.orN' rfl rfl rfl rfl rfl rfl (g:=?_))|(refine GoR.kk 5 rfl ?_;first|refine GoR.len rfl rfl rfl rfl rfl ?_|refine GoR.lenStr rfl rfl rfl rfl rfl ?_|refine GoR.capB rfl rfl rfl rfl rfl ?_)|(refine GoR.kk 7 rfl ?_;first|refine GoR.pickE' rfl rfl rfl rfl rfl (hx:=rfl) (hy:=rfl) (g:=?_)|refine GoR.pickN' rfl rfl rfl rfl rfl (hx:=rfl) (hy:=rfl) (g:=?_)|refine GoR.pickB rfl rfl rfl rfl rfl rfl rfl ?_)|(refine GoR.kk 8 rfl ?_;first|refine GoR.boxA rfl rfl rfl rfl rfl ?_|refine GoR.boxS rfl rfl rfl rfl rfl rfl ?_|refine GoR.alloc rfl rfl rfl rfl ?_)|(refine GoR.kk 9 rfl ?_;first|refine GoR.strV' rfl rfl rfl rfl rfl (g:=?_)|refine GoR.conv_u8 rfl rfl rfl rfl rfl ?_|refine GoR.convW' rfl rfl rfl rfl rfl (g:=?_)|refine GoR.conv_u16 rfl rfl rfl rfl rfl ?_|refine GoR.conv_u32 rfl rfl rfl rfl rfl ?_)|(refine GoR.kk 10 rfl ?_;first|refine GoR.build' rfl rfl rfl rfl rfl rfl (g:=?_))|(refine GoR.kk 11 rfl ?_;first|refine GoR.extract rfl rfl rfl rfl rfl rfl ?_|refine GoR.not rfl rfl rfl rfl rfl ?_|refine GoR.nilCheck rfl rfl rfl rfl rfl ?_|refine GoR.nilCheckF rfl rfl rfl rfl rfl ?_|refine GoR.makeFunc rfl rfl rfl rfl rfl rfl ?_)|(refine Go.kk 0 rfl ?_;refine Go.seq ?_)|(refine Go.kk 1 rfl ?_;refine Go.region (by kernel_rfl) rfl ?_)|(refine Go.kk 2 rfl ?_;refine Go.drawnQ rfl (by kernel_rfl) rfl ?_)|(refine Go.kk 3 rfl ?_;first|refine Go.cond_t' rfl (g:=?_)|refine Go.cond_f' rfl (g:=?_))|(refine Go.kk 4 rfl ?_;refine Go.block ?_)|(refine Go.kk 5 rfl ?_;first|refine Go.skip ?_|refine Go.ret ?_|refine Go.exit ?_|refine Go.scope ?_)|refine Go.leave_normal ?_|refine Go.leave_same ?_|refine Go.leave_ret ?_|refine Go.ret_code ?_|refine Go.exit_code ?_|refine Go.leave_other rfl ?_|refine Go.sc_normal ?_|refine Go.sc_ret ?_|refine Go.sc_exit ?_|refine Go.exit_back ?_|refine Go.ret_back ?_))
  simp only [AHeap.n_push, AHeap.n_put]
  refine GoR.name ?_
  intro h3 e3
  have G0 : h3.get h.n = some (.cells c.cs 43) := by
    subst e3
    rw [AHeap.get_put_ne _ _ (by omega), AHeap.get_push_ne _ _ (by simp; omega), AHeap.get_push_ne _ _ (by simp), AHeap.get_push_same]
  have G2 : h3.get (h.n + 1 + 1) = some (.cells [.int .u8 c.k, .int .u8 0, .int .u32 0, .int .u32 0, .int .u32 0, .int .u16 0, .int .u16 0, .int .u16 0, .int .u16 0, .int .u32 0, .slice none 0 0, .slice none 0 0, .slice none 0 0, .slice none 0 0, .slice none 0 0] 43) := by
    subst e3
    exact AHeap.get_put_same _ (by simp) _
  have G1 : h3.get (h.n + 1) = some (.cells [.int .u8 0, .int .u8 0, .int .u32 0, .int .u32 0, .int .u32 0, .int .u16 0, .int .u16 0, .int .u16 0, .int .u16 0, .int .u32 0, .slice none 0 0, .slice none 0 0, .slice none 0 0, .slice none 0 0, .slice none 0 0] 43) := by
    subst e3
    rw [AHeap.get_put_ne _ _ (by omega), AHeap.get_push_ne _ _ (by simp)]
    exact AHeap.get_push_same (h.push _) _
  have n3 : h3.n = h.n + 3 := by subst e3; rfl
  have S3 : Same h h3 := by subst e3; exact ((((Same.refl h).push _).push _).push _).put (by omega) _
  clear e3
  unfold Ck.cs at G0
  rcases (show c.k = 0 ∨ c.k = 1 ∨ c.k = 2 ∨ c.k = 3 ∨ c.k = 4 ∨ c.k = 5 ∨ c.k = 6 ∨ c.k = 7 ∨ c.k = 8 ∨ c.k = 9 ∨ c.k = 10 ∨ c.k = 11 ∨ c.k = 14 ∨ (11 < c.k ∧ c.k ≠ 14) by omega) with hk | hk | hk | hk | hk | hk | hk | hk | hk | hk | hk | hk | hk | ⟨h1, h2⟩
  · rw [show cl c = { Ck.none c.k with f := c.f &&& 7, tsn := c.tsn, sid := c.sid, ssn := c.ssn, ppid := c.ppid, D := c.D } from by unfold cl; split <;> first | rfl | omega | contradiction | (simp_all; done)]
    unfold Ck.none Sl.nil
    (refine Go.run (g:=?_))
    refine GoR.andN (j := 7) rfl rfl rfl rfl rfl rfl (by simp [IntKind.bits, IntKind.signed]; omega) (by simp [IntKind.bits, IntKind.signed]) ?_
    (refine Go.run (g:=?_))
    refine Go.loud (by kernel_rfl) rfl ?_
    (refine Go.runL (g:=?_))
    refine GoL.store' rfl rfl rfl rfl rfl (hl:=rfl) (h1:=rfl) (h3:=rfl) (g:=?_)
    (refine Go.runL (g:=?_))
    refine GoL.store' rfl rfl rfl rfl rfl (hl:=rfl) (h1:=rfl) (h3:=rfl) (g:=?_)
    (refine Go.runL (g:=?_))
    refine GoL.store' rfl rfl rfl rfl rfl (hl:=rfl) (h1:=rfl) (h3:=rfl) (g:=?_)
    (refine Go.runL (g:=?_))
    refine GoL.store' rfl rfl rfl rfl rfl (hl:=rfl) (h1:=rfl) (h3:=rfl) (g:=?_)
    (refine Go.runL (g:=?_))
    refine GoL.store' rfl rfl rfl rfl rfl (hl:=rfl) (h1:=rfl) (h3:=rfl) (g:=?_)
    refine GoL.end_ (hl := by (simp only [List.nil_append, List.cons_append]); repeat (first | exact loudP.nil | refine loudP.none ?_ | refine loudP.new (fun _ hb => absurd hb List.not_mem_nil) ?_ | refine loudP.row (by repeat (first | exact loudRowP.nil | refine loudRowP.none ?_ | refine loudRowP.bef (by decide +kernel) ?_ | refine loudRowP.apart (by first | exact .inl rfl | exact .inr (by simp)) rfl (by intro i hi; simp only [List.mem_singleton] at hi; subst hi; simp; omega) ?_)) ?_)) ?_
    (refine Go.run (g:=?_))
    refine Go.fin (by first|exact .inr rfl|exact .inl rfl) (.cellN (b := h.n + 1) (off := 0) rfl inferInstance (by (first | assumption | exact AHeap.get_push_same _ _ | ((repeat first | exact AHeap.get_push_same _ _ | assumption | refine get_push_lt ?_ | exact AHeap.get_put_same _ (by first | omega | (simp only [AHeap.n_push, AHeap.n_put]; omega)) _ | exact get_put_self (by assumption) | apply get_put_self | refine get_put_other (by first | omega | (simp only [AHeap.n_push, AHeap.n_put]; omega)) ?_ | refine Same.get (by assumption) ?_ | refine Keeps.get (by assumption) ?_ (fun hi => by have hx := Own.out (by assumption) hi; omega)) ; fail_if_success focus skip) | fail)) (by first | exact Nat.le_refl _ | (simp [setL, cellsL]; fail_if_success focus skip) | (simp; omega)) rfl .nil) ?_
    rfl
  · rw [show cl c = { Ck.none c.k with tag := c.tag, rwnd := c.rwnd, out := c.out, inn := c.inn, tsn := c.tsn, A := c.A } from by unfold cl; split <;> first | rfl | omega | contradiction | (simp_all; done)]
    unfold Ck.none Sl.nil
    (refine Go.run (g:=?_))
    refine Go.loud (by kernel_rfl) rfl ?_
    (refine Go.runL (g:=?_))
    refine GoL.store' rfl rfl rfl rfl rfl (hl:=rfl) (h1:=rfl) (h3:=rfl) (g:=?_)
    (refine Go.runL (g:=?_))
    refine GoL.store' rfl rfl rfl rfl rfl (hl:=rfl) (h1:=rfl) (h3:=rfl) (g:=?_)
    (refine Go.runL (g:=?_))
    refine GoL.store' rfl rfl rfl rfl rfl (hl:=rfl) (h1:=rfl) (h3:=rfl) (g:=?_)
    (refine Go.runL (g:=?_))
    refine GoL.store' rfl rfl rfl rfl rfl (hl:=rfl) (h1:=rfl) (h3:=rfl) (g:=?_)
    (refine Go.runL (g:=?_))
    refine GoL.store' rfl rfl rfl rfl rfl (hl:=rfl) (h1:=rfl) (h3:=rfl) (g:=?_)
    (refine Go.runL (g:=?_))
    refine GoL.store' rfl rfl rfl rfl rfl (hl:=rfl) (h1:=rfl) (h3:=rfl) (g:=?_)
    refine GoL.end_ (hl := by (simp only [List.nil_append, List.cons_append]); repeat (first | exact loudP.nil | refine loudP.none ?_ | refine loudP.new (fun _ hb => absurd hb List.not_mem_nil) ?_ | refine loudP.row (by repeat (first | exact loudRowP.nil | refine loudRowP.none ?_ | refine loudRowP.bef (by decide +kernel) ?_ | refine loudRowP.apart (by first | exact .inl rfl | exact .inr (by simp)) rfl (by intro i hi; simp only [List.mem_singleton] at hi; subst hi; simp; omega) ?_)) ?_)) ?_
    (refine Go.run (g:=?_))
    refine Go.fin (by first|exact .inr rfl|exact .inl rfl) (.cellN (b := h.n + 1) (off := 0) rfl inferInstance (by (first | assumption | exact AHeap.get_push_same _ _ | ((repeat first | exact AHeap.get_push_same _ _ | assumption | refine get_push_lt ?_ | exact AHeap.get_put_same _ (by first | omega | (simp only [AHeap.n_push, AHeap.n_put]; omega)) _ | exact get_put_self (by assumption) | apply get_put_self | refine get_put_other (by first | omega | (simp only [AHeap.n_push, AHeap.n_put]; omega)) ?_ | refine Same.get (by assumption) ?_ | refine Keeps.get (by assumption) ?_ (fun hi => by have hx := Own.out (by assumption) hi; omega)) ; fail_if_success focus skip) | fail)) (by first | exact Nat.le_refl _ | (simp [setL, cellsL]; fail_if_success focus skip) | (simp; omega)) rfl .nil) ?_
    rfl
  · rw [show cl c = { Ck.none c.k with tag := c.tag, rwnd := c.rwnd, out := c.out, inn := c.inn, tsn := c.tsn, A := c.A, D := c.D } from by unfold cl; split <;> first | rfl | omega | contradiction | (simp_all; done)]
    unfold Ck.none Sl.nil
    (refine Go.run (g:=?_))
    refine Go.loud (by kernel_rfl) rfl ?_
    (refine Go.runL (g:=?_))
    refine GoL.store' rfl rfl rfl rfl rfl (hl:=rfl) (h1:=rfl) (h3:=rfl) (g:=?_)
    (refine Go.runL (g:=?_))
    refine GoL.store' rfl rfl rfl rfl rfl (hl:=rfl) (h1:=rfl) (h3:=rfl) (g:=?_)
    (refine Go.runL (g:=?_))
    refine GoL.store' rfl rfl rfl rfl rfl (hl:=rfl) (h1:=rfl) (h3:=rfl) (g:=?_)
    (refine Go.runL (g:=?_))
    refine GoL.store' rfl rfl rfl rfl rfl (hl:=rfl) (h1:=rfl) (h3:=rfl) (g:=?_)
    (refine Go.runL (g:=?_))
    refine GoL.store' rfl rfl rfl rfl rfl (hl:=rfl) (h1:=rfl) (h3:=rfl) (g:=?_)
    (refine Go.runL (g:=?_))
    refine GoL.store' rfl rfl rfl rfl rfl (hl:=rfl) (h1:=rfl) (h3:=rfl) (g:=?_)
    refine GoL.end_ (hl := by (simp only [List.nil_append, List.cons_append]); repeat (first | exact loudP.nil | refine loudP.none ?_ | refine loudP.new (fun _ hb => absurd hb List.not_mem_nil) ?_ | refine loudP.row (by repeat (first | exact loudRowP.nil | refine loudRowP.none ?_ | refine loudRowP.bef (by decide +kernel) ?_ | refine loudRowP.apart (by first | exact .inl rfl | exact .inr (by simp)) rfl (by intro i hi; simp only [List.mem_singleton] at hi; subst hi; simp; omega) ?_)) ?_)) ?_
    (refine Go.run (g:=?_))
    refine Go.fin (by first|exact .inr rfl|exact .inl rfl) (.cellN (b := h.n + 1) (off := 0) rfl inferInstance (by (first | assumption | exact AHeap.get_push_same _ _ | ((repeat first | exact AHeap.get_push_same _ _ | assumption | refine get_push_lt ?_ | exact AHeap.get_put_same _ (by first | omega | (simp only [AHeap.n_push, AHeap.n_put]; omega)) _ | exact get_put_self (by assumption) | apply get_put_self | refine get_put_other (by first | omega | (simp only [AHeap.n_push, AHeap.n_put]; omega)) ?_ | refine Same.get (by assumption) ?_ | refine Keeps.get (by assumption) ?_ (fun hi => by have hx := Own.out (by assumption) hi; omega)) ; fail_if_success focus skip) | fail)) (by first | exact Nat.le_refl _ | (simp [setL, cellsL]; fail_if_success focus skip) | (simp; omega)) rfl .nil) ?_
    rfl
  · rw [show cl c = { Ck.none c.k with tsn := c.tsn, rwnd := c.rwnd, G := c.G, U := c.U } from by unfold cl; split <;> first | rfl | omega | contradiction | (simp_all; done)]
    unfold Ck.none Sl.nil
    (refine Go.run (g:=?_))
    refine Go.loud (by kernel_rfl) rfl ?_
    (refine Go.runL (g:=?_))
    refine GoL.store' rfl rfl rfl rfl rfl (hl:=rfl) (h1:=rfl) (h3:=rfl) (g:=?_)
    (refine Go.runL (g:=?_))
    refine GoL.store' rfl rfl rfl rfl rfl (hl:=rfl) (h1:=rfl) (h3:=rfl) (g:=?_)
    (refine Go.runL (g:=?_))
    refine GoL.store' rfl rfl rfl rfl rfl (hl:=rfl) (h1:=rfl) (h3:=rfl) (g:=?_)
    (refine Go.runL (g:=?_))
    refine GoL.store' rfl rfl rfl rfl rfl (hl:=rfl) (h1:=rfl) (h3:=rfl) (g:=?_)
    refine GoL.end_ (hl := by (simp only [List.nil_append, List.cons_append]); repeat (first | exact loudP.nil | refine loudP.none ?_ | refine loudP.new (fun _ hb => absurd hb List.not_mem_nil) ?_ | refine loudP.row (by repeat (first | exact loudRowP.nil | refine loudRowP.none ?_ | refine loudRowP.bef (by decide +kernel) ?_ | refine loudRowP.apart (by first | exact .inl rfl | exact .inr (by simp)) rfl (by intro i hi; simp only [List.mem_singleton] at hi; subst hi; simp; omega) ?_)) ?_)) ?_
    (refine Go.run (g:=?_))
    refine Go.fin (by first|exact .inr rfl|exact .inl rfl) (.cellN (b := h.n + 1) (off := 0) rfl inferInstance (by (first | assumption | exact AHeap.get_push_same _ _ | ((repeat first | exact AHeap.get_push_same _ _ | assumption | refine get_push_lt ?_ | exact AHeap.get_put_same _ (by first | omega | (simp only [AHeap.n_push, AHeap.n_put]; omega)) _ | exact get_put_self (by assumption) | apply get_put_self | refine get_put_other (by first | omega | (simp only [AHeap.n_push, AHeap.n_put]; omega)) ?_ | refine Same.get (by assumption) ?_ | refine Keeps.get (by assumption) ?_ (fun hi => by have hx := Own.out (by assumption) hi; omega)) ; fail_if_success focus skip) | fail)) (by first | exact Nat.le_refl _ | (simp [setL, cellsL]; fail_if_success focus skip) | (simp; omega)) rfl .nil) ?_
    rfl
  · rw [show cl c = { Ck.none c.k with D := c.D } from by unfold cl; split <;> first | rfl | omega | contradiction | (simp_all; done)]
    unfold Ck.none Sl.nil
    (refine Go.run (g:=?_))
    refine Go.fin (by first|exact .inr rfl|exact .inl rfl) (.cellN (b := h.n + 1) (off := 0) rfl inferInstance (by (first | assumption | exact AHeap.get_push_same _ _ | ((repeat first | exact AHeap.get_push_same _ _ | assumption | refine get_push_lt ?_ | exact AHeap.get_put_same _ (by first | omega | (simp only [AHeap.n_push, AHeap.n_put]; omega)) _ | exact get_put_self (by assumption) | apply get_put_self | refine get_put_other (by first | omega | (simp only [AHeap.n_push, AHeap.n_put]; omega)) ?_ | refine Same.get (by assumption) ?_ | refine Keeps.get (by assumption) ?_ (fun hi => by have hx := Own.out (by assumption) hi; omega)) ; fail_if_success focus skip) | fail)) (by first | exact Nat.le_refl _ | (simp [setL, cellsL]; fail_if_success focus skip) | (simp; omega)) rfl .nil) ?_
    rfl
  · rw [show cl c = { Ck.none c.k with D := c.D } from by unfold cl; split <;> first | rfl | omega | contradiction | (simp_all; done)]
    unfold Ck.none Sl.nil
    (refine Go.run (g:=?_))
    refine Go.fin (by first|exact .inr rfl|exact .inl rfl) (.cellN (b := h.n + 1) (off := 0) rfl inferInstance (by (first | assumption | exact AHeap.get_push_same _ _ | ((repeat first | exact AHeap.get_push_same _ _ | assumption | refine get_push_lt ?_ | exact AHeap.get_put_same _ (by first | omega | (simp only [AHeap.n_push, AHeap.n_put]; omega)) _ | exact get_put_self (by assumption) | apply get_put_self | refine get_put_other (by first | omega | (simp only [AHeap.n_push, AHeap.n_put]; omega)) ?_ | refine Same.get (by assumption) ?_ | refine Keeps.get (by assumption) ?_ (fun hi => by have hx := Own.out (by assumption) hi; omega)) ; fail_if_success focus skip) | fail)) (by first | exact Nat.le_refl _ | (simp [setL, cellsL]; fail_if_success focus skip) | (simp; omega)) rfl .nil) ?_
    rfl
  · rw [show cl c = { Ck.none c.k with f := c.f &&& 1, C := c.C } from by unfold cl; split <;> first | rfl | omega | contradiction | (simp_all; done)]
    unfold Ck.none Sl.nil
    (refine Go.run (g:=?_))
    refine Go.loud (by kernel_rfl) rfl ?_
    (refine Go.runL (g:=?_))
    refine GoL.andN (j := 1) rfl rfl rfl rfl rfl rfl (by simp [IntKind.bits, IntKind.signed]; omega) (by simp [IntKind.bits, IntKind.signed]) ?_
    (refine Go.runL (g:=?_))
    refine GoL.store' rfl rfl rfl rfl rfl (hl:=rfl) (h1:=rfl) (h3:=rfl) (g:=?_)
    (refine Go.runL (g:=?_))
    refine GoL.store' rfl rfl rfl rfl rfl (hl:=rfl) (h1:=rfl) (h3:=rfl) (g:=?_)
    refine GoL.end_ (hl := by (simp only [List.nil_append, List.cons_append]); repeat (first | exact loudP.nil | refine loudP.none ?_ | refine loudP.new (fun _ hb => absurd hb List.not_mem_nil) ?_ | refine loudP.row (by repeat (first | exact loudRowP.nil | refine loudRowP.none ?_ | refine loudRowP.bef (by decide +kernel) ?_ | refine loudRowP.apart (by first | exact .inl rfl | exact .inr (by simp)) rfl (by intro i hi; simp only [List.mem_singleton] at hi; subst hi; simp; omega) ?_)) ?_)) ?_
    (refine Go.run (g:=?_))
    refine Go.fin (by first|exact .inr rfl|exact .inl rfl) (.cellN (b := h.n + 1) (off := 0) rfl inferInstance (by (first | assumption | exact AHeap.get_push_same _ _ | ((repeat first | exact AHeap.get_push_same _ _ | assumption | refine get_push_lt ?_ | exact AHeap.get_put_same _ (by first | omega | (simp only [AHeap.n_push, AHeap.n_put]; omega)) _ | exact get_put_self (by assumption) | apply get_put_self | refine get_put_other (by first | omega | (simp only [AHeap.n_push, AHeap.n_put]; omega)) ?_ | refine Same.get (by assumption) ?_ | refine Keeps.get (by assumption) ?_ (fun hi => by have hx := Own.out (by assumption) hi; omega)) ; fail_if_success focus skip) | fail)) (by first | exact Nat.le_refl _ | (simp [setL, cellsL]; fail_if_success focus skip) | (simp; omega)) rfl .nil) ?_
    rfl
  · rw [show cl c = { Ck.none c.k with tsn := c.tsn } from by unfold cl; split <;> first | rfl | omega | contradiction | (simp_all; done)]
    unfold Ck.none Sl.nil
    (refine Go.run (g:=?_))
    refine Go.fin (by first|exact .inr rfl|exact .inl rfl) (.cellN (b := h.n + 1) (off := 0) rfl inferInstance (by (first | assumption | exact AHeap.get_push_same _ _ | ((repeat first | exact AHeap.get_push_same _ _ | assumption | refine get_push_lt ?_ | exact AHeap.get_put_same _ (by first | omega | (simp only [AHeap.n_push, AHeap.n_put]; omega)) _ | exact get_put_self (by assumption) | apply get_put_self | refine get_put_other (by first | omega | (simp only [AHeap.n_push, AHeap.n_put]; omega)) ?_ | refine Same.get (by assumption) ?_ | refine Keeps.get (by assumption) ?_ (fun hi => by have hx := Own.out (by assumption) hi; omega)) ; fail_if_success focus skip) | fail)) (by first | exact Nat.le_refl _ | (simp [setL, cellsL]; fail_if_success focus skip) | (simp; omega)) rfl .nil) ?_
    rfl
  · rw [show cl c = Ck.none c.k from by unfold cl; split <;> first | rfl | omega | contradiction | (simp_all; done)]
    unfold Ck.none Sl.nil
    (refine Go.run (g:=?_))
    refine Go.fin (by first|exact .inr rfl|exact .inl rfl) (.cellN (b := h.n + 1) (off := 0) rfl inferInstance (by (first | assumption | exact AHeap.get_push_same _ _ | ((repeat first | exact AHeap.get_push_same _ _ | assumption | refine get_push_lt ?_ | exact AHeap.get_put_same _ (by first | omega | (simp only [AHeap.n_push, AHeap.n_put]; omega)) _ | exact get_put_self (by assumption) | apply get_put_self | refine get_put_other (by first | omega | (simp only [AHeap.n_push, AHeap.n_put]; omega)) ?_ | refine Same.get (by assumption) ?_ | refine Keeps.get (by assumption) ?_ (fun hi => by have hx := Own.out (by assumption) hi; omega)) ; fail_if_success focus skip) | fail)) (by first | exact Nat.le_refl _ | (simp [setL, cellsL]; fail_if_success focus skip) | (simp; omega)) rfl .nil) ?_
    rfl
  · rw [show cl c = { Ck.none c.k with C := c.C } from by unfold cl; split <;> first | rfl | omega | contradiction | (simp_all; done)]
    unfold Ck.none Sl.nil
    (refine Go.run (g:=?_))
    refine Go.fin (by first|exact .inr rfl|exact .inl rfl) (.cellN (b := h.n + 1) (off := 0) rfl inferInstance (by (first | assumption | exact AHeap.get_push_same _ _ | ((repeat first | exact AHeap.get_push_same _ _ | assumption | refine get_push_lt ?_ | exact AHeap.get_put_same _ (by first | omega | (simp only [AHeap.n_push, AHeap.n_put]; omega)) _ | exact get_put_self (by assumption) | apply get_put_self | refine get_put_other (by first | omega | (simp only [AHeap.n_push, AHeap.n_put]; omega)) ?_ | refine Same.get (by assumption) ?_ | refine Keeps.get (by assumption) ?_ (fun hi => by have hx := Own.out (by assumption) hi; omega)) ; fail_if_success focus skip) | fail)) (by first | exact Nat.le_refl _ | (simp [setL, cellsL]; fail_if_success focus skip) | (simp; omega)) rfl .nil) ?_
    rfl
  · rw [show cl c = { Ck.none c.k with D := c.D } from by unfold cl; split <;> first | rfl | omega | contradiction | (simp_all; done)]
    unfold Ck.none Sl.nil
    (refine Go.run (g:=?_))
    refine Go.fin (by first|exact .inr rfl|exact .inl rfl) (.cellN (b := h.n + 1) (off := 0) rfl inferInstance (by (first | assumption | exact AHeap.get_push_same _ _ | ((repeat first | exact AHeap.get_push_same _ _ | assumption | refine get_push_lt ?_ | exact AHeap.get_put_same _ (by first | omega | (simp only [AHeap.n_push, AHeap.n_put]; omega)) _ | exact get_put_self (by assumption) | apply get_put_self | refine get_put_other (by first | omega | (simp only [AHeap.n_push, AHeap.n_put]; omega)) ?_ | refine Same.get (by assumption) ?_ | refine Keeps.get (by assumption) ?_ (fun hi => by have hx := Own.out (by assumption) hi; omega)) ; fail_if_success focus skip) | fail)) (by first | exact Nat.le_refl _ | (simp [setL, cellsL]; fail_if_success focus skip) | (simp; omega)) rfl .nil) ?_
    rfl
  · rw [show cl c = Ck.none c.k from by unfold cl; split <;> first | rfl | omega | contradiction | (simp_all; done)]
    unfold Ck.none Sl.nil
    (refine Go.run (g:=?_))
    refine Go.fin (by first|exact .inr rfl|exact .inl rfl) (.cellN (b := h.n + 1) (off := 0) rfl inferInstance (by (first | assumption | exact AHeap.get_push_same _ _ | ((repeat first | exact AHeap.get_push_same _ _ | assumption | refine get_push_lt ?_ | exact AHeap.get_put_same _ (by first | omega | (simp only [AHeap.n_push, AHeap.n_put]; omega)) _ | exact get_put_self (by assumption) | apply get_put_self | refine get_put_other (by first | omega | (simp only [AHeap.n_push, AHeap.n_put]; omega)) ?_ | refine Same.get (by assumption) ?_ | refine Keeps.get (by assumption) ?_ (fun hi => by have hx := Own.out (by assumption) hi; omega)) ; fail_if_success focus skip) | fail)) (by first | exact Nat.le_refl _ | (simp [setL, cellsL]; fail_if_success focus skip) | (simp; omega)) rfl .nil) ?_
    rfl
  · rw [show cl c = { Ck.none c.k with f := c.f &&& 1 } from by unfold cl; split <;> first | rfl | omega | contradiction | (simp_all; done)]
    unfold Ck.none Sl.nil
    (refine Go.run (g:=?_))
    refine GoR.andN (j := 1) rfl rfl rfl rfl rfl rfl (by simp [IntKind.bits, IntKind.signed]; omega) (by simp [IntKind.bits, IntKind.signed]) ?_
    (refine Go.run (g:=?_))
    refine Go.fin (by first|exact .inr rfl|exact .inl rfl) (.cellN (b := h.n + 1) (off := 0) rfl inferInstance (by (first | assumption | exact AHeap.get_push_same _ _ | ((repeat first | exact AHeap.get_push_same _ _ | assumption | refine get_push_lt ?_ | exact AHeap.get_put_same _ (by first | omega | (simp only [AHeap.n_push, AHeap.n_put]; omega)) _ | exact get_put_self (by assumption) | apply get_put_self | refine get_put_other (by first | omega | (simp only [AHeap.n_push, AHeap.n_put]; omega)) ?_ | refine Same.get (by assumption) ?_ | refine Keeps.get (by assumption) ?_ (fun hi => by have hx := Own.out (by assumption) hi; omega)) ; fail_if_success focus skip) | fail)) (by first | exact Nat.le_refl _ | (simp [setL, cellsL]; fail_if_success focus skip) | (simp; omega)) rfl .nil) ?_
    rfl
  · rw [cl_else h1 h2]
    unfold Ck.none Sl.nil
    (refine Go.run (g:=?_))
    refine Go.loud (by kernel_rfl) rfl ?_
    (refine Go.runL (g:=?_))
    refine GoL.store' rfl rfl rfl rfl rfl (hl:=rfl) (h1:=rfl) (h3:=rfl) (g:=?_)
    (refine Go.runL (g:=?_))
    refine GoL.store' rfl rfl rfl rfl rfl (hl:=rfl) (h1:=rfl) (h3:=rfl) (g:=?_)
    refine GoL.end_ (hl := by (simp only [List.nil_append, List.cons_append]); repeat (first | exact loudP.nil | refine loudP.none ?_ | refine loudP.new (fun _ hb => absurd hb List.not_mem_nil) ?_ | refine loudP.row (by repeat (first | exact loudRowP.nil | refine loudRowP.none ?_ | refine loudRowP.bef (by decide +kernel) ?_ | refine loudRowP.apart (by first | exact .inl rfl | exact .inr (by simp)) rfl (by intro i hi; simp only [List.mem_singleton] at hi; subst hi; simp; omega) ?_)) ?_)) ?_
    (refine Go.run (g:=?_))
    refine Go.fin (by first|exact .inr rfl|exact .inl rfl) (.cellN (b := h.n + 1) (off := 0) rfl inferInstance (by (first | assumption | exact AHeap.get_push_same _ _ | ((repeat first | exact AHeap.get_push_same _ _ | assumption | refine get_push_lt ?_ | exact AHeap.get_put_same _ (by first | omega | (simp only [AHeap.n_push, AHeap.n_put]; omega)) _ | exact get_put_self (by assumption) | apply get_put_self | refine get_put_other (by first | omega | (simp only [AHeap.n_push, AHeap.n_put]; omega)) ?_ | refine Same.get (by assumption) ?_ | refine Keeps.get (by assumption) ?_ (fun hi => by have hx := Own.out (by assumption) hi; omega)) ; fail_if_success focus skip) | fail)) (by first | exact Nat.le_refl _ | (simp [setL, cellsL]; fail_if_success focus skip) | (simp; omega)) rfl .nil) ?_
    rfl
end Go.Proofs.Ytjpegoigipbmiaa
namespace Go.Proofs.Ytjpegoigipbmiaa
set_option maxRecDepth 100000
attribute [local irreducible] Go GoR GoL
section
variable {α : Type} {f : α → List Value} (hf : ∀ x, (f x).length = 2)
include hf
theorem two_len (l : List α) : ((l.map f).flatten).length = l.length * 2 := by
  induction l with
  | nil => rfl
  | cons x l ih => simp only [List.map_cons, List.flatten_cons, List.length_append, hf, ih, List.length_cons]; omega
theorem two_get {l : List α} {i : Nat} (hi : i < l.length) : (((l.map f).flatten).drop (i * 2)).take 2 = f l[i] := by
  induction l generalizing i with
  | nil => simp at hi
  | cons x l ih =>
    cases i with
    | zero => simp only [List.map_cons, List.flatten_cons, Nat.zero_mul, List.drop_zero, List.getElem_cons_zero]; exact List.take_left' (hf x)
    | succ i =>
      rw [List.map_cons, List.flatten_cons, show (i + 1) * 2 = (f x).length + i * 2 from by rw [hf]; omega, ← List.drop_drop, List.drop_left' rfl]
      simpa using ih (by simpa using hi)
theorem two_at {l : List α} {i j : Nat} (hi : i < l.length) (hj : j < 2) : ((l.map f).flatten)[i * 2 + j]? = (f l[i])[j]? := by
  rw [← two_get hf hi, List.getElem?_take_of_lt hj, List.getElem?_drop]
end
def gC (x : Nat × Nat) : List Value := [.int .u16 x.1, .int .u16 x.2]
def gcs (l : List (Nat × Nat)) : List Value := (l.map gC).flatten
theorem gcs_len (l : List (Nat × Nat)) : (gcs l).length = l.length * 2 := two_len (fun _ => rfl) l
theorem gcs_get {l : List (Nat × Nat)} {i : Nat} (hi : i < l.length) : ((gcs l).drop (i * 2)).take 2 = [.int .u16 l[i].1, .int .u16 l[i].2] := two_get (f := gC) (fun _ => rfl) hi
theorem gcs_0 {l : List (Nat × Nat)} {i : Nat} (hi : i < l.length) : (gcs l)[i * 2]? = some (.int .u16 l[i].1) := two_at (f := gC) (j := 0) (fun _ => rfl) hi (by decide)
theorem gcs_1 {l : List (Nat × Nat)} {i : Nat} (hi : i < l.length) : (gcs l)[i * 2 + 1]? = some (.int .u16 l[i].2) := two_at (f := gC) (j := 1) (fun _ => rfl) hi (by decide)
theorem gcs_snoc (l : List (Nat × Nat)) (x : Nat × Nat) : gcs (l ++ [x]) = gcs l ++ gC x := by simp [gcs]
def gapsB : List (Nat × Nat) → Nat → Bool
  | [], _ => true
  | (s, e) :: l, p => decide (s ≤ e) && decide (p + 2 ≤ s) && gapsB l e
def SameB (x y : Ck) : Prop := x.f = y.f ∧ x.tag = y.tag ∧ x.rwnd = y.rwnd ∧ x.tsn = y.tsn ∧ x.out = y.out ∧ x.inn = y.inn ∧ x.sid = y.sid ∧ x.ssn = y.ssn ∧ x.ppid = y.ppid ∧ x.D.n = y.D.n ∧ x.A.n = y.A.n ∧ x.G.n = y.G.n ∧ x.U.n = y.U.n ∧ x.C.n = y.C.n
instance (x y : Ck) : Decidable (SameB x y) := inferInstanceAs (Decidable (_ ∧ _))
def MayF (c : Ck) : Prop := SameB c (cl c) ∧ c.A.n ≤ 3 ∧ c.G.n ≤ 64 ∧ c.U.n ≤ 16 ∧ ¬ ((c.k = 0 ∨ c.k = 2) ∧ c.D.n = 0)
instance (c : Ck) : Decidable (MayF c) := inferInstanceAs (Decidable (_ ∧ _))
def may (c : Ck) (gs : List (Nat × Nat)) : Bool := decide (MayF c) && gapsB gs 0
set_option maxHeartbeats 8000000 in
theorem csame_spec (x y : Ck) (h : AHeap) : CallS Try.prog [] 72 [x.v, y.v] h fun v h' => v = .bool (decide (SameB x y)) := by
  unfold Ck.v
  (refine CallS.of2 Try.func72 rfl Try.ntmps72 Try.results72 rfl ?_)
  (iterate 4 (first|(refine Go.kk 0 rfl ?_;refine Go.seq ?_)|(refine Go.kk 1 rfl ?_;refine Go.region (by kernel_rfl) rfl ?_)|(refine GoR.kk 0 rfl ?_;first|refine GoR.move rfl rfl rfl rfl rfl ?_|refine GoR.assign rfl rfl rfl rfl rfl ?_)|(refine GoR.kk 8 rfl ?_;first|refine GoR.boxA rfl rfl rfl rfl rfl ?_|refine GoR.boxS rfl rfl rfl rfl rfl rfl ?_|refine GoR.alloc rfl rfl rfl rfl ?_)|refine GoR.end ?_))
  simp only [AHeap.n_push, AHeap.n_put]
  refine GoR.name ?_
  intro h3 e3
  have G0 : h3.get h.n = some (.cells x.cs 43) := by
    subst e3
    rw [AHeap.get_push_ne _ _ (by simp), AHeap.get_push_same]
  have G1 : h3.get (h.n + 1) = some (.cells y.cs 43) := by
    subst e3
    exact AHeap.get_push_same (h.push _) _
  have n3 : h3.n = h.n + 2 := by subst e3; rfl
  clear e3
  unfold Ck.cs at G0 G1
  by_cases c1 : x.f = y.f
  case neg =>
    have e : decide (SameB x y) = false := decide_eq_false fun hs => by simp only [SameB] at hs; exact c1 hs.1
    simp only [e]
    (refine Go.run (g:=?_))
    (first|refine Go.finT (by first|exact .inr rfl|exact .inl rfl) rfl ?_|refine Go.fin1 (by first|exact .inr rfl|exact .inl rfl) rfl (hq:=?_))
    rfl
  by_cases c2 : x.tag = y.tag
  case neg =>
    have e : decide (SameB x y) = false := decide_eq_false fun hs => by simp only [SameB] at hs; exact c2 hs.2.1
    simp only [e]
    (refine Go.run (g:=?_))
    (first|refine Go.finT (by first|exact .inr rfl|exact .inl rfl) rfl ?_|refine Go.fin1 (by first|exact .inr rfl|exact .inl rfl) rfl (hq:=?_))
    rfl
  by_cases c3 : x.rwnd = y.rwnd
  case neg =>
    have e : decide (SameB x y) = false := decide_eq_false fun hs => by simp only [SameB] at hs; exact c3 hs.2.2.1
    simp only [e]
    (refine Go.run (g:=?_))
    (first|refine Go.finT (by first|exact .inr rfl|exact .inl rfl) rfl ?_|refine Go.fin1 (by first|exact .inr rfl|exact .inl rfl) rfl (hq:=?_))
    rfl
  by_cases c4 : x.tsn = y.tsn
  case neg =>
    have e : decide (SameB x y) = false := decide_eq_false fun hs => by simp only [SameB] at hs; exact c4 hs.2.2.2.1
    simp only [e]
    (refine Go.run (g:=?_))
    (first|refine Go.finT (by first|exact .inr rfl|exact .inl rfl) rfl ?_|refine Go.fin1 (by first|exact .inr rfl|exact .inl rfl) rfl (hq:=?_))
    rfl
  by_cases c5 : x.out = y.out
  case neg =>
    have e : decide (SameB x y) = false := decide_eq_false fun hs => by simp only [SameB] at hs; exact c5 hs.2.2.2.2.1
    simp only [e]
    (refine Go.run (g:=?_))
    (first|refine Go.finT (by first|exact .inr rfl|exact .inl rfl) rfl ?_|refine Go.fin1 (by first|exact .inr rfl|exact .inl rfl) rfl (hq:=?_))
    rfl
  by_cases c6 : x.inn = y.inn
  case neg =>
    have e : decide (SameB x y) = false := decide_eq_false fun hs => by simp only [SameB] at hs; exact c6 hs.2.2.2.2.2.1
    simp only [e]
    (refine Go.run (g:=?_))
    (first|refine Go.finT (by first|exact .inr rfl|exact .inl rfl) rfl ?_|refine Go.fin1 (by first|exact .inr rfl|exact .inl rfl) rfl (hq:=?_))
    rfl
  by_cases c7 : x.sid = y.sid
  case neg =>
    have e : decide (SameB x y) = false := decide_eq_false fun hs => by simp only [SameB] at hs; exact c7 hs.2.2.2.2.2.2.1
    simp only [e]
    (refine Go.run (g:=?_))
    (first|refine Go.finT (by first|exact .inr rfl|exact .inl rfl) rfl ?_|refine Go.fin1 (by first|exact .inr rfl|exact .inl rfl) rfl (hq:=?_))
    rfl
  by_cases c8 : x.ssn = y.ssn
  case neg =>
    have e : decide (SameB x y) = false := decide_eq_false fun hs => by simp only [SameB] at hs; exact c8 hs.2.2.2.2.2.2.2.1
    simp only [e]
    (refine Go.run (g:=?_))
    (first|refine Go.finT (by first|exact .inr rfl|exact .inl rfl) rfl ?_|refine Go.fin1 (by first|exact .inr rfl|exact .inl rfl) rfl (hq:=?_))
    rfl
  by_cases c9 : x.ppid = y.ppid
  case neg =>
    have e : decide (SameB x y) = false := decide_eq_false fun hs => by simp only [SameB] at hs; exact c9 hs.2.2.2.2.2.2.2.2.1
    simp only [e]
    (refine Go.run (g:=?_))
    (first|refine Go.finT (by first|exact .inr rfl|exact .inl rfl) rfl ?_|refine Go.fin1 (by first|exact .inr rfl|exact .inl rfl) rfl (hq:=?_))
    rfl
  by_cases c10 : x.D.n = y.D.n
  case neg =>
    have e : decide (SameB x y) = false := decide_eq_false fun hs => by simp only [SameB] at hs; exact c10 hs.2.2.2.2.2.2.2.2.2.1
    simp only [e]
    (refine Go.run (g:=?_))
    (first|refine Go.finT (by first|exact .inr rfl|exact .inl rfl) rfl ?_|refine Go.fin1 (by first|exact .inr rfl|exact .inl rfl) rfl (hq:=?_))
    rfl
  by_cases c11 : x.A.n = y.A.n
  case neg =>
    have e : decide (SameB x y) = false := decide_eq_false fun hs => by simp only [SameB] at hs; exact c11 hs.2.2.2.2.2.2.2.2.2.2.1
    simp only [e]
    (refine Go.run (g:=?_))
    (first|refine Go.finT (by first|exact .inr rfl|exact .inl rfl) rfl ?_|refine Go.fin1 (by first|exact .inr rfl|exact .inl rfl) rfl (hq:=?_))
    rfl
  by_cases c12 : x.G.n = y.G.n
  case neg =>
    have e : decide (SameB x y) = false := decide_eq_false fun hs => by simp only [SameB] at hs; exact c12 hs.2.2.2.2.2.2.2.2.2.2.2.1
    simp only [e]
    (refine Go.run (g:=?_))
    (first|refine Go.finT (by first|exact .inr rfl|exact .inl rfl) rfl ?_|refine Go.fin1 (by first|exact .inr rfl|exact .inl rfl) rfl (hq:=?_))
    rfl
  by_cases c13 : x.U.n = y.U.n
  case neg =>
    have e : decide (SameB x y) = false := decide_eq_false fun hs => by simp only [SameB] at hs; exact c13 hs.2.2.2.2.2.2.2.2.2.2.2.2.1
    simp only [e]
    (refine Go.run (g:=?_))
    (first|refine Go.finT (by first|exact .inr rfl|exact .inl rfl) rfl ?_|refine Go.fin1 (by first|exact .inr rfl|exact .inl rfl) rfl (hq:=?_))
    rfl
  by_cases c14 : x.C.n = y.C.n
  case neg =>
    have e : decide (SameB x y) = false := decide_eq_false fun hs => by simp only [SameB] at hs; exact c14 hs.2.2.2.2.2.2.2.2.2.2.2.2.2
    simp only [e]
    (refine Go.run (g:=?_))
    (first|refine Go.finT (by first|exact .inr rfl|exact .inl rfl) rfl ?_|refine Go.fin1 (by first|exact .inr rfl|exact .inl rfl) rfl (hq:=?_))
    simp [retV]; omega
  have e : decide (SameB x y) = true := decide_eq_true ⟨c1, c2, c3, c4, c5, c6, c7, c8, c9, c10, c11, c12, c13, c14⟩
  simp only [e]
  (refine Go.run (g:=?_))
  (first|refine Go.finT (by first|exact .inr rfl|exact .inl rfl) rfl ?_|refine Go.fin1 (by first|exact .inr rfl|exact .inl rfl) rfl (hq:=?_))
  simp [retV]; omega
end Go.Proofs.Ytjpegoigipbmiaa
namespace Go.Proofs.Ytjpegoigipbmiaa
set_option maxRecDepth 100000
attribute [local irreducible] Go GoR GoL
set_option maxHeartbeats 8000000 in
theorem may_spec (c : Ck) (hf : c.f < 256) (gs : List (Nat × Nat)) (hl : gs.length = c.G.n) (hg : ∀ x ∈ gs, x.1 < 65536 ∧ x.2 < 65536) (h : AHeap) (hz : Rv Try.prog h 2 c.G.a c.G.n c.G.cap (gcs gs)) : CallS Try.prog [] 41 [c.v] h fun v h' => v = .bool (may c gs) := by
  have hcl := clean_spec c hf
  have hsb := csame_spec c (cl c)
  generalize hd : cl c = d at hcl hsb
  unfold Ck.v
  (refine CallS.of1 Try.func41 rfl Try.ntmps41 Try.results41 rfl ?_)
  (iterate 4 (first|(refine Go.kk 0 rfl ?_;refine Go.seq ?_)|(refine Go.kk 1 rfl ?_;refine Go.region (by kernel_rfl) rfl ?_)|(refine GoR.kk 0 rfl ?_;first|refine GoR.move rfl rfl rfl rfl rfl ?_|refine GoR.assign rfl rfl rfl rfl rfl ?_)|(refine GoR.kk 8 rfl ?_;first|refine GoR.boxA rfl rfl rfl rfl rfl ?_|refine GoR.boxS rfl rfl rfl rfl rfl rfl ?_|refine GoR.alloc rfl rfl rfl rfl ?_)|refine GoR.end ?_))
  refine GoR.name ?_
  intro h3 e3
  have G0 : h3.get h.n = some (.cells c.cs 43) := by
    subst e3
    exact AHeap.get_push_same h _
  have n3 : h3.n = h.n + 1 := by subst e3; rfl
  have S3 : Same h h3 := by subst e3; exact (Same.refl h).push _
  clear e3
  (refine Go.run (g:=?_))
  refine GoR.call rfl rfl rfl rfl rfl rfl rfl (((hcl h3).argA).mono ?_)
  rintro _ h4 rfl s4
  (have nn := (s4).1; try simp only [AHeap.n_push, AHeap.n_put] at nn)
  have G4 := s4.get G0
  unfold Ck.cs at G0 G4
  (refine Go.run (g:=?_))
  refine GoR.call rfl rfl rfl rfl rfl rfl rfl (((hsb h4).argA).mono ?_)
  rintro _ h5 rfl s5
  (have nn := (s5).1; try simp only [AHeap.n_push, AHeap.n_put] at nn)
  have G5 := s5.get G4
  clear hcl hsb
  by_cases cs : SameB c d
  case neg =>
    simp only [decide_eq_false cs, show may c gs = false from by simp [may, MayF, hd, cs]]
    (refine Go.run (g:=?_))
    (first|refine Go.finT (by first|exact .inr rfl|exact .inl rfl) rfl ?_|refine Go.fin1 (by first|exact .inr rfl|exact .inl rfl) rfl (hq:=?_))
    rfl
  simp only [decide_eq_true cs]
  by_cases c1 : c.A.n ≤ 3
  case neg =>
    rw [show may c gs = false from by simp [may, MayF, hd, c1]]
    (refine Go.run (g:=?_))
    (first|refine Go.finT (by first|exact .inr rfl|exact .inl rfl) rfl ?_|refine Go.fin1 (by first|exact .inr rfl|exact .inl rfl) rfl (hq:=?_))
    rfl
  by_cases c2 : c.G.n ≤ 64
  case neg =>
    rw [show may c gs = false from by simp [may, MayF, hd, c2]]
    (refine Go.run (g:=?_))
    (first|refine Go.finT (by first|exact .inr rfl|exact .inl rfl) rfl ?_|refine Go.fin1 (by first|exact .inr rfl|exact .inl rfl) rfl (hq:=?_))
    rfl
  by_cases c3 : c.U.n ≤ 16
  case neg =>
    rw [show may c gs = false from by simp [may, MayF, hd, c3]]
    (refine Go.run (g:=?_))
    (first|refine Go.finT (by first|exact .inr rfl|exact .inl rfl) rfl ?_|refine Go.fin1 (by first|exact .inr rfl|exact .inl rfl) rfl (hq:=?_))
    rfl
  by_cases c4 : c.k = 0 ∧ c.D.n = 0
  case pos =>
    obtain ⟨c4, c5⟩ := c4
    rw [show may c gs = false from by simp [may, MayF, hd, c4, c5]]
    (refine Go.run (g:=?_))
    (first|refine Go.finT (by first|exact .inr rfl|exact .inl rfl) rfl ?_|refine Go.fin1 (by first|exact .inr rfl|exact .inl rfl) rfl (hq:=?_))
    rfl
  by_cases c5 : c.k = 2 ∧ c.D.n = 0
  case pos =>
    obtain ⟨c5, c6⟩ := c5
    rw [show may c gs = false from by simp [may, MayF, hd, c5, c6]]
    (refine Go.run (g:=?_))
    (first|refine Go.finT (by first|exact .inr rfl|exact .inl rfl) rfl ?_|refine Go.fin1 (by first|exact .inr rfl|exact .inl rfl) rfl (hq:=?_))
    rfl
  have c6 : ¬ ((c.k = 0 ∨ c.k = 2) ∧ c.D.n = 0) := by omega
  rw [show may c gs = gapsB gs 0 from by simp [may, MayF, hd, cs, c1, c2, c3, c6]]
  have ways : (c.k = 0 ∧ c.D.n ≠ 0) ∨ (c.k = 2 ∧ c.k ≠ 0 ∧ c.D.n ≠ 0) ∨ (c.k ≠ 0 ∧ c.k ≠ 2) := by omega
  clear cs c4 c5 c6
  rcases ways with ⟨w1, w2⟩ | ⟨w1, w2, w3⟩ | ⟨w1, w2⟩
  all_goals
    (refine Go.run (g:=?_))
    have S5 : Same h h5 := (S3.trans s4).trans s5
    clear S3 s4 s5 G0 G4
    refine Go.loop (α := Nat × Nat × AHeap) (fun x => [(46, .int .i64 x.1), (45, .int .i64 c.G.n), (44, .slice c.G.a c.G.n c.G.cap), (3, .int .u32 x.2.1)]) (fun _ => []) (fun x => x.2.2)
      (fun x => x.1 ≤ c.G.n ∧ x.2.1 < 65536 ∧ gapsB (gs.drop x.1) x.2.1 = gapsB gs 0 ∧ Same h x.2.2) (fun x => c.G.n - x.1) ((0, 0, h5)) ?_ ?_ rfl rfl ?_
    · exact ⟨Nat.zero_le _, by show 0 < 65536; decide, rfl, S5⟩
    · exact ⟨rfl, rfl, rfl, rfl, trivial⟩
    clear G5
    rintro ⟨i, p, h6⟩ ⟨hi, hp, hB, s6⟩
    simp only at hi hp hB s6 ⊢
    have hz6 := hz.same s6
    have m6 := s6.1
    rcases Nat.lt_or_ge i c.G.n with i0 | i0
    · have i1 : i < gs.length := by omega
      have c0 := gcs_get i1
      have hbe : i * 2 + 2 ≤ (gcs gs).length := by rw [gcs_len]; omega
      have hgi := hg _ (List.getElem_mem i1)
      have hd : gapsB (gs.drop i) p = (decide (gs[i].1 ≤ gs[i].2) && decide (p + 2 ≤ gs[i].1) && gapsB (gs.drop (i + 1)) gs[i].2) := by rw [List.drop_eq_getElem_cons i1]; rfl
      generalize gs[i].1 = gs1 at *
      generalize gs[i].2 = gs2 at *
      by_cases d1 : gs1 ≤ gs2
      case neg =>
        rw [decide_eq_false d1, Bool.false_and, Bool.false_and] at hd
        (refine Go.run (g:=?_))
        (first|refine Go.finT (by first|exact .inr rfl|exact .inl rfl) rfl ?_|refine Go.fin1 (by first|exact .inr rfl|exact .inl rfl) rfl (hq:=?_))
        rw [← hB, hd]; rfl
      by_cases d2 : p + 2 ≤ gs1
      case neg =>
        rw [decide_eq_false d2, Bool.and_false, Bool.false_and] at hd
        (refine Go.run (g:=?_))
        (first|refine Go.finT (by first|exact .inr rfl|exact .inl rfl) rfl ?_|refine Go.fin1 (by first|exact .inr rfl|exact .inl rfl) rfl (hq:=?_))
        rw [← hB, hd]; rfl
      rw [decide_eq_true d1, decide_eq_true d2, Bool.true_and, Bool.true_and] at hd
      (refine Go.run (g:=?_))
      exact Go.again (i + 1, gs2, _) ⟨by simp only; omega, hgi.2, hd.symm.trans hB, ((s6.push _).put (by omega) _)⟩ (by simp only; omega) ⟨rfl, rfl, rfl, rfl, trivial⟩ rfl rfl
    have hie : i = c.G.n := by omega
    subst hie
    rw [← hl, List.drop_length] at hB
    (refine Go.run (g:=?_))
    (first|refine Go.finT (by first|exact .inr rfl|exact .inl rfl) rfl ?_|refine Go.fin1 (by first|exact .inr rfl|exact .inl rfl) rfl (hq:=?_))
    rw [← hB]; rfl
end Go.Proofs.Ytjpegoigipbmiaa
namespace Go.Proofs.Ytjpegoigipbmiaa
set_option maxRecDepth 100000
attribute [local irreducible] Go GoR GoL
def prevE (gs : List (Nat × Nat)) (i : Nat) : Nat := if i = 0 then 0 else (gs[i - 1]?.map (·.2)).getD 0
def hasN (k : Nat) : Nat := if k = 0 then 13 else if k = 1 then 19 else if k = 2 then 23 else if k = 3 then 35 else if k = 6 ∨ k = 9 then 64 else if k = 7 then 1 else if k = 8 ∨ k = 11 ∨ k = 14 then 0 else 4
theorem hasN_le (k : Nat) : hasN k ≤ 64 := by
  unfold hasN
  repeat' (first | omega | split)
def flN (k : Nat) : Nat := if k = 0 then 7 else if k = 6 ∨ k = 14 then 1 else if kn k then 0 else 255
theorem rhas_spec (k : Nat) (h : AHeap) : CallS Try.prog [] 67 [.int .u8 k] h fun v h' => v = .int .i64 (hasN k) := by
  rcases (show k = 0 ∨ k = 1 ∨ k = 2 ∨ k = 3 ∨ k = 6 ∨ k = 9 ∨ k = 7 ∨ k = 8 ∨ k = 11 ∨ k = 14 ∨ (k ≠ 0 ∧ k ≠ 1 ∧ k ≠ 2 ∧ k ≠ 3 ∧ k ≠ 6 ∧ k ≠ 9 ∧ k ≠ 7 ∧ k ≠ 8 ∧ k ≠ 11 ∧ k ≠ 14) by omega) with e | e | e | e | e | e | e | e | e | e | ⟨e1, e2, e3, e4, e5, e6, e7, e8, e9, e10⟩
  iterate 10
    · subst e
      (refine CallS.of1 Try.func67 rfl Try.ntmps67 Try.results67 rfl ?_)
      (refine Go.run (g:=?_))
      (first|refine Go.finT (by first|exact .inr rfl|exact .inl rfl) rfl ?_|refine Go.fin1 (by first|exact .inr rfl|exact .inl rfl) rfl (hq:=?_))
      rfl
  · rw [show hasN k = 4 by simp [hasN, e1, e2, e3, e4, e5, e6, e7, e8, e9, e10]]
    (refine CallS.of1 Try.func67 rfl Try.ntmps67 Try.results67 rfl ?_)
    (refine Go.run (g:=?_))
    (first|refine Go.finT (by first|exact .inr rfl|exact .inl rfl) rfl ?_|refine Go.fin1 (by first|exact .inr rfl|exact .inl rfl) rfl (hq:=?_))
    rfl
theorem rflags_spec (k : Nat) (h : AHeap) : CallS Try.prog [] 68 [.int .u8 k] h fun v h' => v = .int .u8 (flN k) := by
  rcases (show k = 0 ∨ k = 6 ∨ k = 14 ∨ (k ≠ 0 ∧ k ≠ 6 ∧ k ≠ 14) by omega) with e | e | e | ⟨e1, e2, e3⟩
  iterate 3
    · subst e
      (refine CallS.of1 Try.func68 rfl Try.ntmps68 Try.results68 rfl ?_)
      (refine Go.run (g:=?_))
      (first|refine Go.finT (by first|exact .inr rfl|exact .inl rfl) rfl ?_|refine Go.fin1 (by first|exact .inr rfl|exact .inl rfl) rfl (hq:=?_))
      rfl
  · have hkn := rknown_spec k
    cases hk : kn k
    all_goals
      rw [hk] at hkn
      (refine CallS.of1 Try.func68 rfl Try.ntmps68 Try.results68 rfl ?_)
      (refine Go.run (g:=?_))
      refine GoR.call rfl rfl rfl rfl rfl rfl rfl (((hkn _).argA).mono ?_)
      rintro _ h1 ⟨rfl, rfl⟩ -
      (refine Go.run (g:=?_))
      (first|refine Go.finT (by first|exact .inr rfl|exact .inl rfl) rfl ?_|refine Go.fin1 (by first|exact .inr rfl|exact .inl rfl) rfl (hq:=?_))
      simp [flN, e1, e2, e3, hk]
      rfl
theorem and7 (x : Nat) : x &&& 7 = x % 8 := Nat.and_two_pow_sub_one_eq_mod x 3
theorem and1 (x : Nat) : x &&& 1 = x % 2 := Nat.and_one_is_mod x
set_option maxHeartbeats 4000000 in
theorem rmay_eq (c : Ck) (hf : c.f < 256) : (((((((decide ((c.f : Int) ≤ (flN c.k : Int)) && (decide (hasN c.k % 2 = 1) || (decide ((c.tsn : Int) = 0)))) && (decide (hasN c.k / 2 % 2 = 1) || (decide ((c.rwnd : Int) = 0)))) && (decide (hasN c.k / 4 % 2 = 1) || (decide ((c.D.n : Int) = 0)))) && (decide (hasN c.k / 8 % 2 = 1) || (decide ((c.sid : Int) = 0) && (decide ((c.ssn : Int) = 0) && (decide ((c.ppid : Int) = 0)))))) && (decide (hasN c.k / 16 % 2 = 1) || (decide ((c.tag : Int) = 0) && (decide ((c.out : Int) = 0) && (decide ((c.inn : Int) = 0) && (decide ((c.A.n : Int) = 0))))))) && (decide (hasN c.k / 32 % 2 = 1) || (decide ((c.G.n : Int) = 0) && (decide ((c.U.n : Int) = 0))))) && (decide (hasN c.k / 64 % 2 = 1) || (decide ((c.C.n : Int) = 0)))) = decide (SameB c (cl c)) := by
  rw [Bool.eq_iff_iff]
  simp only [Bool.and_eq_true, Bool.or_eq_true, decide_eq_true_eq]
  rcases (show c.k = 0 ∨ c.k = 1 ∨ c.k = 2 ∨ c.k = 3 ∨ c.k = 4 ∨ c.k = 5 ∨ c.k = 10 ∨ c.k = 6 ∨ c.k = 9 ∨ c.k = 7 ∨ c.k = 8 ∨ c.k = 11 ∨ c.k = 14 ∨ (11 < c.k ∧ c.k ≠ 14) by omega) with e | e | e | e | e | e | e | e | e | e | e | e | e | ⟨e1, e2⟩
  iterate 13
    · simp only [SameB, cl, e, hasN, flN, Ck.none, Sl.nil, and7, and1, kn]
      simp
      omega
  · rw [cl_else e1 e2]
    have e3 : ¬ c.k ≤ 11 := by omega
    simp only [SameB, Ck.none, Sl.nil, hasN, flN, kn]
    simp [e3, e2, show c.k ≠ 0 by omega, show c.k ≠ 1 by omega, show c.k ≠ 2 by omega, show c.k ≠ 3 by omega, show c.k ≠ 6 by omega, show c.k ≠ 9 by omega, show c.k ≠ 7 by omega, show c.k ≠ 8 by omega, show c.k ≠ 11 by omega]
    omega
set_option maxHeartbeats 8000000 in
theorem rmay_head (c : Ck) (hf : c.f < 256) (gs : List (Nat × Nat)) (hl : gs.length = c.G.n) (hg : ∀ x ∈ gs, x.1 < 65536 ∧ x.2 < 65536) (h : AHeap) (hz : Rv Try.prog h 2 c.G.a c.G.n c.G.cap (gcs gs)) : CallS Try.prog [] 38 [c.v] h fun v h' => v = .bool (may c gs) := by
  have hhs := rhas_spec c.k
  have hfl := rflags_spec c.k
  have hhl := hasN_le c.k
  have hmf := rmay_eq c hf
  generalize hasN c.k = hv at hhs hhl hmf
  generalize flN c.k = fl at hfl hmf
  unfold Ck.v
  (refine CallS.of1 Try.func38 rfl Try.ntmps38 Try.results38 rfl ?_)
  (iterate 4 (first|(refine Go.kk 0 rfl ?_;refine Go.seq ?_)|(refine Go.kk 1 rfl ?_;refine Go.region (by kernel_rfl) rfl ?_)|(refine GoR.kk 0 rfl ?_;first|refine GoR.move rfl rfl rfl rfl rfl ?_|refine GoR.assign rfl rfl rfl rfl rfl ?_)|(refine GoR.kk 8 rfl ?_;first|refine GoR.boxA rfl rfl rfl rfl rfl ?_|refine GoR.boxS rfl rfl rfl rfl rfl rfl ?_|refine GoR.alloc rfl rfl rfl rfl ?_)|refine GoR.end ?_))
  refine GoR.name ?_
  intro h3 e3
  have G0 : h3.get h.n = some (.cells c.cs 43) := by
    subst e3
    exact AHeap.get_push_same h _
  have n3 : h3.n = h.n + 1 := by subst e3; rfl
  have S3 : Same h h3 := by subst e3; exact (Same.refl h).push _
  clear e3
  unfold Ck.cs at G0
  (refine Go.run (g:=?_))
  refine GoR.call rfl rfl rfl rfl rfl rfl rfl (((hhs h3).argA).mono ?_)
  rintro _ h4 rfl s4
  (have nn := (s4).1; try simp only [AHeap.n_push, AHeap.n_put] at nn)
  have G4 := s4.get G0
  (refine Go.run (g:=?_))
  refine GoR.call rfl rfl rfl rfl rfl rfl rfl (((hfl h4).argA).mono ?_)
  rintro _ h5 rfl s5
  (have nn := (s5).1; try simp only [AHeap.n_push, AHeap.n_put] at nn)
  have G5 := s5.get G4
  (iterate 4 (first|refine GoR.end ?_|(refine GoR.gd rfl ?_;first|refine GoR.wanted' rfl rfl rfl rfl (g:=?_)|refine GoR.unwanted' rfl rfl rfl rfl (hd:=rfl) (hN:=rfl) (g:=?_)|refine GoR.unwantedU rfl rfl rfl rfl rfl rfl ?_)|(refine GoR.kk 0 rfl ?_;first|refine GoR.move rfl rfl rfl rfl rfl ?_|refine GoR.assign rfl rfl rfl rfl rfl ?_)|(refine GoR.kk 1 rfl ?_;first|refine GoR.load' rfl rfl rfl rfl rfl (g:=?_)|refine GoR.loadA' rfl rfl rfl rfl rfl (hv:=rfl) (g:=?_)|refine GoR.loadV' rfl rfl rfl rfl rfl (g:=?_)|refine GoR.loadVN' rfl rfl rfl rfl rfl (g:=?_))|(refine GoR.kk 2 rfl ?_;first|refine GoR.store' rfl rfl rfl rfl rfl (hl:=rfl) (h1:=rfl) (h3:=rfl) (g:=?_))|(refine GoR.kk 3 rfl ?_;first|refine GoR.fieldAddr rfl rfl rfl rfl rfl ?_|refine GoR.indexN' rfl rfl rfl rfl rfl rfl (g:=?_)|refine GoR.indexNs' rfl rfl rfl rfl rfl rfl (g:=?_)|refine GoR.indexV' rfl rfl rfl rfl rfl rfl (g:=?_)|refine GoR.indexA' rfl rfl rfl rfl rfl rfl (g:=?_)|refine GoR.fieldV' rfl rfl rfl rfl rfl (g:=?_))|(refine GoR.kk 4 rfl ?_;first|refine GoR.eq rfl rfl rfl rfl rfl rfl ?_|refine GoR.ne rfl rfl rfl rfl rfl rfl ?_|refine GoR.lt rfl rfl rfl rfl rfl rfl ?_|refine GoR.le rfl rfl rfl rfl rfl rfl ?_|refine GoR.gt rfl rfl rfl rfl rfl rfl ?_|refine GoR.ge rfl rfl rfl rfl rfl rfl ?_|refine GoR.addN' rfl rfl rfl rfl rfl rfl (g:=?_)|refine GoR.subN' rfl rfl rfl rfl rfl rfl (g:=?_)|refine GoR.add' rfl rfl rfl rfl rfl rfl (g:=?_)|refine GoR.sub' rfl rfl rfl rfl rfl rfl (g:=?_)|refine GoR.addM' rfl rfl rfl rfl rfl rfl (g:=?_)|refine GoR.subM' rfl rfl rfl rfl rfl rfl (g:=?_)|refine GoR.mulM' rfl rfl rfl rfl rfl rfl (g:=?_)|refine GoR.shrN rfl rfl rfl rfl rfl rfl rfl ?_|refine GoR.structEq rfl rfl rfl rfl rfl rfl (by rfl) (by rfl) ?_|refine GoR.structNe rfl rfl rfl rfl rfl rfl (by rfl) (by rfl) ?_|refine GoR.strEq rfl rfl rfl rfl rfl rfl ?_|refine GoR.strNe rfl rfl rfl rfl rfl rfl ?_|refine GoR.remN' rfl rfl rfl rfl rfl rfl (g:=?_)|refine GoR.quoN' rfl rfl rfl rfl rfl rfl (g:=?_)|refine GoR.shlN' rfl rfl rfl rfl rfl rfl rfl (g:=?_)|refine GoR.orN' rfl rfl rfl rfl rfl rfl (g:=?_))|(refine GoR.kk 5 rfl ?_;first|refine GoR.len rfl rfl rfl rfl rfl ?_|refine GoR.lenStr rfl rfl rfl rfl rfl ?_|refine GoR.capB rfl rfl rfl rfl rfl ?_)|(refine GoR.kk 7 rfl ?_;first|refine GoR.pickE' rfl rfl rfl rfl rfl (hx:=rfl) (hy:=rfl) (g:=?_)|refine GoR.pickN' rfl rfl rfl rfl rfl (hx:=rfl) (hy:=rfl) (g:=?_)|refine GoR.pickB rfl rfl rfl rfl rfl rfl rfl ?_)|(refine GoR.kk 8 rfl ?_;first|refine GoR.boxA rfl rfl rfl rfl rfl ?_|refine GoR.boxS rfl rfl rfl rfl rfl rfl ?_|refine GoR.alloc rfl rfl rfl rfl ?_)|(refine GoR.kk 9 rfl ?_;first|refine GoR.strV' rfl rfl rfl rfl rfl (g:=?_)|refine GoR.conv_u8 rfl rfl rfl rfl rfl ?_|refine GoR.convW' rfl rfl rfl rfl rfl (g:=?_)|refine GoR.conv_u16 rfl rfl rfl rfl rfl ?_|refine GoR.conv_u32 rfl rfl rfl rfl rfl ?_)|(refine GoR.kk 10 rfl ?_;first|refine GoR.build' rfl rfl rfl rfl rfl rfl (g:=?_))|(refine GoR.kk 11 rfl ?_;first|refine GoR.extract rfl rfl rfl rfl rfl rfl ?_|refine GoR.not rfl rfl rfl rfl rfl ?_|refine GoR.nilCheck rfl rfl rfl rfl rfl ?_|refine GoR.nilCheckF rfl rfl rfl rfl rfl ?_|refine GoR.makeFunc rfl rfl rfl rfl rfl rfl ?_)|(refine Go.kk 0 rfl ?_;refine Go.seq ?_)|(refine Go.kk 1 rfl ?_;refine Go.region (by kernel_rfl) rfl ?_)|(refine Go.kk 2 rfl ?_;refine Go.drawnQ rfl (by kernel_rfl) rfl ?_)|(refine Go.kk 3 rfl ?_;first|refine Go.cond_t' rfl (g:=?_)|refine Go.cond_f' rfl (g:=?_))|(refine Go.kk 4 rfl ?_;refine Go.block ?_)|(refine Go.kk 5 rfl ?_;first|refine Go.skip ?_|refine Go.ret ?_|refine Go.exit ?_|refine Go.scope ?_)|refine Go.leave_normal ?_|refine Go.leave_same ?_|refine Go.leave_ret ?_|refine Go.ret_code ?_|refine Go.exit_code ?_|refine Go.leave_other rfl ?_|refine Go.sc_normal ?_|refine Go.sc_ret ?_|refine Go.sc_exit ?_|refine Go.exit_back ?_|refine Go.ret_back ?_))
  generalize hb0 : decide ((c.f : Int) ≤ (fl : Int)) = b0 at hmf ⊢
  refine Go.join1 (α := Bool) (fun b => [(1, .pointer (some ⟨h.n, 0, none⟩)), (3, .int .i64 hv), (4, .bool b)]) (fun _ => []) (fun _ => h5) (fun b => b = (b0 && (decide (hv % 2 = 1) || (decide ((c.tsn : Int) = 0))))) ?_ ?_
  · clear hb0
    cases b0
    · (refine Go.run (g:=?_))
      exact Go.joined false rfl ⟨rfl, rfl, rfl, trivial⟩ rfl rfl
    by_cases q0 : hv % 2 = 1
    · (refine Go.run (g:=?_))
      exact Go.joined true (by (simp [q0]) <;> (intros; omega)) ⟨rfl, rfl, rfl, trivial⟩ rfl rfl
    (refine Go.run (g:=?_))
    exact Go.joined (decide ((c.tsn : Int) = 0)) (by (simp [q0]) <;> (intros; omega)) ⟨rfl, rfl, rfl, trivial⟩ rfl rfl
  intro b1 hb1
  refine Go.seq ?_
  refine Go.join1 (α := Bool) (fun b => [(1, .pointer (some ⟨h.n, 0, none⟩)), (3, .int .i64 hv), (4, .bool b)]) (fun _ => []) (fun _ => h5) (fun b => b = (b1 && (decide (hv / 2 % 2 = 1) || (decide ((c.rwnd : Int) = 0))))) ?_ ?_
  · clear hb1
    cases b1
    · (refine Go.run (g:=?_))
      exact Go.joined false rfl ⟨rfl, rfl, rfl, trivial⟩ rfl rfl
    by_cases q0 : hv / 2 % 2 = 1
    · (refine Go.run (g:=?_))
      exact Go.joined true (by (simp [q0]) <;> (intros; omega)) ⟨rfl, rfl, rfl, trivial⟩ rfl rfl
    (refine Go.run (g:=?_))
    exact Go.joined (decide ((c.rwnd : Int) = 0)) (by (simp [q0]) <;> (intros; omega)) ⟨rfl, rfl, rfl, trivial⟩ rfl rfl
  intro b2 hb2
  refine Go.seq ?_
  refine Go.join1 (α := Bool) (fun b => [(1, .pointer (some ⟨h.n, 0, none⟩)), (3, .int .i64 hv), (4, .bool b)]) (fun _ => []) (fun _ => h5) (fun b => b = (b2 && (decide (hv / 4 % 2 = 1) || (decide ((c.D.n : Int) = 0))))) ?_ ?_
  · clear hb2
    cases b2
    · (refine Go.run (g:=?_))
      exact Go.joined false rfl ⟨rfl, rfl, rfl, trivial⟩ rfl rfl
    by_cases q0 : hv / 4 % 2 = 1
    · (refine Go.run (g:=?_))
      exact Go.joined true (by (simp [q0]) <;> (intros; omega)) ⟨rfl, rfl, rfl, trivial⟩ rfl rfl
    (refine Go.run (g:=?_))
    exact Go.joined (decide ((c.D.n : Int) = 0)) (by (simp [q0]) <;> (intros; omega)) ⟨rfl, rfl, rfl, trivial⟩ rfl rfl
  intro b3 hb3
  refine Go.seq ?_
  refine Go.join1 (α := Bool) (fun b => [(1, .pointer (some ⟨h.n, 0, none⟩)), (3, .int .i64 hv), (4, .bool b)]) (fun _ => []) (fun _ => h5) (fun b => b = (b3 && (decide (hv / 8 % 2 = 1) || (decide ((c.sid : Int) = 0) && (decide ((c.ssn : Int) = 0) && (decide ((c.ppid : Int) = 0))))))) ?_ ?_
  · clear hb3
    cases b3
    · (refine Go.run (g:=?_))
      exact Go.joined false rfl ⟨rfl, rfl, rfl, trivial⟩ rfl rfl
    by_cases q0 : hv / 8 % 2 = 1
    · (refine Go.run (g:=?_))
      exact Go.joined true (by (simp [q0]) <;> (intros; omega)) ⟨rfl, rfl, rfl, trivial⟩ rfl rfl
    by_cases q1 : (c.sid : Int) = 0
    case neg =>
      (refine Go.run (g:=?_))
      exact Go.joined false (by (simp [q0, q1]) <;> (intros; omega)) ⟨rfl, rfl, rfl, trivial⟩ rfl rfl
    by_cases q2 : (c.ssn : Int) = 0
    case neg =>
      (refine Go.run (g:=?_))
      exact Go.joined false (by (simp [q0, q1, q2]) <;> (intros; omega)) ⟨rfl, rfl, rfl, trivial⟩ rfl rfl
    (refine Go.run (g:=?_))
    exact Go.joined (decide ((c.ppid : Int) = 0)) (by (simp [q0, q1, q2]) <;> (intros; omega)) ⟨rfl, rfl, rfl, trivial⟩ rfl rfl
  intro b4 hb4
  refine Go.seq ?_
  refine Go.join1 (α := Bool) (fun b => [(1, .pointer (some ⟨h.n, 0, none⟩)), (3, .int .i64 hv), (4, .bool b)]) (fun _ => []) (fun _ => h5) (fun b => b = (b4 && (decide (hv / 16 % 2 = 1) || (decide ((c.tag : Int) = 0) && (decide ((c.out : Int) = 0) && (decide ((c.inn : Int) = 0) && (decide ((c.A.n : Int) = 0)))))))) ?_ ?_
  · clear hb4
    cases b4
    · (refine Go.run (g:=?_))
      exact Go.joined false rfl ⟨rfl, rfl, rfl, trivial⟩ rfl rfl
    by_cases q0 : hv / 16 % 2 = 1
    · (refine Go.run (g:=?_))
      exact Go.joined true (by (simp [q0]) <;> (intros; omega)) ⟨rfl, rfl, rfl, trivial⟩ rfl rfl
    by_cases q1 : (c.tag : Int) = 0
    case neg =>
      (refine Go.run (g:=?_))
      exact Go.joined false (by (simp [q0, q1]) <;> (intros; omega)) ⟨rfl, rfl, rfl, trivial⟩ rfl rfl
    by_cases q2 : (c.out : Int) = 0
    case neg =>
      (refine Go.run (g:=?_))
      exact Go.joined false (by (simp [q0, q1, q2]) <;> (intros; omega)) ⟨rfl, rfl, rfl, trivial⟩ rfl rfl
    by_cases q3 : (c.inn : Int) = 0
    case neg =>
      (refine Go.run (g:=?_))
      exact Go.joined false (by (simp [q0, q1, q2, q3]) <;> (intros; omega)) ⟨rfl, rfl, rfl, trivial⟩ rfl rfl
    (refine Go.run (g:=?_))
    exact Go.joined (decide ((c.A.n : Int) = 0)) (by (simp [q0, q1, q2, q3]) <;> (intros; omega)) ⟨rfl, rfl, rfl, trivial⟩ rfl rfl
  intro b5 hb5
  refine Go.seq ?_
  refine Go.join1 (α := Bool) (fun b => [(1, .pointer (some ⟨h.n, 0, none⟩)), (3, .int .i64 hv), (4, .bool b)]) (fun _ => []) (fun _ => h5) (fun b => b = (b5 && (decide (hv / 32 % 2 = 1) || (decide ((c.G.n : Int) = 0) && (decide ((c.U.n : Int) = 0)))))) ?_ ?_
  · clear hb5
    cases b5
    · (refine Go.run (g:=?_))
      exact Go.joined false rfl ⟨rfl, rfl, rfl, trivial⟩ rfl rfl
    by_cases q0 : hv / 32 % 2 = 1
    · (refine Go.run (g:=?_))
      exact Go.joined true (by (simp [q0]) <;> (intros; omega)) ⟨rfl, rfl, rfl, trivial⟩ rfl rfl
    by_cases q1 : (c.G.n : Int) = 0
    case neg =>
      (refine Go.run (g:=?_))
      exact Go.joined false (by (simp [q0, q1]) <;> (intros; omega)) ⟨rfl, rfl, rfl, trivial⟩ rfl rfl
    (refine Go.run (g:=?_))
    exact Go.joined (decide ((c.U.n : Int) = 0)) (by (simp [q0, q1]) <;> (intros; omega)) ⟨rfl, rfl, rfl, trivial⟩ rfl rfl
  intro b6 hb6
  refine Go.seq ?_
  refine Go.join1 (α := Bool) (fun b => [(1, .pointer (some ⟨h.n, 0, none⟩)), (3, .int .i64 hv), (4, .bool b)]) (fun _ => []) (fun _ => h5) (fun b => b = (b6 && (decide (hv / 64 % 2 = 1) || (decide ((c.C.n : Int) = 0))))) ?_ ?_
  · clear hb6
    cases b6
    · (refine Go.run (g:=?_))
      exact Go.joined false rfl ⟨rfl, rfl, rfl, trivial⟩ rfl rfl
    by_cases q0 : hv / 64 % 2 = 1
    · (refine Go.run (g:=?_))
      exact Go.joined true (by (simp [q0]) <;> (intros; omega)) ⟨rfl, rfl, rfl, trivial⟩ rfl rfl
    (refine Go.run (g:=?_))
    exact Go.joined (decide ((c.C.n : Int) = 0)) (by (simp [q0]) <;> (intros; omega)) ⟨rfl, rfl, rfl, trivial⟩ rfl rfl
  intro b7 hb7
  refine Go.seq ?_
  rw [← hb1, ← hb2, ← hb3, ← hb4, ← hb5, ← hb6, ← hb7] at hmf
  clear hb1 hb2 hb3 hb4 hb5 hb6 hb7 hb0 G0 G4
  have S5 : Same h h5 := (S3.trans s4).trans s5
  clear S3 s4 s5
  cases b7
  · have cs := of_decide_eq_false hmf.symm
    rw [show may c gs = false from by simp [may, MayF, cs]]
    (refine Go.run (g:=?_))
    (first|refine Go.finT (by first|exact .inr rfl|exact .inl rfl) rfl ?_|refine Go.fin1 (by first|exact .inr rfl|exact .inl rfl) rfl (hq:=?_))
    rfl
  have cs := of_decide_eq_true hmf.symm
  clear hmf
  by_cases c1 : c.A.n ≤ 3
  case neg =>
    rw [show may c gs = false from by simp [may, MayF, c1]]
    (refine Go.run (g:=?_))
    (first|refine Go.finT (by first|exact .inr rfl|exact .inl rfl) rfl ?_|refine Go.fin1 (by first|exact .inr rfl|exact .inl rfl) rfl (hq:=?_))
    rfl
  by_cases c2 : c.G.n ≤ 64
  case neg =>
    rw [show may c gs = false from by simp [may, MayF, c2]]
    (refine Go.run (g:=?_))
    (first|refine Go.finT (by first|exact .inr rfl|exact .inl rfl) rfl ?_|refine Go.fin1 (by first|exact .inr rfl|exact .inl rfl) rfl (hq:=?_))
    rfl
  by_cases c3 : c.U.n ≤ 16
  case neg =>
    rw [show may c gs = false from by simp [may, MayF, c3]]
    (refine Go.run (g:=?_))
    (first|refine Go.finT (by first|exact .inr rfl|exact .inl rfl) rfl ?_|refine Go.fin1 (by first|exact .inr rfl|exact .inl rfl) rfl (hq:=?_))
    rfl
  by_cases c4 : c.k = 0 ∧ c.D.n = 0
  case pos =>
    obtain ⟨c4, c5⟩ := c4
    rw [show may c gs = false from by simp [may, MayF, c4, c5]]
    (refine Go.run (g:=?_))
    (first|refine Go.finT (by first|exact .inr rfl|exact .inl rfl) rfl ?_|refine Go.fin1 (by first|exact .inr rfl|exact .inl rfl) rfl (hq:=?_))
    rfl
  by_cases c5 : c.k = 2 ∧ c.D.n = 0
  case pos =>
    obtain ⟨c5, c6⟩ := c5
    rw [show may c gs = false from by simp [may, MayF, c5, c6]]
    (refine Go.run (g:=?_))
    (first|refine Go.finT (by first|exact .inr rfl|exact .inl rfl) rfl ?_|refine Go.fin1 (by first|exact .inr rfl|exact .inl rfl) rfl (hq:=?_))
    rfl
  have c6 : ¬ ((c.k = 0 ∨ c.k = 2) ∧ c.D.n = 0) := by omega
  rw [show may c gs = gapsB gs 0 from by simp [may, MayF, cs, c1, c2, c3, c6]]
  have ways : (c.k = 0 ∧ c.D.n ≠ 0) ∨ (c.k = 2 ∧ c.k ≠ 0 ∧ c.D.n ≠ 0) ∨ (c.k ≠ 0 ∧ c.k ≠ 2) := by omega
  clear cs c4 c5 c6
  have hz5 := hz.same S5
  refine Go.join1 (α := Unit) (fun _ => [(1, .pointer (some ⟨h.n, 0, none⟩)), (169, .bool false)]) (fun _ => []) (fun _ => h5) (fun _ => True) ?_ ?_
  · rcases ways with ⟨w1, w2⟩ | ⟨w1, w2, w3⟩ | ⟨w1, w2⟩
    all_goals
      (refine Go.run (g:=?_))
      refine Go.joined () trivial ⟨rfl, ?_, trivial⟩ rfl rfl
      first
        | rfl
        | exact congrArg (fun b => some (Value.bool b)) (decide_eq_false (by omega))
  · intro _ _
    clear ways
    refine Go.seq ?_
    (refine Go.run (g:=?_))
    refine Go.loop (α := Nat) (fun i => [(5, .int .i64 i), (1, .pointer (some ⟨h.n, 0, none⟩))]) (fun _ => []) (fun _ => h5)
      (fun i => i ≤ c.G.n ∧ gapsB (gs.drop i) (prevE gs i) = gapsB gs 0) (fun i => c.G.n - i) 0 ?_ ?_ rfl rfl ?_
    · exact ⟨Nat.zero_le _, rfl⟩
    · exact ⟨rfl, rfl, trivial⟩
    rintro i ⟨hi, hB⟩
    rcases Nat.lt_or_ge i c.G.n with i0 | i0
    · have i1 : i < gs.length := by omega
      have c0 := gcs_0 i1
      have c1' := gcs_1 i1
      have hbe : i * 2 + 2 ≤ (gcs gs).length := by rw [gcs_len]; omega
      have hbe' : i * 2 < (gcs gs).length := by rw [gcs_len]; omega
      have hgi := hg _ (List.getElem_mem i1)
      have hd : gapsB (gs.drop i) (prevE gs i) = (decide (gs[i].1 ≤ gs[i].2) && decide (prevE gs i + 2 ≤ gs[i].1) && gapsB (gs.drop (i + 1)) gs[i].2) := by rw [List.drop_eq_getElem_cons i1]; rfl
      have hnx : prevE gs (i + 1) = gs[i].2 := by simp [prevE, i1]
      rcases Nat.eq_zero_or_pos i with rfl | ip
      · have hp0 : prevE gs 0 = 0 := rfl
        rw [hp0] at hd hB
        rw [Nat.zero_mul] at c0 hbe'
        rw [Nat.zero_mul, Nat.zero_add] at c1' hbe
        generalize gs[0].1 = gs1 at *
        generalize gs[0].2 = gs2 at *
        by_cases d2 : 0 + 2 ≤ gs1
        case neg =>
          rw [decide_eq_false d2, Bool.and_false, Bool.false_and] at hd
          (refine Go.run (g:=?_))
          (first|refine Go.finT (by first|exact .inr rfl|exact .inl rfl) rfl ?_|refine Go.fin1 (by first|exact .inr rfl|exact .inl rfl) rfl (hq:=?_))
          rw [← hB, hd]; rfl
        by_cases d1 : gs1 ≤ gs2
        case neg =>
          rw [decide_eq_false d1, Bool.false_and, Bool.false_and] at hd
          (refine Go.run (g:=?_))
          (first|refine Go.finT (by first|exact .inr rfl|exact .inl rfl) rfl ?_|refine Go.fin1 (by first|exact .inr rfl|exact .inl rfl) rfl (hq:=?_))
          rw [← hB, hd]; rfl
        rw [decide_eq_true d1, decide_eq_true d2, Bool.true_and, Bool.true_and] at hd
        (refine Go.run (g:=?_))
        exact Go.again (0 + 1) ⟨by omega, by rw [hnx]; exact hd.symm.trans hB⟩ (by omega) ⟨rfl, rfl, trivial⟩ rfl rfl
      · obtain ⟨j, rfl⟩ : ∃ j, i = j + 1 := ⟨i - 1, by omega⟩
        have j1 : j < gs.length := by omega
        have c0j := gcs_1 j1
        have hbj : j * 2 < (gcs gs).length := by rw [gcs_len]; omega
        have hpj : prevE gs (j + 1) = gs[j].2 := by simp [prevE, j1]
        have hgj := hg _ (List.getElem_mem j1)
        rw [hpj] at hd hB
        generalize gs[j + 1].1 = gs1 at *
        generalize gs[j + 1].2 = gs2 at *
        generalize gs[j].2 = p at *
        by_cases d2 : p + 2 ≤ gs1
        case neg =>
          rw [decide_eq_false d2, Bool.and_false, Bool.false_and] at hd
          (refine Go.run (g:=?_))
          (first|refine Go.finT (by first|exact .inr rfl|exact .inl rfl) rfl ?_|refine Go.fin1 (by first|exact .inr rfl|exact .inl rfl) rfl (hq:=?_))
          rw [← hB, hd]; rfl
        by_cases d1 : gs1 ≤ gs2
        case neg =>
          rw [decide_eq_false d1, Bool.false_and, Bool.false_and] at hd
          (refine Go.run (g:=?_))
          (first|refine Go.finT (by first|exact .inr rfl|exact .inl rfl) rfl ?_|refine Go.fin1 (by first|exact .inr rfl|exact .inl rfl) rfl (hq:=?_))
          rw [← hB, hd]; rfl
        rw [decide_eq_true d1, decide_eq_true d2, Bool.true_and, Bool.true_and] at hd
        (refine Go.run (g:=?_))
        exact Go.again (j + 1 + 1) ⟨by omega, by rw [hnx]; exact hd.symm.trans hB⟩ (by omega) ⟨rfl, rfl, trivial⟩ rfl rfl
    have hie : i = c.G.n := by omega
    subst hie
    rw [← hl, List.drop_length] at hB
    (refine Go.run (g:=?_))
    (first|refine Go.finT (by first|exact .inr rfl|exact .inl rfl) rfl ?_|refine Go.fin1 (by first|exact .inr rfl|exact .inl rfl) rfl (hq:=?_))
    rw [← hB]; rfl
end Go.Proofs.Ytjpegoigipbmiaa
namespace Go.Proofs.Ytjpegoigipbmiaa
set_option maxRecDepth 100000
attribute [local irreducible] Go GoR GoL
def beB (n x : Nat) : List UInt8 := (List.range n).map fun j => UInt8.ofNat (x / 256 ^ (n - 1 - j))
theorem beB_length (n x : Nat) : (beB n x).length = n := by simp [beB]
def OwnS (h h' : AHeap) (v : Value) (l : List UInt8) : Prop := ∃ b cap, v = .slice b l.length cap ∧ Sv h' 5 1 b l.length cap (l.map bv) ∧ Own h.n b
set_option maxHeartbeats 4000000 in
theorem bytes_spec (x n : Nat) (hx : x < 2 ^ 64) (hn : n ≤ 8) (h : AHeap) : CallS Try.prog [] 71 [.int .u64 x, .int .i64 n] h fun v h' => OwnS h h' v (beB n x) := by
  have hx' : x < 18446744073709551616 := hx
  (refine CallS.of2 Try.func71 rfl Try.ntmps71 Try.results71 rfl ?_)
  (refine Go.run (g:=?_))
  refine GoR.makeO rfl rfl rfl rfl rfl rfl rfl (by omega) (by omega) ?_
  intro b h1 hb ob s1 n1
  (refine Go.run (g:=?_))
  refine Go.loop (α := Nat × List Value × AHeap) (fun a => [(6, .int .i64 ((a.1 : Int) - 1)), (5, .slice b n n), (0, .int .u64 ((x / 256 ^ (n - a.1) : Nat) : Int))]) (fun _ => []) (fun a => a.2.2)
    (fun a => a.1 ≤ n ∧ Same h a.2.2 ∧ Sv a.2.2 5 1 b n n a.2.1 ∧ ∀ j, a.1 ≤ j → j < n → a.2.1[j]? = some (bv (UInt8.ofNat (x / 256 ^ (n - 1 - j))))) (fun a => a.1) (n, List.replicate n (.int .u8 0), h1) ?_ ?_ rfl rfl ?_
  · exact ⟨Nat.le_refl _, s1, hb, fun j h1 h2 => by omega⟩
  · exact ⟨rfl, rfl, by rw [Nat.sub_self, Nat.pow_zero, Nat.div_one]; rfl, trivial⟩
  · rintro ⟨k, c, h2⟩ ⟨hk, s2, hc, hd⟩
    simp only at hk s2 hc hd ⊢
    have hcl : c.length = n := by have := hc.length; omega
    rcases Nat.eq_zero_or_pos k with h0 | h0
    · subst h0
      (refine Go.run (g:=?_))
      (first|refine Go.finT (by first|exact .inr rfl|exact .inl rfl) rfl ?_|refine Go.fin1 (by first|exact .inr rfl|exact .inl rfl) rfl (hq:=?_))
      refine ⟨b, n, by rw [beB_length]; rfl, ?_, ob⟩
      rw [beB_length]
      have : c = (beB n x).map bv := by
        apply List.ext_getElem?
        intro j
        rcases Nat.lt_or_ge j n with hj | hj
        · rw [hd j (Nat.zero_le _) hj]
          simp [beB, hj]
        · rw [List.getElem?_eq_none (by omega), List.getElem?_eq_none (by simp [beB_length]; omega)]
      rw [← this]
      exact hc
    · obtain ⟨k, rfl⟩ : ∃ j, k = j + 1 := ⟨k - 1, by omega⟩
      have ek : ((k + 1 : Nat) : Int) - 1 = (k : Int) := by omega
      rw [ek]
      have hq : x / 256 ^ (n - (k + 1)) < 18446744073709551616 := Nat.lt_of_le_of_lt (Nat.div_le_self _ _) hx'
      (refine Go.run (g:=?_))
      refine GoR.store1' rfl rfl rfl rfl rfl rfl (g:=?_)
      intro h3 hc3 k3 n3
      (refine Go.run (g:=?_))
      refine Go.again (k, c.set k (.int .u8 (((x / 256 ^ (n - (k + 1))) % 256 % 256 : Nat) : Int)), h3) ⟨by omega, s2.ownO k3 ob (Nat.le_refl _), hc3, fun j h1 h2 => ?_⟩ (by simp) ?_ rfl rfl
      · rw [List.getElem?_set]
        by_cases hj : k = j
        · subst hj
          rw [if_pos rfl, if_pos (by omega), bv_ofNat]
          have : n - (k + 1) = n - 1 - k := by omega
          rw [this]
          simp
        · rw [if_neg hj]
          exact hd j (by omega) h2
      · refine ⟨rfl, rfl, ?_, trivial⟩
        have e : x / 256 ^ (n - k) = x / 256 ^ (n - (k + 1)) / 256 := by
          rw [Nat.div_div_eq_div_mul, ← Nat.pow_succ]
          congr 2
          omega
        rw [e]
        rfl
theorem beB2 (x : Nat) : beB 2 x = [UInt8.ofNat (x / 256), UInt8.ofNat x] := by simp [beB, List.range_succ]
def OwnE (h h' : AHeap) (v : Value) (l : List UInt8) : Prop := ∃ b cap, v = .tuple #[.slice b l.length cap, .int .i64 0] ∧ Sv h' 5 1 b l.length cap (l.map bv) ∧ Own h.n b
end Go.Proofs.Ytjpegoigipbmiaa
namespace Go.Proofs.Ytjpegoigipbmiaa
set_option maxRecDepth 100000
attribute [local irreducible] Go GoR GoL
def w32s (l : List Nat) : List Value := l.map fun x : Nat => .int .u32 (x : Int)
def be4s (l : List Nat) : List UInt8 := (l.map (beB 4)).flatten
theorem w32s_get {l : List Nat} {i : Nat} (hi : i < l.length) : (w32s l)[i]? = some (.int .u32 l[i]) := by simp [w32s, hi]
theorem w32s_len (l : List Nat) : (w32s l).length = l.length := by simp [w32s]
structure WS (h0 h : AHeap) (zs : List UInt8) (e : Nat) (b : Option Addr) (cap : Nat) : Prop where
  same : Same h0 h
  n : h0.n + 1 ≤ h.n
  w : h.get (h0.n) = some (.cells [.slice b zs.length cap, .int .i64 e] 73)
  sv : Sv h 5 1 b zs.length cap (zs.map bv)
  own : Own (h0.n + 1) b
theorem WS.append {h0 h1 h8 h9 : AHeap} {zs new : List UInt8} {e len : Nat} {b1 b9 : Option Addr} {c1 c9 : Nat} (w : WS h0 h1 zs e b1 c1) (s8 : Same h1 h8) (hs9 : Sv h9 5 1 b9 len c9 (zs.map bv ++ new.map bv)) (k9 : Keeps (blk b1) h8 h9) (o9 : ∀ i ∈ blk b9, i ∈ blk b1 ∨ h8.n ≤ i) (hlen : len = zs.length + new.length) :
    WS h0 (h9.put (h0.n) (some (.cells [.slice b9 len c9, .int .i64 e] 73))) (zs ++ new) e b9 c9 := by
  subst hlen
  have hn := w.n
  have m8 := s8.1
  have m9 := k9.1
  have o : Own (h0.n + 1) b9 := w.own.app (by omega) o9
  have g9 := k9.get (s8.get w.w) (fun hi => by have := w.own _ hi; omega)
  refine ⟨(((w.same.trans s8).ownO k9 w.own (by omega)).put (by omega) _), by simp; omega, ?_, ?_, o⟩
  · rw [List.length_append]
    exact get_put_self g9
  · rw [List.length_append, List.map_append]
    exact hs9.put (fun hm => by have := o _ hm; omega) _
theorem WS.keeps {h h0 h1 h8 h9 : AHeap} {zs : List UInt8} {e : Nat} {b b1 : Option Addr} {c1 : Nat} {o : AObj} (hn : h0.n + 1 ≤ h.n) (w : WS h0 h1 zs e b1 c1) (k1 : Keeps ((h0.n) :: blk b) h h1) (o1 : ∀ i ∈ blk b1, i ∈ blk b ∨ h.n ≤ i) (s8 : Same h1 h8) (k9 : Keeps (blk b1) h8 h9) : Keeps ((h0.n) :: blk b) h (h9.put (h0.n) (some o)) := by
  have m1 := k1.1
  have m8 := s8.1
  have m9 := k9.1
  refine ⟨by simp; omega, fun i hi hm => ?_⟩
  simp only [List.mem_cons, not_or] at hm
  rw [AHeap.get_put_ne _ _ (fun x => hm.1 x.symm), k9.2 i (by omega) (fun x => (o1 i x).elim hm.2 (fun y => by omega)), s8.2 i (by omega)]
  exact k1.2 i hi (by simp [hm])
theorem WS.to {h0 h h1 : AHeap} {zs : List UInt8} {e : Nat} {b : Option Addr} {cap : Nat} (w : WS h0 h zs e b cap) (s1 : Same h h1) : WS h0 h1 zs e b cap :=
  ⟨w.same.trans s1, Nat.le_trans w.n s1.1, s1.get w.w, w.sv.same s1, w.own⟩
def pB (k : Nat) (z : List UInt8) : List UInt8 := if z.length ≤ 65531 then tlvB false k 0 z else []
end Go.Proofs.Ytjpegoigipbmiaa
namespace Go.Proofs.Ytjpegoigipbmiaa
set_option maxRecDepth 100000
structure CV where
  k : Nat
  a : Option Addr
  cap : Nat
  z : List UInt8
def cvC (x : CV) : List Value := [.int .u16 x.k, .slice x.a x.z.length x.cap]
def ccs (l : List CV) : List Value := (l.map cvC).flatten
theorem ccs_len (l : List CV) : (ccs l).length = l.length * 2 := two_len (fun _ => rfl) l
theorem ccs_0 {l : List CV} {i : Nat} (hi : i < l.length) : (ccs l)[i * 2]? = some (.int .u16 l[i].k) := two_at (f := cvC) (j := 0) (fun _ => rfl) hi (by decide)
theorem ccs_1 {l : List CV} {i : Nat} (hi : i < l.length) : (ccs l)[i * 2 + 1]? = some (.slice l[i].a l[i].z.length l[i].cap) := two_at (f := cvC) (j := 1) (fun _ => rfl) hi (by decide)
structure CD where
  data : List UInt8
  addrs : List Nat
  gaps : List (Nat × Nat)
  dups : List Nat
  causes : List CV
structure COk (h : AHeap) (c : Ck) (d : CD) : Prop where
  k : c.k < 256
  f : c.f < 256
  tag : c.tag < 4294967296
  rwnd : c.rwnd < 4294967296
  tsn : c.tsn < 4294967296
  out : c.out < 65536
  inn : c.inn < 65536
  sid : c.sid < 65536
  ssn : c.ssn < 65536
  ppid : c.ppid < 4294967296
  dl : d.data.length = c.D.n
  dv : Rv Try.prog h 1 c.D.a c.D.n c.D.cap (d.data.map bv)
  al : d.addrs.length = c.A.n
  av : Rv Try.prog h 1 c.A.a c.A.n c.A.cap (w32s d.addrs)
  ab : ∀ x ∈ d.addrs, x < 4294967296
  gl : d.gaps.length = c.G.n
  gv : Rv Try.prog h 2 c.G.a c.G.n c.G.cap (gcs d.gaps)
  gb : ∀ x ∈ d.gaps, x.1 < 65536 ∧ x.2 < 65536
  ul : d.dups.length = c.U.n
  uv : Rv Try.prog h 1 c.U.a c.U.n c.U.cap (w32s d.dups)
  ub : ∀ x ∈ d.dups, x < 4294967296
  cl : d.causes.length = c.C.n
  cv : Rv Try.prog h 2 c.C.a c.C.n c.C.cap (ccs d.causes)
  cb : ∀ x ∈ d.causes, x.k < 65536 ∧ x.z.length ≤ 140737488355328 ∧ Rv Try.prog h 1 x.a x.z.length x.cap (x.z.map bv)
theorem COk.same {h h' : AHeap} {c : Ck} {d : CD} (k : COk h c d) (s : Same h h') : COk h' c d :=
  { k with dv := k.dv.same s, av := k.av.same s, gv := k.gv.same s, uv := k.uv.same s, cv := k.cv.same s, cb := fun x hx => ⟨(k.cb x hx).1, (k.cb x hx).2.1, (k.cb x hx).2.2.same s⟩ }
def addrsB (l : List Nat) : List UInt8 := (l.map fun a => tlvB false 5 0 (beB 4 a)).flatten
def initB (c : Ck) (d : CD) : List UInt8 := beB 4 c.tag ++ beB 4 c.rwnd ++ beB 2 c.out ++ beB 2 c.inn ++ beB 4 c.tsn ++ addrsB d.addrs
def gapsBy (l : List (Nat × Nat)) : List UInt8 := (l.map fun g => beB 2 g.1 ++ beB 2 g.2).flatten
def causesB (l : List CV) : List UInt8 := (l.map fun x => pB x.k x.z).flatten
def allShort (l : List CV) : Bool := l.all fun x => decide (x.z.length ≤ 65531)
def cval (c : Ck) (d : CD) : Option (List UInt8) :=
  match c.k with
  | 0 => some (beB 4 c.tsn ++ beB 2 c.sid ++ beB 2 c.ssn ++ beB 4 c.ppid ++ d.data)
  | 1 => some (initB c d)
  | 2 => if d.data.length ≤ 65531 then some (initB c d ++ pB 7 d.data) else none
  | 3 => some (beB 4 c.tsn ++ beB 4 c.rwnd ++ beB 2 c.G.n ++ beB 2 c.U.n ++ gapsBy d.gaps ++ be4s d.dups)
  | 6 => if allShort d.causes = true then some (causesB d.causes) else none
  | 9 => if allShort d.causes = true then some (causesB d.causes) else none
  | 7 => some (beB 4 c.tsn)
  | _ => some d.data
end Go.Proofs.Ytjpegoigipbmiaa
namespace Go.Proofs.Ytjpegoigipbmiaa
set_option maxRecDepth 100000
attribute [local irreducible] Go GoR GoL
theorem WS.wr {h0 h : AHeap} {zs : List UInt8} {e n : Nat} {b : Option Addr} {cap : Nat} (w : WS h0 h zs e b cap) (hle : n ≤ h0.n) : ∀ i ∈ h0.n :: blk b, i ∈ ([] : List Nat) ∨ n ≤ i := fun i hi => .inr (by
  rcases List.mem_cons.1 hi with rfl | x
  · exact hle
  · have := w.own _ x; omega)
theorem WS.old {h0 h : AHeap} {zs : List UInt8} {e : Nat} {b : Option Addr} {cap : Nat} (w : WS h0 h zs e b cap) {la : Option Addr} (o : ∀ i ∈ blk la, i < h0.n) : ∀ i ∈ blk la, i ∉ h0.n :: blk b := fun i hi hm => by
  have h1 := o i hi
  rcases List.mem_cons.1 hm with rfl | x
  · omega
  · have := w.own _ x; omega
end Go.Proofs.Ytjpegoigipbmiaa
namespace Go.Proofs.Ytjpegoigipbmiaa
open Go.RowKit
def rowNats : List Nat := [
  0, 4067132163, 3778769143, 324072436, 3348797215, 904991772, 648144872, 3570033899,
  2329499855, 2024987596, 1809983544, 2575936315, 1296289744, 3207089363, 2893594407, 1578318884,
  274646895, 3795141740, 4049975192, 51262619, 3619967088, 632279923, 922689671, 3298075524,
  2592579488, 1760304291, 2075979607, 2312596564, 1562183871, 2943781820, 3156637768, 1313733451,
  549293790, 3537243613, 3246849577, 871202090, 3878099393, 357341890, 102525238, 4101499445,
  2858735121, 1477399826, 1264559846, 3107202533, 1845379342, 2677391885, 2361733625, 2125378298,
  820201905, 3263744690, 3520608582, 598981189, 4151959214, 85089709, 373468761, 3827903834,
  3124367742, 1213305469, 1526817161, 2842354314, 2107672161, 2412447074, 2627466902, 1861252501,
  1098587580, 3004210879, 2688576843, 1378610760, 2262928035, 1955203488, 1742404180, 2511436119,
  3416409459, 969524848, 714683780, 3639785095, 205050476, 4266873199, 3976438427, 526918040,
  1361435347, 2739821008, 2954799652, 1114974503, 2529119692, 1691668175, 2005155131, 2247081528,
  3690758684, 697762079, 986182379, 3366744552, 476452099, 3993867776, 4250756596, 255256311,
  1640403810, 2477592673, 2164122517, 1922457750, 2791048317, 1412925310, 1197962378, 3037525897,
  3944729517, 427051182, 170179418, 4165941337, 746937522, 3740196785, 3451792453, 1070968646,
  1905808397, 2213795598, 2426610938, 1657317369, 3053634322, 1147748369, 1463399397, 2773627110,
  4215344322, 153784257, 444234805, 3893493558, 1021025245, 3467647198, 3722505002, 797665321,
  2197175160, 1889384571, 1674398607, 2443626636, 1164749927, 3070701412, 2757221520, 1446797203,
  137323447, 4198817972, 3910406976, 461344835, 3484808360, 1037989803, 781091935, 3705997148,
  2460548119, 1623424788, 1939049696, 2180517859, 1429367560, 2807687179, 3020495871, 1180866812,
  410100952, 3927582683, 4182430767, 186734380, 3756733383, 763408580, 1053836080, 3434856499,
  2722870694, 1344288421, 1131464017, 2971354706, 1708204729, 2545590714, 2229949006, 1988219213,
  680717673, 3673779818, 3383336350, 1002577565, 4010310262, 493091189, 238226049, 4233660802,
  2987750089, 1082061258, 1395524158, 2705686845, 1972364758, 2279892693, 2494862625, 1725896226,
  952904198, 3399985413, 3656866545, 731699698, 4283874585, 222117402, 510512622, 3959836397,
  3280807620, 837199303, 582374963, 3504198960, 68661723, 4135334616, 3844915500, 390545967,
  1230274059, 3141532936, 2825850620, 1510247935, 2395924756, 2091215383, 1878366691, 2644384480,
  3553878443, 565732008, 854102364, 3229815391, 340358836, 3861050807, 4117890627, 119113024,
  1493875044, 2875275879, 3090270611, 1247431312, 2660249211, 1828433272, 2141937292, 2378227087,
  3811616794, 291187481, 34330861, 4032846830, 615137029, 3603020806, 3314634738, 939183345,
  1776939221, 2609017814, 2295496738, 2058945313, 2926798794, 1545135305, 1330124605, 3173225534,
  4084100981, 17165430, 307568514, 3762199681, 888469610, 3332340585, 3587147933, 665062302,
  2042050490, 2346497209, 2559330125, 1793573966, 3190661285, 1279665062, 1595330642, 2910671697]
def u32s (ns : List Nat) : List Value := ns.map fun n => .int .u32 (.ofNat n)
def rowVal : Value := .agg (u32s rowNats).toArray
def eqU32 : List Value → List Nat → Bool
  | [], [] => true
  | .int .u32 (.ofNat a) :: l, n :: ns => Nat.beq a n && eqU32 l ns
  | _, _ => false
theorem eqU32_eq : ∀ {l : List Value} {ns : List Nat}, eqU32 l ns = true → l = u32s ns
  | [], [], _ => rfl
  | [], n :: ns, h => by cases h
  | v :: l, [], h => by unfold eqU32 at h; split at h <;> simp_all
  | v :: l, n :: ns, h => by
    unfold eqU32 at h
    split at h
    · simp_all
    · rename_i a l' n' ns' e1 e2
      cases e1; cases e2
      rw [Bool.and_eq_true] at h
      rw [Nat.eq_of_beq_eq_true h.1, eqU32_eq h.2]
      rfl
    · cases h
def isRow : Value → AHeap → List Nat → Option Bool
  | .agg a, _, _ => some (eqU32 a.toList rowNats)
  | _, _, _ => none
theorem isRow_eq {v : Value} {h : AHeap} {wr : List Nat} (e : isRow v h wr = some true) : v = rowVal := by
  unfold isRow at e
  split at e
  · rename_i a
    simp only [Option.some.injEq] at e
    show Value.agg a = .agg (u32s rowNats).toArray
    rw [← eqU32_eq e]
  · cases e
theorem CallRun.const {P : Program} {W : Nat → Prop} {f : FuncId} {v : Value} {h' : AHeap} (hg : P.globals.size = 0) (hc : CallRun P W f #[] emptyH v h') (hv : flatB v = true) (h : AHeap) : CallRun P (fun _ => False) f #[] h v h := by
  refine ⟨.refl _ _, fun m w args' hm hf ha hh => ?_⟩
  obtain rfl : args' = #[] := Array.eq_empty_of_size_eq_zero ha.1.symm
  refine (hc.run (fun _ => none) w #[] (fun g hlt => by omega) (fun i _ _ => rfl) (ARel.empty _) (hrel_empty P Ev w)).mono ?_
  rintro e w' ⟨v', m', rfl, hF, hV, _⟩
  have keep : ∀ b, b < w.heap.size → w'.heap[b]? = w.heap[b]? := fun b hb => hF.keep b hb fun j k hj => absurd hj (Nat.not_lt_zero j)
  refine ⟨v', m, rfl, ⟨fun _ _ => rfl, fun i l a b _ => by omega, fun b hb _ => keep b hb, hF.size, hF.os, hF.tape, hF.output⟩, ?_, ?_⟩
  · rw [VRel.eq_of_flat hV hv]; exact VRel.flat m hv
  · exact { lt := fun i l e => Nat.lt_of_lt_of_le (hh.lt i l e) hF.size
            typ := hh.typ
            inj := hh.inj
            roS := hh.roS
            obj := fun i l o hd e g => by
              obtain ⟨o', a, b⟩ := hh.obj i l o hd e g
              exact ⟨o', by rw [keep l.b (hh.lt i l e)]; exact a, b⟩ }
theorem rowRun : callK (A := Bool) Try.prog noS (fev Try.prog noS 5000) 82 [] emptyH isRow = some true := by kernel_rfl
theorem rowFlat : flatB rowVal = true := by kernel_rfl
theorem row_const (h : AHeap) : CallRun Try.prog (fun _ => False) 82 #[] h rowVal h := by
  obtain ⟨v, h', wr, hc, he⟩ := callRun_of (noS_ok _) rowRun
  obtain rfl := isRow_eq he
  exact CallRun.const (by kernel_rfl) hc rowFlat h
noncomputable def rowS : Summ := fun f args h => Bool.rec none (List.rec (some (rowVal, h, [])) (fun _ _ _ => none) args) (Nat.beq f 82)
theorem rowS_ok : SOk Try.prog rowS := fun f args h v h' wr e => by
  unfold rowS at e
  cases hb : Nat.beq f 82 with
  | false => rw [hb] at e; cases e
  | true =>
    rw [hb] at e
    cases args with
    | cons a l => cases e
    | nil =>
      cases e
      obtain rfl := Nat.eq_of_beq_eq_true hb
      exact (row_const h).weak fun i hi => hi.elim
end Go.Proofs.Ytjpegoigipbmiaa
namespace Go.Proofs.Ytjpegoigipbmiaa
open Go.RowKit
set_option maxRecDepth 100000
attribute [local irreducible] Go GoR GoL
def asB6 : Value → AHeap → List Nat → Option Bool
  | .bool b, _, _ => some b
  | _, _, _ => none
theorem asB6_true {v : Value} {h : AHeap} {wr : List Nat} (e : asB6 v h wr = some true) : v = .bool true := by
  unfold asB6 at e
  split at e
  · cases e; rfl
  · cases e
theorem known06Run : callK (A := Bool) Try.prog rowS (fev Try.prog rowS 20000) 8 [] emptyH asB6 = some true := by kernel_rfl
theorem known06 (h : AHeap) : CallS Try.prog [] 8 [] h fun u h' => u = .bool true ∧ h' = h := by
  obtain ⟨v, h', wr, hc, he⟩ := callRun_of rowS_ok known06Run
  obtain rfl := asB6_true he
  exact CallS.known noGlobals hc rfl h
end Go.Proofs.Ytjpegoigipbmiaa
namespace Go.Proofs.Ytjpegoigipbmiaa
set_option maxRecDepth 100000
attribute [local irreducible] Go GoR GoL
theorem rowNats_eq : rowNats = (List.range 256).map (Crc.it 8) := by decide +kernel
def IsRow (l : List Value) : Prop := l.length = 256 ∧ l.all Value.oneCell' = true ∧ ∀ j, j < 256 → l[j]? = some (.int .u32 (Crc.it 8 j : Nat))
theorem row_spec (h : AHeap) : CallS Try.prog [] 82 [] h fun v h' => (∃ l, v = .agg l.toArray ∧ IsRow l) ∧ h' = h := by
  obtain ⟨v, h', wr, hc, he⟩ := callRun_of (noS_ok _) rowRun
  obtain rfl := isRow_eq he
  refine (CallS.known noGlobals hc rowFlat h).mono ?_
  rintro _ h' ⟨rfl, rfl⟩
  refine ⟨⟨u32s rowNats, rfl, by decide +kernel, by decide +kernel, fun j hj => ?_⟩, rfl⟩
  rw [rowNats_eq]
  simp [u32s, hj]
theorem com_u32 {x : Nat} (hx : x < 4294967296) : iBin .xor .u32 (if IntKind.u32.signed then -1 else IntKind.u32.max) (x : Int) = some (.int .u32 ((4294967295 - x : Nat) : Int)) := by
  have e := iXor_nat (k := .u32) (x := 4294967295) (y := x) (show 4294967295 < 4294967296 by decide) hx
  rw [Crc.not_eq x hx] at e
  exact e
def zrow : List Value := List.replicate 256 (.int .u32 0)
theorem al_row : AL Try.prog 117 zrow := ⟨by kernel_rfl⟩
theorem setL_all {c l : List Value} (e : l.length = c.length) : setL c 0 l = l := by
  simp [setL, e]
theorem zrow_len : zrow.length = 256 := by simp [zrow]
theorem byte_at {zs : List UInt8} {k : Nat} (hk : k < zs.length) : (zs.map bv)[k]? = some (.int .u8 (zs[k].toNat : Int)) := by simp [hk, bv]
set_option maxHeartbeats 4000000 in
theorem crcMore_spec (s : Nat) (hs : s < 4294967296) (a : Option Addr) (cap : Nat) (zs : List UInt8) (hl : zs.length ≤ 1000000000) (h : AHeap) (hz : Rv Try.prog h 1 a zs.length cap (zs.map bv)) : CallS Try.prog [] 76 [.int .u32 s, .slice a zs.length cap] h fun v h' => v = .int .u32 (Crc.more s zs : Nat) := by
  generalize hlen : zs.length = len at *
  rcases Nat.eq_zero_or_pos len with h0 | h0
  · subst h0
    obtain rfl : zs = [] := List.eq_nil_of_length_eq_zero hlen
    (refine CallS.of2 Try.func76 rfl Try.ntmps76 Try.results76 rfl ?_)
    (refine Go.run (g:=?_))
    (first|refine Go.finT (by first|exact .inr rfl|exact .inl rfl) rfl ?_|refine Go.fin1 (by first|exact .inr rfl|exact .inl rfl) rfl (hq:=?_))
    show Value.int .u32 _ = _
    rw [Crc.more_nil s hs]
  · (refine CallS.of2 Try.func76 rfl Try.ntmps76 Try.results76 rfl ?_)
    (refine Go.run (g:=?_))
    refine GoR.call rfl rfl rfl rfl rfl rfl rfl (((row_spec _).argA).mono ?_)
    rintro _ h1 ⟨⟨l, rfl, hl1, hl2, hl3⟩, rfl⟩ s1
    refine GoR.alloc (ha := al_row) rfl rfl rfl rfl ?_
    refine GoR.store (c' := l) rfl rfl rfl rfl rfl (AHeap.get_push_same _ _) rfl hl1 (by rw [zrow_len]; decide) hl2 (setL_all (hl1.trans zrow_len.symm)) (.inr (Nat.le_refl _)) ?_
    (refine Go.run (g:=?_))
    refine GoR.com rfl rfl rfl rfl rfl (com_u32 hs) ?_
    (refine Go.run (g:=?_))
    have hg : ((h1.push (.cells zrow 117)).put h1.n (some (.cells l 117))).get h1.n = some (.cells l 117) := get_put_self (AHeap.get_push_same _ _)
    have S1 : Same h1 ((h1.push (.cells zrow 117)).put h1.n (some (.cells l 117))) := ((Same.refl h1).push _).put (Nat.le_refl _) _
    generalize ((h1.push (.cells zrow 117)).put h1.n (some (.cells l 117))) = H at *
    have hz2 := hz.same S1
    refine Go.loop (α := Nat) (fun k => [(18, .int .i64 k), (6, .int .u32 (Crc.fold (4294967295 - s) (zs.take k) : Nat)), (17, .int .i64 len), (16, .slice a len cap), (5, .pointer (some ⟨h1.n, 0, none⟩))]) (fun _ => []) (fun _ => H) (fun k => k ≤ len) (fun k => len - k) 0 (Nat.zero_le _) ⟨rfl, rfl, rfl, rfl, rfl, trivial⟩ rfl rfl ?_
    rintro k hk
    rcases Nat.lt_or_ge k len with hlt | hge
    · have hcell := byte_at (zs := zs) (k := k) (by omega)
      have hst := Crc.fold_snoc (4294967295 - s) (zs.take k) (zs[k]'(by omega))
      rw [← List.take_succ_eq_append_getElem (by omega)] at hst
      have hr := Crc.fold_lt (4294967295 - s) (zs.take k) (by omega)
      have hcb := (zs[k]'(by omega)).toNat_lt
      generalize Crc.fold (4294967295 - s) (zs.take k) = r at *
      generalize (zs[k]'(by omega)).toNat = c at *
      have hj : (r % 256) ^^^ c < 2 ^ 8 := Nat.xor_lt_two_pow (by omega) hcb
      have hlj := hl3 _ hj
      have hv := Crc.it_lt 8 ((r % 256) ^^^ c) (Nat.lt_trans hj (by decide))
      rw [← Crc.beh_row] at hst
      have hrow : (r % 2 ^ 8) ^^^ c = (r % 256) ^^^ c := rfl
      rw [hrow] at hst
      (refine Go.run (g:=?_))
      refine GoR.xorN rfl rfl rfl rfl rfl rfl (show r % 256 < 2 ^ 8 by omega) hcb ?_
      generalize (r % 256) ^^^ c = j at *
      generalize Crc.it 8 j = v at *
      (refine Go.run (g:=?_))
      refine GoR.xorN rfl rfl rfl rfl rfl rfl hv (show r / 2 ^ 8 < 2 ^ 32 by omega) ?_
      (refine Go.run (g:=?_))
      refine Go.again (k + 1) hlt (by omega) ⟨rfl, ?_, rfl, rfl, rfl, trivial⟩ rfl rfl
      rw [hst]
      rfl
    · obtain rfl : k = len := by omega
      have hr := Crc.fold_lt (4294967295 - s) (zs.take k) (by omega)
      have ht : zs.take k = zs := List.take_of_length_le (by omega)
      rw [ht] at hr ⊢
      have hm : Crc.more s zs = 4294967295 - Crc.fold (4294967295 - s) zs := rfl
      rw [hm]
      generalize Crc.fold (4294967295 - s) zs = r at *
      (refine Go.run (g:=?_))
      refine GoR.com rfl rfl rfl rfl rfl (com_u32 hr) ?_
      (refine Go.run (g:=?_))
      (first|refine Go.finT (by first|exact .inr rfl|exact .inl rfl) rfl ?_|refine Go.fin1 (by first|exact .inr rfl|exact .inl rfl) rfl (hq:=?_))
      rfl
theorem crcSum_spec (a : Option Addr) (cap : Nat) (zs : List UInt8) (hl : zs.length ≤ 1000000000) (h : AHeap) (hz : Rv Try.prog h 1 a zs.length cap (zs.map bv)) : CallS Try.prog [] 77 [.slice a zs.length cap] h fun v h' => v = .int .u32 (Crc.sum zs : Nat) := by
  (refine CallS.of1 Try.func77 rfl Try.ntmps77 Try.results77 rfl ?_)
  (refine Go.run (g:=?_))
  refine GoR.call rfl rfl rfl rfl rfl rfl rfl (((crcMore_spec 0 (by decide) a cap zs hl _ hz).argA).mono ?_)
  rintro _ h1 rfl s1
  (refine Go.run (g:=?_))
  (first|refine Go.finT (by first|exact .inr rfl|exact .inl rfl) rfl ?_|refine Go.fin1 (by first|exact .inr rfl|exact .inl rfl) rfl (hq:=?_))
  rfl
theorem it_succ (k x : Nat) : Crc.it (k + 1) x = Crc.bit (Crc.it k x) := by rw [Crc.it_add]; rfl
theorem behind_spec (r c : Nat) (hr : r < 4294967296) (hc : c < 256) (h : AHeap) : CallS Try.prog [] 83 [.int .u32 r, .int .u8 c] h fun v h' => v = .int .u32 (Crc.beh r c : Nat) := by
  have hx : r ^^^ c < 2 ^ 32 := Nat.xor_lt_two_pow hr (by omega)
  have hb : Crc.beh r c = Crc.it 8 (r ^^^ c) := rfl
  rw [hb]
  (refine CallS.of2 Try.func83 rfl Try.ntmps83 Try.results83 rfl ?_)
  (refine Go.run (g:=?_))
  refine GoR.xorN rfl rfl rfl rfl rfl rfl hr (show c < 2 ^ 32 by omega) ?_
  generalize r ^^^ c = x at *
  (refine Go.run (g:=?_))
  refine Go.loop (α := Nat) (fun k => [(5, .int .i64 k), (0, .int .u32 (Crc.it k x : Nat))]) (fun _ => []) (fun _ => h) (fun k => k ≤ 8) (fun k => 8 - k) 0 (Nat.zero_le _) ⟨rfl, rfl, trivial⟩ rfl rfl ?_
  rintro k hk
  have hv := Crc.it_lt k x hx
  rcases Nat.lt_or_ge k 8 with hlt | hge
  · have hs := it_succ k x
    generalize Crc.it k x = y at *
    rcases Nat.mod_two_eq_zero_or_one y with h2 | h2
    · have hb : Crc.bit y = y / 2 := by unfold Crc.bit; rw [if_neg (by omega)]
      (refine Go.run (g:=?_))
      refine Go.again (k + 1) hlt (by omega) ⟨rfl, by rw [hs, hb]; rfl, trivial⟩ rfl rfl
    · have hb : Crc.bit y = (y / 2) ^^^ Crc.P := by unfold Crc.bit; rw [if_pos h2]
      (refine Go.run (g:=?_))
      refine GoR.xorN rfl rfl rfl rfl rfl rfl (show y / 2 < 2 ^ 32 by omega) (show 2197175160 < 2 ^ 32 by decide) ?_
      (refine Go.run (g:=?_))
      refine Go.again (k + 1) hlt (by omega) ⟨rfl, by rw [hs, hb]; rfl, trivial⟩ rfl rfl
  · obtain rfl : k = 8 := by omega
    (refine Go.run (g:=?_))
    (first|refine Go.finT (by first|exact .inr rfl|exact .inl rfl) rfl ?_|refine Go.fin1 (by first|exact .inr rfl|exact .inl rfl) rfl (hq:=?_))
    rfl
theorem refMore_spec (s : Nat) (hs : s < 4294967296) (a : Option Addr) (cap : Nat) (zs : List UInt8) (hl : zs.length ≤ 1000000000) (h : AHeap) (hz : Rv Try.prog h 1 a zs.length cap (zs.map bv)) : CallS Try.prog [] 78 [.int .u32 s, .slice a zs.length cap] h fun v h' => v = .int .u32 (Crc.more s zs : Nat) := by
  generalize hlen : zs.length = len at *
  (refine CallS.of2 Try.func78 rfl Try.ntmps78 Try.results78 rfl ?_)
  (refine Go.run (g:=?_))
  refine Go.loop (α := Nat × AHeap) (fun k => [(6, .int .i64 k.1), (5, .int .u32 (Crc.fold (4294967295 - s) (zs.take k.1) : Nat)), (1, .slice a len cap)]) (fun _ => []) (fun k => k.2) (fun k => k.1 ≤ len ∧ Same h k.2) (fun k => len - k.1) (0, h) ?_ ?_ rfl rfl ?_
  · exact ⟨Nat.zero_le _, Same.refl h⟩
  · exact ⟨rfl, rfl, rfl, trivial⟩
  rintro ⟨k, h1⟩ ⟨hk, s1⟩
  simp only at hk s1 ⊢
  have hr := Crc.fold_lt (4294967295 - s) (zs.take k) (by omega)
  rcases Nat.lt_or_ge k len with hlt | hge
  · have hcell := byte_at (zs := zs) (k := k) (by omega)
    have hst := Crc.fold_snoc (4294967295 - s) (zs.take k) (zs[k]'(by omega))
    rw [← List.take_succ_eq_append_getElem (by omega)] at hst
    have hcb := (zs[k]'(by omega)).toNat_lt
    generalize Crc.fold (4294967295 - s) (zs.take k) = r at *
    generalize (zs[k]'(by omega)).toNat = c at *
    have hz1 := hz.same s1
    (refine Go.run (g:=?_))
    refine GoR.call rfl rfl rfl rfl rfl rfl rfl (((behind_spec r c hr hcb _).argA).mono ?_)
    rintro _ h2 rfl s2
    (refine Go.run (g:=?_))
    refine Go.again (k + 1, h2) ⟨hlt, s1.trans s2⟩ (by simp only; omega) ⟨rfl, ?_, rfl, trivial⟩ rfl rfl
    rw [hst]
    rfl
  · obtain rfl : k = len := by omega
    have ht : zs.take k = zs := List.take_of_length_le (by omega)
    rw [ht] at hr ⊢
    have hm : Crc.more s zs = 4294967295 - Crc.fold (4294967295 - s) zs := rfl
    rw [hm]
    generalize Crc.fold (4294967295 - s) zs = r at *
    (refine Go.run (g:=?_))
    (first|refine Go.finT (by first|exact .inr rfl|exact .inl rfl) rfl ?_|refine Go.fin1 (by first|exact .inr rfl|exact .inl rfl) rfl (hq:=?_))
    rfl
theorem refSum_spec (a : Option Addr) (cap : Nat) (zs : List UInt8) (hl : zs.length ≤ 1000000000) (h : AHeap) (hz : Rv Try.prog h 1 a zs.length cap (zs.map bv)) : CallS Try.prog [] 50 [.slice a zs.length cap] h fun v h' => v = .int .u32 (Crc.sum zs : Nat) := by
  (refine CallS.of1 Try.func50 rfl Try.ntmps50 Try.results50 rfl ?_)
  (refine Go.run (g:=?_))
  refine GoR.call rfl rfl rfl rfl rfl rfl rfl (((refMore_spec 0 (by decide) a cap zs hl _ hz).argA).mono ?_)
  rintro _ h1 rfl s1
  (refine Go.run (g:=?_))
  (first|refine Go.finT (by first|exact .inr rfl|exact .inl rfl) rfl ?_|refine Go.fin1 (by first|exact .inr rfl|exact .inl rfl) rfl (hq:=?_))
  rfl
end Go.Proofs.Ytjpegoigipbmiaa
namespace Go.Proofs.Ytjpegoigipbmiaa
def beNum (l : List UInt8) : Nat := l.foldl (fun n c => n * 256 + c.toNat) 0
theorem beNum_snoc (l : List UInt8) (c : UInt8) : beNum (l ++ [c]) = beNum l * 256 + c.toNat := by simp [beNum]
theorem beNum_lt (l : List UInt8) : beNum l < 256 ^ l.length := by
  have h : ∀ (r : List UInt8), beNum r.reverse < 256 ^ r.length := by
    intro r
    induction r with
    | nil => decide
    | cons c r ih =>
      rw [List.reverse_cons, beNum_snoc, List.length_cons, Nat.pow_succ]
      have := c.toNat_lt
      omega
  have := h l.reverse
  simpa using this
theorem or_byte (n c : Nat) (hc : c < 256) : n * 2 ^ 8 ||| c = n * 256 + c := or_of_lt (n := 8) hc
theorem beNum_lt_of {l : List UInt8} {k n : Nat} (h : l.length ≤ k) (hn : 256 ^ k = n) : beNum l < n := by
  subst hn
  exact Nat.lt_of_lt_of_le (beNum_lt l) (Nat.pow_le_pow_right (by decide) h)
def headSum (l : List UInt8) : Nat := Crc.sum (l.take 8 ++ [0, 0, 0, 0] ++ l.drop 12)
theorem headSum_eq (l : List UInt8) : Crc.more (Crc.more (Crc.sum (l.take 8)) [0, 0, 0, 0]) (l.drop 12) = headSum l := by
  unfold headSum Crc.sum
  rw [Crc.more_append 0 _ _ (by decide), Crc.more_append 0 _ _ (by decide)]
def hbytes (f t g s : Nat) (v : List UInt8) : List UInt8 := beB 2 f ++ beB 2 t ++ beB 4 g ++ beB 4 s ++ v
theorem hbytes_length (f t g s : Nat) (v : List UInt8) : (hbytes f t g s v).length = 12 + v.length := by simp [hbytes, beB_length]; omega
def hput (f t g : Nat) (v : List UInt8) : List UInt8 := hbytes f t g (Crc.sum (hbytes f t g 0 v)) v
end Go.Proofs.Ytjpegoigipbmiaa
namespace Go.Proofs.Ytjpegoigipbmiaa
set_option maxRecDepth 100000
attribute [local irreducible] Go GoR GoL
abbrev CP := Ck × CD
def kcs (l : List CP) : List Value := (l.map fun x => x.1.cs).flatten
theorem kcs_len (l : List CP) : (kcs l).length = l.length * 15 := by
  induction l with
  | nil => rfl
  | cons x l ih => simp only [kcs, List.map_cons, List.flatten_cons, List.length_append] at ih ⊢; rw [ih]; simp only [List.length_cons, List.length_nil]; omega
theorem kcs_get {l : List CP} {i : Nat} (hi : i < l.length) : ((kcs l).drop (i * 15)).take 15 = l[i].1.cs := by
  induction l generalizing i with
  | nil => simp at hi
  | cons x l ih =>
    have e : kcs (x :: l) = x.1.cs ++ kcs l := rfl
    cases i with
    | zero => rw [e, Nat.zero_mul, List.drop_zero]; exact List.take_left' rfl
    | succ i =>
      rw [e, show (i + 1) * 15 = x.1.cs.length + i * 15 from by simp only [List.length_cons, List.length_nil]; omega, ← List.drop_drop, List.drop_left' rfl]
      simpa using ih (by simpa using hi)
theorem kcs_at {l : List CP} {i j : Nat} (hi : i < l.length) (hj : j < 15) : (kcs l)[i * 15 + j]? = l[i].1.cs[j]? := by
  rw [← kcs_get hi, List.getElem?_take_of_lt hj, List.getElem?_drop]
theorem kcs_0 {l : List CP} {i : Nat} (hi : i < l.length) : (kcs l)[i * 15]? = some (.int .u8 l[i].1.k) := kcs_at (j := 0) hi (by decide)
structure KS (h : AHeap) (a : Option Addr) (n cap : Nat) (l : List CP) : Prop where
  len : l.length = n
  rv : Rv Try.prog h 15 a n cap (kcs l)
  ok : ∀ x ∈ l, COk h x.1 x.2
theorem KS.same {h h' : AHeap} {a : Option Addr} {n cap : Nat} {l : List CP} (k : KS h a n cap l) (s : Same h h') : KS h' a n cap l := ⟨k.len, k.rv.same s, fun x hx => (k.ok x hx).same s⟩
def aloneB (k : Nat) : Bool := decide (k = 1) || decide (k = 2) || decide (k = 14)
def startB (k : Nat) : Bool := decide (k = 1)
theorem alone_spec (c : Ck) (h : AHeap) : CallS Try.prog [] 27 [.int .u8 c.k] h fun v h' => v = .bool (aloneB c.k) := by
  (refine CallS.of1 Try.func27 rfl Try.ntmps27 Try.results27 rfl ?_)
  by_cases c1 : c.k = 1
  · have c1' : (c.k : Int) = 1 := by omega
    (refine Go.run (g:=?_))
    (first|refine Go.finT (by first|exact .inr rfl|exact .inl rfl) rfl ?_|refine Go.fin1 (by first|exact .inr rfl|exact .inl rfl) rfl (hq:=?_))
    simp [retV, aloneB, c1, c1']
  have c1' : ¬ (c.k : Int) = 1 := by omega
  by_cases c2 : c.k = 2
  · have c2' : (c.k : Int) = 2 := by omega
    (refine Go.run (g:=?_))
    (first|refine Go.finT (by first|exact .inr rfl|exact .inl rfl) rfl ?_|refine Go.fin1 (by first|exact .inr rfl|exact .inl rfl) rfl (hq:=?_))
    simp [retV, aloneB, c1, c2, c1', c2']
  have c2' : ¬ (c.k : Int) = 2 := by omega
  by_cases c3 : c.k = 14
  · have c3' : (c.k : Int) = 14 := by omega
    (refine Go.run (g:=?_))
    (first|refine Go.finT (by first|exact .inr rfl|exact .inl rfl) rfl ?_|refine Go.fin1 (by first|exact .inr rfl|exact .inl rfl) rfl (hq:=?_))
    simp [retV, aloneB, c1, c2, c3, c1', c2', c3']
  have c3' : ¬ (c.k : Int) = 14 := by omega
  (refine Go.run (g:=?_))
  (first|refine Go.finT (by first|exact .inr rfl|exact .inl rfl) rfl ?_|refine Go.fin1 (by first|exact .inr rfl|exact .inl rfl) rfl (hq:=?_))
  simp [retV, aloneB, c1, c2, c3, c1', c2', c3']
theorem starts_spec (c : Ck) (h : AHeap) : CallS Try.prog [] 28 [.int .u8 c.k] h fun v h' => v = .bool (startB c.k) := by
  (refine CallS.of1 Try.func28 rfl Try.ntmps28 Try.results28 rfl ?_)
  by_cases c1 : c.k = 1
  · have c1' : (c.k : Int) = 1 := by omega
    (refine Go.run (g:=?_))
    (first|refine Go.finT (by first|exact .inr rfl|exact .inl rfl) rfl ?_|refine Go.fin1 (by first|exact .inr rfl|exact .inl rfl) rfl (hq:=?_))
    simp [retV, startB, c1, c1']
  have c1' : ¬ (c.k : Int) = 1 := by omega
  (refine Go.run (g:=?_))
  (first|refine Go.finT (by first|exact .inr rfl|exact .inl rfl) rfl ?_|refine Go.fin1 (by first|exact .inr rfl|exact .inl rfl) rfl (hq:=?_))
  simp [retV, startB, c1, c1']
theorem some1_alone (c : Ck) (b : Nat) (h : AHeap) (hg : h.get b = some (.cells [.func (.func 27) #[] #[]] 53)) : CallS Try.prog [] 52 [c.v, .pointer (some ⟨b, 0, none⟩)] h fun v h' => v = .bool (aloneB c.k) := by
  unfold Ck.v
  (refine CallS.of2 Try.func52 rfl Try.ntmps52 Try.results52 rfl ?_)
  (iterate 4 (first|(refine Go.kk 0 rfl ?_;refine Go.seq ?_)|(refine Go.kk 1 rfl ?_;refine Go.region (by kernel_rfl) rfl ?_)|(refine GoR.kk 0 rfl ?_;first|refine GoR.move rfl rfl rfl rfl rfl ?_|refine GoR.assign rfl rfl rfl rfl rfl ?_)|(refine GoR.kk 8 rfl ?_;first|refine GoR.boxA rfl rfl rfl rfl rfl ?_|refine GoR.boxS rfl rfl rfl rfl rfl rfl ?_|refine GoR.alloc rfl rfl rfl rfl ?_)|refine GoR.end ?_))
  refine GoR.name ?_
  intro h3 e3
  have G0 : h3.get h.n = some (.cells c.cs 43) := by subst e3; exact AHeap.get_push_same h _
  have n3 : h3.n = h.n + 1 := by subst e3; rfl
  have S3 : Same h h3 := by subst e3; exact (Same.refl h).push _
  clear e3
  have gb := S3.get hg
  unfold Ck.cs at G0
  (refine Go.run (g:=?_))
  refine GoR.call rfl rfl rfl rfl rfl rfl rfl (((alone_spec c _).argA).mono ?_)
  rintro _ h4 rfl s4
  (refine Go.run (g:=?_))
  (first|refine Go.finT (by first|exact .inr rfl|exact .inl rfl) rfl ?_|refine Go.fin1 (by first|exact .inr rfl|exact .inl rfl) rfl (hq:=?_))
  rfl
theorem some1_starts (c : Ck) (b : Nat) (h : AHeap) (hg : h.get b = some (.cells [.func (.func 28) #[] #[]] 53)) : CallS Try.prog [] 52 [c.v, .pointer (some ⟨b, 0, none⟩)] h fun v h' => v = .bool (startB c.k) := by
  unfold Ck.v
  (refine CallS.of2 Try.func52 rfl Try.ntmps52 Try.results52 rfl ?_)
  (iterate 4 (first|(refine Go.kk 0 rfl ?_;refine Go.seq ?_)|(refine Go.kk 1 rfl ?_;refine Go.region (by kernel_rfl) rfl ?_)|(refine GoR.kk 0 rfl ?_;first|refine GoR.move rfl rfl rfl rfl rfl ?_|refine GoR.assign rfl rfl rfl rfl rfl ?_)|(refine GoR.kk 8 rfl ?_;first|refine GoR.boxA rfl rfl rfl rfl rfl ?_|refine GoR.boxS rfl rfl rfl rfl rfl rfl ?_|refine GoR.alloc rfl rfl rfl rfl ?_)|refine GoR.end ?_))
  refine GoR.name ?_
  intro h3 e3
  have G0 : h3.get h.n = some (.cells c.cs 43) := by subst e3; exact AHeap.get_push_same h _
  have n3 : h3.n = h.n + 1 := by subst e3; rfl
  have S3 : Same h h3 := by subst e3; exact (Same.refl h).push _
  clear e3
  have gb := S3.get hg
  unfold Ck.cs at G0
  (refine Go.run (g:=?_))
  refine GoR.call rfl rfl rfl rfl rfl rfl rfl (((starts_spec c _).argA).mono ?_)
  rintro _ h4 rfl s4
  (refine Go.run (g:=?_))
  (first|refine Go.finT (by first|exact .inr rfl|exact .inl rfl) rfl ?_|refine Go.fin1 (by first|exact .inr rfl|exact .inl rfl) rfl (hq:=?_))
  rfl
theorem any_snoc {α : Type} (p : α → Bool) {l : List α} {i : Nat} (hi : i < l.length) : (l.take (i + 1)).any p = ((l.take i).any p || p l[i]) := by
  rw [List.take_succ_eq_append_getElem hi, List.any_append]; simp
set_option maxHeartbeats 2000000 in
theorem indexFunc_spec (p : Nat → Bool) (b : Nat) (a : Option Addr) (n cap : Nat) (l : List CP) (h : AHeap) (k : KS h a n cap l) (hn : n ≤ 140737488355328) (hf : ∀ h1, Same h h1 → ∀ c : Ck, CallS Try.prog [] 52 [c.v, .pointer (some ⟨b, 0, none⟩)] h1 fun v h' => v = .bool (p c.k)) : CallS Try.prog [] 79 [.slice a n cap, .func (.func 52) #[] #[.pointer (some ⟨b, 0, none⟩)]] h fun v h' => (v = .int .i64 (-1) ∧ (l.any fun x => p x.1.k) = false) ∨ (∃ i : Nat, v = .int .i64 i ∧ (l.any fun x => p x.1.k) = true) := by
  (refine CallS.of2 Try.func79 rfl Try.ntmps79 Try.results79 rfl ?_)
  (refine Go.run (g:=?_))
  refine Go.loop (α := Nat × AHeap) (fun x => [(8, .int .i64 x.1), (7, .int .i64 n), (0, .slice a n cap), (1, .func (.func 52) #[] #[.pointer (some ⟨b, 0, none⟩)])]) (fun _ => []) (fun x => x.2) (fun x => Same h x.2 ∧ x.1 ≤ n ∧ ((l.take x.1).any fun x => p x.1.k) = false) (fun x => n - x.1) (0, h) ?_ ?_ rfl rfl ?_
  · exact ⟨Same.refl h, Nat.zero_le _, rfl⟩
  · exact ⟨rfl, rfl, rfl, rfl, trivial⟩
  rintro ⟨i, h4⟩ ⟨s4, hi, hp⟩
  simp only at s4 hi hp ⊢
  have k4 := k.same s4
  rcases Nat.lt_or_ge i n with i0 | i0
  · have i1 : i < l.length := by rw [k.len]; exact i0
    have c0 := kcs_get i1
    have hbe : i * 15 + 15 ≤ (kcs l).length := by rw [kcs_len]; omega
    have hA4 := k4.rv
    have hs := any_snoc (fun x : CP => p x.1.k) i1
    rw [hp, Bool.false_or] at hs
    have hmem : l[i] ∈ l := List.getElem_mem i1
    generalize l[i] = x at *
    (refine Go.run (g:=?_))
    refine GoR.call rfl rfl rfl rfl rfl rfl rfl (((hf _ s4 x.1).argA).mono ?_)
    rintro _ h5 rfl s5
    cases hx : p x.1.k
    · rw [hx] at hs
      (refine Go.run (g:=?_))
      exact Go.again (i + 1, h5) ⟨s4.trans s5, by simp only; omega, hs⟩ (by simp only; omega) ⟨rfl, rfl, rfl, rfl, trivial⟩ rfl rfl
    · (refine Go.run (g:=?_))
      (first|refine Go.finT (by first|exact .inr rfl|exact .inl rfl) rfl ?_|refine Go.fin1 (by first|exact .inr rfl|exact .inl rfl) rfl (hq:=?_))
      exact .inr ⟨i, rfl, List.any_eq_true.2 ⟨x, hmem, hx⟩⟩
  · have hie : i = n := by omega
    subst hie
    rw [← k.len, List.take_length] at hp
    (refine Go.run (g:=?_))
    (first|refine Go.finT (by first|exact .inr rfl|exact .inl rfl) rfl ?_|refine Go.fin1 (by first|exact .inr rfl|exact .inl rfl) rfl (hq:=?_))
    exact .inl ⟨rfl, hp⟩
theorem containsFunc_spec (p : Nat → Bool) (b : Nat) (a : Option Addr) (n cap : Nat) (l : List CP) (h : AHeap) (k : KS h a n cap l) (hn : n ≤ 140737488355328) (hf : ∀ h1, Same h h1 → ∀ c : Ck, CallS Try.prog [] 52 [c.v, .pointer (some ⟨b, 0, none⟩)] h1 fun v h' => v = .bool (p c.k)) : CallS Try.prog [] 51 [.slice a n cap, .func (.func 52) #[] #[.pointer (some ⟨b, 0, none⟩)]] h fun v h' => v = .bool (l.any fun x => p x.1.k) := by
  (refine CallS.of2 Try.func51 rfl Try.ntmps51 Try.results51 rfl ?_)
  (refine Go.run (g:=?_))
  refine GoR.call rfl rfl rfl rfl rfl rfl rfl (((indexFunc_spec p b a n cap l _ k hn hf).argA).mono ?_)
  rintro _ h4 (⟨rfl, e⟩ | ⟨i, rfl, e⟩) s4
  · rw [e]
    (refine Go.run (g:=?_))
    (first|refine Go.finT (by first|exact .inr rfl|exact .inl rfl) rfl ?_|refine Go.fin1 (by first|exact .inr rfl|exact .inl rfl) rfl (hq:=?_))
    rfl
  · rw [e]
    have i0 : (0 : Int) ≤ i := by omega
    (refine Go.run (g:=?_))
    (first|refine Go.finT (by first|exact .inr rfl|exact .inl rfl) rfl ?_|refine Go.fin1 (by first|exact .inr rfl|exact .inl rfl) rfl (hq:=?_))
    rfl
theorem someAlone_spec (a : Option Addr) (n cap : Nat) (l : List CP) (h : AHeap) (k : KS h a n cap l) (hn : n ≤ 140737488355328) : CallS Try.prog [] 26 [.slice a n cap, .func (.func 27) #[] #[]] h fun v h' => v = .bool (l.any fun x => aloneB x.1.k) := by
  (refine CallS.of2 Try.func26 rfl Try.ntmps26 Try.results26 rfl ?_)
  (iterate 4 (first|(refine Go.kk 0 rfl ?_;refine Go.seq ?_)|(refine Go.kk 1 rfl ?_;refine Go.region (by kernel_rfl) rfl ?_)|(refine GoR.kk 0 rfl ?_;first|refine GoR.move rfl rfl rfl rfl rfl ?_|refine GoR.assign rfl rfl rfl rfl rfl ?_)|(refine GoR.kk 8 rfl ?_;first|refine GoR.boxA rfl rfl rfl rfl rfl ?_|refine GoR.boxS rfl rfl rfl rfl rfl rfl ?_|refine GoR.alloc rfl rfl rfl rfl ?_)|refine GoR.end ?_))
  refine GoR.name ?_
  intro h3 e3
  have S3 : Same h h3 := by subst e3; exact (Same.refl h).push _
  have n3 : h3.n = h.n + 1 := by subst e3; rfl
  have G0 : h3.get h.n = some (.cells [.func (.func 27) #[] #[]] 53) := by subst e3; exact AHeap.get_push_same h _
  clear e3
  (refine Go.run (g:=?_))
  refine GoR.call rfl rfl rfl rfl rfl rfl rfl (((containsFunc_spec aloneB _ a n cap l _ (k.same S3) hn (fun h1 s1 c => some1_alone c _ h1 (s1.get G0))).argA).mono ?_)
  rintro _ h4 rfl s4
  (refine Go.run (g:=?_))
  (first|refine Go.finT (by first|exact .inr rfl|exact .inl rfl) rfl ?_|refine Go.fin1 (by first|exact .inr rfl|exact .inl rfl) rfl (hq:=?_))
  rfl
theorem someStarts_spec (a : Option Addr) (n cap : Nat) (l : List CP) (h : AHeap) (k : KS h a n cap l) (hn : n ≤ 140737488355328) : CallS Try.prog [] 26 [.slice a n cap, .func (.func 28) #[] #[]] h fun v h' => v = .bool (l.any fun x => startB x.1.k) := by
  (refine CallS.of2 Try.func26 rfl Try.ntmps26 Try.results26 rfl ?_)
  (iterate 4 (first|(refine Go.kk 0 rfl ?_;refine Go.seq ?_)|(refine Go.kk 1 rfl ?_;refine Go.region (by kernel_rfl) rfl ?_)|(refine GoR.kk 0 rfl ?_;first|refine GoR.move rfl rfl rfl rfl rfl ?_|refine GoR.assign rfl rfl rfl rfl rfl ?_)|(refine GoR.kk 8 rfl ?_;first|refine GoR.boxA rfl rfl rfl rfl rfl ?_|refine GoR.boxS rfl rfl rfl rfl rfl rfl ?_|refine GoR.alloc rfl rfl rfl rfl ?_)|refine GoR.end ?_))
  refine GoR.name ?_
  intro h3 e3
  have S3 : Same h h3 := by subst e3; exact (Same.refl h).push _
  have n3 : h3.n = h.n + 1 := by subst e3; rfl
  have G0 : h3.get h.n = some (.cells [.func (.func 28) #[] #[]] 53) := by subst e3; exact AHeap.get_push_same h _
  clear e3
  (refine Go.run (g:=?_))
  refine GoR.call rfl rfl rfl rfl rfl rfl rfl (((containsFunc_spec startB _ a n cap l _ (k.same S3) hn (fun h1 s1 c => some1_starts c _ h1 (s1.get G0))).argA).mono ?_)
  rintro _ h4 rfl s4
  (refine Go.run (g:=?_))
  (first|refine Go.finT (by first|exact .inr rfl|exact .inl rfl) rfl ?_|refine Go.fin1 (by first|exact .inr rfl|exact .inl rfl) rfl (hq:=?_))
  rfl
end Go.Proofs.Ytjpegoigipbmiaa
namespace Go.Proofs.Ytjpegoigipbmiaa
set_option maxRecDepth 100000
attribute [local irreducible] Go GoR GoL
set_option maxHeartbeats 4000000 in
theorem number_spec (a : Option Addr) (cap : Nat) (zs : List UInt8) (hl : zs.length ≤ 4) (h : AHeap) (hz : Rv Try.prog h 1 a zs.length cap (zs.map bv)) : CallS Try.prog [] 53 [.slice a zs.length cap] h fun v h' => v = .int .u32 (beNum zs : Nat) := by
  generalize hlen : zs.length = len at *
  (refine CallS.of1 Try.func53 rfl Try.ntmps53 Try.results53 rfl ?_)
  (refine Go.run (g:=?_))
  refine Go.loop (α := Nat) (fun k => [(8, .int .i64 k), (3, .int .u32 (beNum (zs.take k) : Nat)), (7, .int .i64 len), (6, .slice a len cap)]) (fun _ => []) (fun _ => h) (fun k => k ≤ len) (fun k => len - k) 0 (Nat.zero_le _) ⟨rfl, rfl, rfl, rfl, trivial⟩ rfl rfl ?_
  rintro k hk
  rcases Nat.lt_or_ge k len with hlt | hge
  · have hcell := byte_at (zs := zs) (k := k) (by omega)
    have hst := beNum_snoc (zs.take k) (zs[k]'(by omega))
    rw [← List.take_succ_eq_append_getElem (by omega)] at hst
    have hr : beNum (zs.take k) < 16777216 := beNum_lt_of (k := 3) (by simp; omega) rfl
    have hcb := (zs[k]'(by omega)).toNat_lt
    generalize beNum (zs.take k) = r at *
    generalize (zs[k]'(by omega)).toNat = c at *
    (refine Go.run (g:=?_))
    refine Go.again (k + 1) hlt (by omega) ⟨rfl, ?_, rfl, rfl, trivial⟩ rfl rfl
    rw [hst, ← or_byte r c hcb]
    rfl
  · obtain rfl : k = len := by omega
    have ht : zs.take k = zs := List.take_of_length_le (by omega)
    rw [ht]
    (refine Go.run (g:=?_))
    (first|refine Go.finT (by first|exact .inr rfl|exact .inl rfl) rfl ?_|refine Go.fin1 (by first|exact .inr rfl|exact .inl rfl) rfl (hq:=?_))
    rfl
theorem refNumber_spec (a : Option Addr) (cap : Nat) (zs : List UInt8) (hl : zs.length ≤ 4) (h : AHeap) (hz : Rv Try.prog h 1 a zs.length cap (zs.map bv)) : CallS Try.prog [] 61 [.slice a zs.length cap] h fun v h' => v = .int .u64 (beNum zs : Nat) := by
  generalize hlen : zs.length = len at *
  (refine CallS.of1 Try.func61 rfl Try.ntmps61 Try.results61 rfl ?_)
  (refine Go.run (g:=?_))
  refine Go.loop (α := Nat) (fun k => [(4, .int .i64 k), (3, .int .u64 (beNum (zs.take k) : Nat)), (0, .slice a len cap)]) (fun _ => []) (fun _ => h) (fun k => k ≤ len) (fun k => len - k) 0 (Nat.zero_le _) ⟨rfl, rfl, rfl, trivial⟩ rfl rfl ?_
  rintro k hk
  rcases Nat.lt_or_ge k len with hlt | hge
  · have hcell := byte_at (zs := zs) (k := k) (by omega)
    have hst := beNum_snoc (zs.take k) (zs[k]'(by omega))
    rw [← List.take_succ_eq_append_getElem (by omega)] at hst
    have hr : beNum (zs.take k) < 16777216 := beNum_lt_of (k := 3) (by simp; omega) rfl
    have hcb := (zs[k]'(by omega)).toNat_lt
    generalize beNum (zs.take k) = r at *
    generalize (zs[k]'(by omega)).toNat = c at *
    (refine Go.run (g:=?_))
    refine Go.again (k + 1) hlt (by omega) ⟨rfl, ?_, rfl, trivial⟩ rfl rfl
    rw [hst, Nat.mul_comm r 256]
    rfl
  · obtain rfl : k = len := by omega
    have ht : zs.take k = zs := List.take_of_length_le (by omega)
    rw [ht]
    (refine Go.run (g:=?_))
    (first|refine Go.finT (by first|exact .inr rfl|exact .inl rfl) rfl ?_|refine Go.fin1 (by first|exact .inr rfl|exact .inl rfl) rfl (hq:=?_))
    rfl
theorem aEq_nil {P : Program} {h : AHeap} {t e : TypeId} (hu : P.underlying t = some (.slice e)) (a : Option Addr) (len cap : Nat) : aEq P h t (.slice a len cap) (.slice none 0 0) = some (a.isNone, []) := by
  unfold aEq
  rw [hu]
  cases a <;> rfl
theorem bytesU : Try.prog.underlying 31 = some (.slice 5) := by kernel_rfl
theorem clone_spec (a : Option Addr) (cap : Nat) (zs : List UInt8) (hl : zs.length ≤ 1000000000) (h : AHeap) (hz : Rv Try.prog h 1 a zs.length cap (zs.map bv)) : CallS Try.prog [] 54 [.slice a zs.length cap] h fun v h' => OwnS h h' v zs := by
  have hone : (zs.map bv).all Value.oneCell' = true := by simp [bv, Value.oneCell']
  generalize hlen : zs.length = len at *
  cases a with
  | none =>
    obtain ⟨rfl, rfl⟩ : len = 0 ∧ cap = 0 := by
      generalize zs.map bv = cs at hz
      cases hz
      exact ⟨rfl, rfl⟩
    obtain rfl : zs = [] := List.eq_nil_of_length_eq_zero hlen
    (refine CallS.of1 Try.func54 rfl Try.ntmps54 Try.results54 rfl ?_)
    (refine Go.run (g:=?_))
    refine GoR.eqRef rfl rfl rfl rfl (.inl rfl) rfl rfl (aEq_nil bytesU _ _ _) ?_
    (refine Go.run (g:=?_))
    (first|refine Go.finT (by first|exact .inr rfl|exact .inl rfl) rfl ?_|refine Go.fin1 (by first|exact .inr rfl|exact .inl rfl) rfl (hq:=?_))
    exact ⟨none, 0, rfl, .nil, Own.nil _⟩
  | some a =>
    (refine CallS.of1 Try.func54 rfl Try.ntmps54 Try.results54 rfl ?_)
    (refine Go.run (g:=?_))
    refine GoR.eqRef rfl rfl rfl rfl (.inl rfl) rfl rfl (aEq_nil bytesU _ _ _) ?_
    (refine Go.run (g:=?_))
    refine GoR.buildO (c := []) rfl rfl rfl rfl rfl (by decide) (by rfl) (by rfl) ?_
    intro b h1 hb ob s1 n1
    (refine Go.run (g:=?_))
    refine GoR.appendV rfl rfl rfl rfl rfl rfl hb (hz.same s1) (Own.ok ob (by omega)) (by omega) (by omega) hone ?_
    intro b2 c2 h2 hb2 k2 o2
    (refine Go.run (g:=?_))
    (first|refine Go.finT (by first|exact .inr rfl|exact .inl rfl) rfl ?_|refine Go.fin1 (by first|exact .inr rfl|exact .inl rfl) rfl (hq:=?_))
    subst hlen
    rw [Nat.zero_add] at hb2 ⊢
    exact ⟨b2, c2, rfl, hb2, ob.app (by omega) o2⟩
end Go.Proofs.Ytjpegoigipbmiaa
namespace Go.Proofs.Ytjpegoigipbmiaa
set_option maxRecDepth 100000
attribute [local irreducible] Go GoR GoL
theorem crcSum_n (a : Option Addr) (cap : Nat) (zs : List UInt8) (n : Nat) (hn : zs.length = n) (hl : n ≤ 1000000000) (h : AHeap) (hz : Rv Try.prog h 1 a n cap (zs.map bv)) : CallS Try.prog [] 77 [.slice a n cap] h fun v h' => v = .int .u32 (Crc.sum zs : Nat) := by
  subst hn
  exact crcSum_spec a cap zs hl h hz
theorem refSum_n (a : Option Addr) (cap : Nat) (zs : List UInt8) (n : Nat) (hn : zs.length = n) (hl : n ≤ 1000000000) (h : AHeap) (hz : Rv Try.prog h 1 a n cap (zs.map bv)) : CallS Try.prog [] 50 [.slice a n cap] h fun v h' => v = .int .u32 (Crc.sum zs : Nat) := by
  subst hn
  exact refSum_spec a cap zs hl h hz
theorem crcMore_n (s : Nat) (hs : s < 4294967296) (a : Option Addr) (cap : Nat) (zs : List UInt8) (n : Nat) (hn : zs.length = n) (hl : n ≤ 1000000000) (h : AHeap) (hz : Rv Try.prog h 1 a n cap (zs.map bv)) : CallS Try.prog [] 76 [.int .u32 s, .slice a n cap] h fun v h' => v = .int .u32 (Crc.more s zs : Nat) := by
  subst hn
  exact crcMore_spec s hs a cap zs hl h hz
theorem number_n (a : Option Addr) (cap : Nat) (zs : List UInt8) (n : Nat) (hn : zs.length = n) (hl : n ≤ 4) (h : AHeap) (hz : Rv Try.prog h 1 a n cap (zs.map bv)) : CallS Try.prog [] 53 [.slice a n cap] h fun v h' => v = .int .u32 (beNum zs : Nat) := by
  subst hn
  exact number_spec a cap zs hl h hz
theorem refNumber_n (a : Option Addr) (cap : Nat) (zs : List UInt8) (n : Nat) (hn : zs.length = n) (hl : n ≤ 4) (h : AHeap) (hz : Rv Try.prog h 1 a n cap (zs.map bv)) : CallS Try.prog [] 61 [.slice a n cap] h fun v h' => v = .int .u64 (beNum zs : Nat) := by
  subst hn
  exact refNumber_spec a cap zs hl h hz
theorem clone_n (a : Option Addr) (cap : Nat) (zs : List UInt8) (n : Nat) (hn : zs.length = n) (hl : n ≤ 1000000000) (h : AHeap) (hz : Rv Try.prog h 1 a n cap (zs.map bv)) : CallS Try.prog [] 54 [.slice a n cap] h fun v h' => OwnS h h' v zs := by
  subst hn
  exact clone_spec a cap zs hl h hz
set_option maxHeartbeats 4000000 in
theorem sum_spec (a : Option Addr) (cap : Nat) (zs : List UInt8) (h12 : 12 ≤ zs.length) (hl : zs.length ≤ 1000000) (h : AHeap) (hz : Rv Try.prog h 1 a zs.length cap (zs.map bv)) : CallS Try.prog [] 48 [.slice a zs.length cap] h fun v h' => v = .int .u32 (headSum zs : Nat) := by
  generalize hlen : zs.length = len at *
  (refine CallS.of1 Try.func48 rfl Try.ntmps48 Try.results48 rfl ?_)
  (refine Go.run (g:=?_))
  refine GoR.bHi (r := 8) rfl rfl rfl rfl rfl rfl hz (by omega) ?_
  intro a1 hz1 _
  (refine Go.run (g:=?_))
  refine GoR.call rfl rfl rfl rfl rfl rfl rfl (((crcSum_n a1 cap (zs.take 8) 8 (by simp; omega) (by omega) _ hz1).argA).mono ?_)
  rintro _ h1 rfl s1
  (refine Go.run (g:=?_))
  refine GoR.makeO (l := 4) (c := 4) rfl rfl rfl rfl rfl rfl rfl (by decide) (by decide) ?_
  intro b h2 hb ob s2 n2
  (refine Go.run (g:=?_))
  refine GoR.call rfl rfl rfl rfl rfl rfl rfl (((crcMore_n (Crc.sum (zs.take 8)) (Crc.more_lt _ _) b 4 [0, 0, 0, 0] 4 rfl (by omega) _ (Sv.rv hb)).argA).mono ?_)
  rintro _ h3 rfl s3
  (refine Go.run (g:=?_))
  have hz3 := ((hz.same s1).same s2).same s3
  refine GoR.bLo (l := 12) rfl rfl rfl rfl rfl rfl hz3 (by omega) ?_
  intro a4 hz4 _
  (refine Go.run (g:=?_))
  have e4 : ((zs.drop 12).take (len - 12)) = zs.drop 12 := List.take_of_length_le (by simp; omega)
  rw [e4] at hz4
  refine GoR.call rfl rfl rfl rfl rfl rfl rfl (((crcMore_n (Crc.more (Crc.sum (zs.take 8)) [0, 0, 0, 0]) (Crc.more_lt _ _) a4 (cap - 12) (zs.drop 12) (len - 12) (by simp; omega) (by omega) _ hz4).argA).mono ?_)
  rintro _ h5 rfl s5
  (refine Go.run (g:=?_))
  (first|refine Go.finT (by first|exact .inr rfl|exact .inl rfl) rfl ?_|refine Go.fin1 (by first|exact .inr rfl|exact .inl rfl) rfl (hq:=?_))
  rw [← headSum_eq]
  rfl
theorem GoL.callS {P : Program} {W : Nat → Prop} {q : Bool} {N : Nat} {k : List It} {ov : Ov} {df : List Nat} {h : AHeap} {Q : PQ} {ops : Array Oper} {os : List Oper} {o : Oper} {d : Nat} {tr : List (Option LE)} {f : Operand} {xs : Array Operand} {ts : Array TypeId} {g : FuncId} {first cap : Array Value} {us : List Value} (ho : o.op = .call ⟨.value f, xs, ts⟩) (hd : o.dst = some d) (hN : dOk d N = true) (hgd : o.guard = none) (hf : evO ov f = some (.func (.func g) first cap)) (hx : evOs ov xs.toList = some us) (hc : calls P g = true)
    (hk : CallS P [] g (first.toList ++ us ++ cap.toList) h fun v h' => Same h h' → GoL P W q N ops (tr ++ [some ⟨h.n, h'.n, [], [], true, false⟩]) os k ((d, v) :: ov) df h' Q) : GoL P W q N ops tr (o :: os) k ov df h Q :=
  GoL.call (wr := []) ho hd hN hgd hf hx hc (hk.mono fun v h' g kp => ⟨fun i hi => absurd hi List.not_mem_nil, g ⟨kp.1, fun i hi => kp.2 i hi List.not_mem_nil⟩⟩)
abbrev hdV (f t g : Nat) : Value := .agg #[.int .u16 f, .int .u16 t, .int .u32 g]
end Go.Proofs.Ytjpegoigipbmiaa
namespace Go.Proofs.Ytjpegoigipbmiaa
set_option maxRecDepth 100000
attribute [local irreducible] Go GoR GoL
theorem boolU6 : Try.prog.underlying 4 = some .bool := by kernel_rfl
def anyA (l : List CP) : Bool := l.any fun x => aloneB x.1.k
def anyS (l : List CP) : Bool := l.any fun x => startB x.1.k
def pmay (g : Nat) (l : List CP) : Bool := decide (0 < l.length) && (decide (l.length ≤ 1) || !anyA l) && (anyS l == decide (g = 0))
abbrev pkV (f t g : Nat) (a : Option Addr) (n cap : Nat) : Value := .agg #[.int .u16 f, .int .u16 t, .int .u32 g, .slice a n cap]
set_option maxHeartbeats 2000000 in
theorem pmay_spec (f t g : Nat) (a : Option Addr) (n cap : Nat) (l : List CP) (h : AHeap) (k : KS h a n cap l) (hn : n ≤ 140737488355328) : CallS Try.prog [] 12 [pkV f t g a n cap] h fun v h' => v = .bool (pmay g l) := by
  have hlen := k.len
  (refine CallS.of1 Try.func12 rfl Try.ntmps12 Try.results12 rfl ?_)
  (iterate 4 (first|(refine Go.kk 0 rfl ?_;refine Go.seq ?_)|(refine Go.kk 1 rfl ?_;refine Go.region (by kernel_rfl) rfl ?_)|(refine GoR.kk 0 rfl ?_;first|refine GoR.move rfl rfl rfl rfl rfl ?_|refine GoR.assign rfl rfl rfl rfl rfl ?_)|(refine GoR.kk 8 rfl ?_;first|refine GoR.boxA rfl rfl rfl rfl rfl ?_|refine GoR.boxS rfl rfl rfl rfl rfl rfl ?_|refine GoR.alloc rfl rfl rfl rfl ?_)|refine GoR.end ?_))
  refine GoR.name ?_
  intro h3 e3
  have G0 : h3.get h.n = some (.cells [.int .u16 f, .int .u16 t, .int .u32 g, .slice a n cap] 28) := by subst e3; exact AHeap.get_push_same h _
  have n3 : h3.n = h.n + 1 := by subst e3; rfl
  have S3 : Same h h3 := by subst e3; exact (Same.refl h).push _
  clear e3
  by_cases z0 : n = 0
  · subst z0
    (refine Go.run (g:=?_))
    (first|refine Go.finT (by first|exact .inr rfl|exact .inl rfl) rfl ?_|refine Go.fin1 (by first|exact .inr rfl|exact .inl rfl) rfl (hq:=?_))
    simp [retV, pmay, hlen]
  have z0' : ¬ (n : Int) = 0 := by omega
  rcases Nat.lt_or_ge 1 n with z1 | z1
  · have z1' : (1 : Int) < n := by omega
    (refine Go.run (g:=?_))
    refine GoR.call rfl rfl rfl rfl rfl rfl rfl (((someAlone_spec a n cap l _ (k.same S3) hn).argA).mono ?_)
    rintro _ h4 rfl s4
    have GX := s4.get G0
    have SX := S3.trans s4
    rw [show (l.any fun x => aloneB x.1.k) = anyA l from rfl]
    have q1 : 0 < n := by omega
    have q2 : ¬ n ≤ 1 := by omega
    cases ha : anyA l
    case false =>
      (refine Go.run (g:=?_))
      refine GoR.call rfl rfl rfl rfl rfl rfl rfl (((someStarts_spec a n cap l _ (k.same SX) hn).argA).mono ?_)
      rintro _ h6 rfl s6
      have G6 := s6.get GX
      rw [show (l.any fun x => startB x.1.k) = anyS l from rfl]
      by_cases g0 : g = 0
      · have g0' : (g : Int) = 0 := by omega
        (refine Go.run (g:=?_))
        refine GoR.boolEq rfl rfl rfl rfl rfl rfl boolU6 ?_
        (refine Go.run (g:=?_))
        (first|refine Go.finT (by first|exact .inr rfl|exact .inl rfl) rfl ?_|refine Go.fin1 (by first|exact .inr rfl|exact .inl rfl) rfl (hq:=?_))
        simp [retV, pmay, g0, *]
      · have g0' : ¬ (g : Int) = 0 := by omega
        (refine Go.run (g:=?_))
        refine GoR.boolEq rfl rfl rfl rfl rfl rfl boolU6 ?_
        (refine Go.run (g:=?_))
        (first|refine Go.finT (by first|exact .inr rfl|exact .inl rfl) rfl ?_|refine Go.fin1 (by first|exact .inr rfl|exact .inl rfl) rfl (hq:=?_))
        simp [retV, pmay, g0, *]
    case true =>
      (refine Go.run (g:=?_))
      (first|refine Go.finT (by first|exact .inr rfl|exact .inl rfl) rfl ?_|refine Go.fin1 (by first|exact .inr rfl|exact .inl rfl) rfl (hq:=?_))
      simp [retV, pmay, hlen, ha, q2]
  · have z1' : ¬ (1 : Int) < n := by omega
    have GX := G0
    have SX := S3
    have q1 : 0 < n := by omega
    have q2 : n ≤ 1 := by omega
    (refine Go.run (g:=?_))
    refine GoR.call rfl rfl rfl rfl rfl rfl rfl (((someStarts_spec a n cap l _ (k.same SX) hn).argA).mono ?_)
    rintro _ h6 rfl s6
    have G6 := s6.get GX
    rw [show (l.any fun x => startB x.1.k) = anyS l from rfl]
    by_cases g0 : g = 0
    · have g0' : (g : Int) = 0 := by omega
      (refine Go.run (g:=?_))
      refine GoR.boolEq rfl rfl rfl rfl rfl rfl boolU6 ?_
      (refine Go.run (g:=?_))
      (first|refine Go.finT (by first|exact .inr rfl|exact .inl rfl) rfl ?_|refine Go.fin1 (by first|exact .inr rfl|exact .inl rfl) rfl (hq:=?_))
      simp [retV, pmay, g0, *]
    · have g0' : ¬ (g : Int) = 0 := by omega
      (refine Go.run (g:=?_))
      refine GoR.boolEq rfl rfl rfl rfl rfl rfl boolU6 ?_
      (refine Go.run (g:=?_))
      (first|refine Go.finT (by first|exact .inr rfl|exact .inl rfl) rfl ?_|refine Go.fin1 (by first|exact .inr rfl|exact .inl rfl) rfl (hq:=?_))
      simp [retV, pmay, g0, *]
end Go.Proofs.Ytjpegoigipbmiaa
namespace Go.Proofs.Ytjpegoigipbmiaa
theorem Rv.put {P : Program} {h : AHeap} {sz len cap b : Nat} {a : Option Addr} {cs : List Value} (k : Rv P h sz a len cap cs) (hb : b ∉ blk a) (o : Option AObj) : Rv P (h.put b o) sz a len cap cs := by
  cases k with
  | nil => exact .nil
  | mk hg ho hl hc => exact .mk (by rw [AHeap.get_put_ne _ _ (fun e => hb (by simp [blk, e]))]; exact hg) ho hl hc
theorem beB_succ (n x : Nat) : beB (n + 1) x = beB n (x / 256) ++ [UInt8.ofNat x] := by
  unfold beB
  rw [List.range_succ, List.map_append]
  congr 1
  · apply List.map_congr_left
    intro j hj
    simp only [List.mem_range] at hj
    congr 1
    rw [Nat.div_div_eq_div_mul]
    congr 1
    rw [Nat.mul_comm, ← Nat.pow_succ]
    congr 1
    omega
  · simp
theorem beB_beNum (l : List UInt8) : beB l.length (beNum l) = l := by
  have h : ∀ r : List UInt8, beB r.reverse.length (beNum r.reverse) = r.reverse := by
    intro r
    induction r with
    | nil => rfl
    | cons c r ih =>
      rw [List.reverse_cons, beNum_snoc, List.length_append]
      have hc := c.toNat_lt
      show beB (r.reverse.length + 1) _ = _
      rw [beB_succ]
      have e1 : (beNum r.reverse * 256 + c.toNat) / 256 = beNum r.reverse := by omega
      have e2 : UInt8.ofNat (beNum r.reverse * 256 + c.toNat) = c := by
        apply UInt8.toNat_inj.1
        simp only [UInt8.toNat_ofNat']
        omega
      rw [e1, e2, ih]
  have := h l.reverse
  simpa using this
theorem beB_beNum_n {n : Nat} {l : List UInt8} (h : l.length = n) : beB n (beNum l) = l := by subst h; exact beB_beNum l
theorem beNum_beB (n x : Nat) (h : x < 256 ^ n) : beNum (beB n x) = x := by
  induction n generalizing x with
  | zero => simp at h; subst h; rfl
  | succ n ih =>
    rw [beB_succ, beNum_snoc, ih (x / 256) (by rw [Nat.pow_succ] at h; omega)]
    simp only [UInt8.toNat_ofNat']
    omega
theorem hbytes_parts (zs : List UInt8) (h : 12 ≤ zs.length) : zs = (zs.take 2) ++ (zs.drop 2).take 2 ++ (zs.drop 4).take 4 ++ (zs.drop 8).take 4 ++ zs.drop 12 := by
  have e : ∀ (k j : Nat), zs.drop k = (zs.drop k).take j ++ zs.drop (k + j) := fun k j => by
    rw [← List.drop_drop]; exact (List.take_append_drop _ _).symm
  conv => lhs; rw [← List.take_append_drop 2 zs, e 2 2, e 4 4, e 8 4]
  simp
theorem hbytes_of (zs : List UInt8) (h : 12 ≤ zs.length) : hbytes (beNum (zs.take 2)) (beNum ((zs.drop 2).take 2)) (beNum ((zs.drop 4).take 4)) (beNum ((zs.drop 8).take 4)) (zs.drop 12) = zs := by
  unfold hbytes
  rw [beB_beNum_n (by simp; omega), beB_beNum_n (by simp; omega), beB_beNum_n (by simp; omega), beB_beNum_n (by simp; omega)]
  exact (hbytes_parts zs h).symm
theorem headSum_of (zs : List UInt8) (h : 12 ≤ zs.length) : headSum zs = Crc.sum (hbytes (beNum (zs.take 2)) (beNum ((zs.drop 2).take 2)) (beNum ((zs.drop 4).take 4)) 0 (zs.drop 12)) := by
  unfold headSum hbytes
  rw [beB_beNum_n (by simp; omega), beB_beNum_n (by simp; omega), beB_beNum_n (by simp; omega)]
  congr 1
  have e : zs.take 8 = zs.take 2 ++ (zs.drop 2).take 2 ++ (zs.drop 4).take 4 := by
    rw [← List.take_add, ← List.take_add]
  rw [e]
  congr 1
theorem hbytes_inj_sum {f t g s s' : Nat} {v : List UInt8} (h1 : s < 4294967296) (h2 : s' < 4294967296) (h : hbytes f t g s v = hbytes f t g s' v) : s = s' := by
  unfold hbytes at h
  have h' := List.append_cancel_right h
  have h'' := List.append_cancel_left h'
  have := congrArg beNum h''
  rwa [beNum_beB 4 s (by simpa using h1), beNum_beB 4 s' (by simpa using h2)] at this
theorem headSum_lt (l : List UInt8) : headSum l < 4294967296 := Crc.more_lt _ _
theorem hput_of (zs : List UInt8) (h : 12 ≤ zs.length) : hput (beNum (zs.take 2)) (beNum ((zs.drop 2).take 2)) (beNum ((zs.drop 4).take 4)) (zs.drop 12) = zs ↔ beNum ((zs.drop 8).take 4) = headSum zs := by
  have hl : beNum ((zs.drop 8).take 4) < 4294967296 := beNum_lt_of (k := 4) (by simp; omega) rfl
  unfold hput
  rw [← headSum_of zs h]
  constructor
  · intro e
    have : hbytes (beNum (zs.take 2)) (beNum ((zs.drop 2).take 2)) (beNum ((zs.drop 4).take 4)) (headSum zs) (zs.drop 12) = hbytes (beNum (zs.take 2)) (beNum ((zs.drop 2).take 2)) (beNum ((zs.drop 4).take 4)) (beNum ((zs.drop 8).take 4)) (zs.drop 12) := by
      rw [e, hbytes_of zs h]
    exact (hbytes_inj_sum (headSum_lt _) hl this).symm
  · intro e
    rw [← e, hbytes_of zs h]
end Go.Proofs.Ytjpegoigipbmiaa
namespace Go.Proofs.Ytjpegoigipbmiaa
abbrev Thing := Nat × Nat × List UInt8
def up4 (n : Nat) : Nat := (n + 3) / 4 * 4
def tN (z : List UInt8) : Nat := beNum ((z.drop 2).take 2)
def Whole (z : List UInt8) : Prop := 4 ≤ z.length ∧ 4 ≤ tN z ∧ up4 (tN z) ≤ z.length ∧ ((z.drop (tN z)).take (up4 (tN z) - tN z)).all (· == 0) = true
instance (z : List UInt8) : Decidable (Whole z) := by unfold Whole; infer_instance
def thing (chunk : Bool) (z : List UInt8) : Thing := (if chunk then beNum (z.take 1) else beNum (z.take 2), if chunk then beNum ((z.drop 1).take 1) else 0, (z.drop 4).take (tN z - 4))
def parse (chunk : Bool) (z : List UInt8) : List Thing × Bool :=
  if h0 : z = [] then ([], true) else if h : Whole z then (thing chunk z :: (parse chunk (z.drop (up4 (tN z)))).1, (parse chunk (z.drop (up4 (tN z)))).2) else ([], false)
termination_by z.length
decreasing_by all_goals (have := h.2.1; have := h.1; simp [up4]; omega)
theorem parse_nil (chunk : Bool) : parse chunk [] = ([], true) := by rw [parse]; simp
theorem parse_some {chunk : Bool} {z : List UInt8} (h : Whole z) : parse chunk z = (thing chunk z :: (parse chunk (z.drop (up4 (tN z)))).1, (parse chunk (z.drop (up4 (tN z)))).2) := by
  have h0 : z ≠ [] := by intro e; subst e; have := h.1; simp at this
  rw [parse]; simp [h0, h]
theorem parse_none {chunk : Bool} {z : List UInt8} (h0 : z ≠ []) (h : ¬ Whole z) : parse chunk z = ([], false) := by
  rw [parse]; simp [h0, h]
theorem thing_len {chunk : Bool} {z : List UInt8} (h : Whole z) : (thing chunk z).2.2.length = tN z - 4 := by
  have := h.2.2.1
  have : tN z ≤ up4 (tN z) := by unfold up4; omega
  simp [thing]; omega
theorem up4_le (n : Nat) : n ≤ up4 n ∧ up4 n < n + 4 := by unfold up4; omega
theorem thing_bounds {chunk : Bool} {z : List UInt8} : (thing chunk z).1 < 65536 ∧ (thing chunk z).2.1 < 256 := by
  unfold thing
  cases chunk
  · exact ⟨beNum_lt_of (k := 2) (by simp; omega) rfl, by simp⟩
  · exact ⟨Nat.lt_of_lt_of_le (beNum_lt_of (k := 1) (by simp; omega) rfl : _ < 256) (by decide), beNum_lt_of (k := 1) (by simp; omega) rfl⟩
theorem parse_len {chunk : Bool} : ∀ (z : List UInt8), 4 * (parse chunk z).1.length ≤ z.length := by
  intro z
  induction hn : z.length using Nat.strongRecOn generalizing z with
  | _ n ih =>
    by_cases h0 : z = []
    · subst h0; rw [parse_nil]; simp
    · by_cases h : Whole z
      · rw [parse_some h]
        have h1 := h.1
        have h2 := h.2.1
        have h3 := h.2.2.1
        have := up4_le (tN z)
        have ih' := ih (z.drop (up4 (tN z))).length (by simp; omega) (z.drop (up4 (tN z))) rfl
        simp at ih' ⊢
        omega
      · rw [parse_none h0 h]; simp
theorem beNum_one (x : UInt8) : beNum [x] = x.toNat := by simp [beNum]
theorem take_one {z : List UInt8} {i : Nat} (h : i < z.length) : (z.drop i).take 1 = [z[i]] := by
  rw [List.drop_eq_getElem_cons h]; rfl
theorem take_two {z : List UInt8} {i : Nat} (h : i + 1 < z.length) : (z.drop i).take 2 = [z[i], z[i + 1]] := by
  rw [List.drop_eq_getElem_cons (show i < z.length by omega), List.drop_eq_getElem_cons h]; rfl
theorem beNum_two (x y : UInt8) : beNum [x, y] = x.toNat * 256 + y.toNat := by simp [beNum]
theorem up4_def (n : Nat) : (n + 3) / 4 * 4 = up4 n := rfl
end Go.Proofs.Ytjpegoigipbmiaa
namespace Go.Proofs.Ytjpegoigipbmiaa
def num (zs : List UInt8) (n : Nat) : Nat := if n ≤ zs.length then beNum (zs.take n) else 0
def left (zs : List UInt8) (n : Nat) : List UInt8 := if n ≤ zs.length then zs.drop n else zs
def short (zs : List UInt8) (n : Nat) : Bool := decide (zs.length < n)
theorem num_le {zs : List UInt8} {n : Nat} (h : n ≤ zs.length) : num zs n = beNum (zs.take n) := if_pos h
theorem left_le {zs : List UInt8} {n : Nat} (h : n ≤ zs.length) : left zs n = zs.drop n := if_pos h
theorem short_le {zs : List UInt8} {n : Nat} (h : n ≤ zs.length) : short zs n = false := decide_eq_false (by omega)
theorem num_lt4 (zs : List UInt8) : num zs 4 < 4294967296 := by
  unfold num; split
  · exact beNum_lt_of (k := 4) (by simp; omega) rfl
  · decide
theorem num_lt2 (zs : List UInt8) : num zs 2 < 65536 := by
  unfold num; split
  · exact beNum_lt_of (k := 2) (by simp; omega) rfl
  · decide
theorem left_len (zs : List UInt8) (n : Nat) : (left zs n).length ≤ zs.length := by unfold left; split <;> simp <;> omega
structure PC where
  k : Nat
  f : Nat
  tag : Nat
  rwnd : Nat
  tsn : Nat
  out : Nat
  inn : Nat
  sid : Nat
  ssn : Nat
  ppid : Nat
  data : List UInt8
  addrs : List Nat
  gaps : List (Nat × Nat)
  dups : List Nat
  causes : List (Nat × List UInt8)
def pcOf (c : Ck) (d : CD) : PC := ⟨c.k, c.f, c.tag, c.rwnd, c.tsn, c.out, c.inn, c.sid, c.ssn, c.ppid, d.data, d.addrs, d.gaps, d.dups, d.causes.map fun x => (x.k, x.z)⟩
def ckOf (p : PC) : Ck := ⟨p.k, p.f, p.tag, p.rwnd, p.tsn, p.out, p.inn, p.sid, p.ssn, p.ppid, ⟨none, p.data.length, 0⟩, ⟨none, p.addrs.length, 0⟩, ⟨none, p.gaps.length, 0⟩, ⟨none, p.dups.length, 0⟩, ⟨none, p.causes.length, 0⟩⟩
def mayP (p : PC) : Bool := may (ckOf p) p.gaps
theorem mayP_of {h : AHeap} {c : Ck} {d : CD} (ok : COk h c d) : mayP (pcOf c d) = may c d.gaps := by
  have e1 := rmay_eq c ok.f
  have e2 := rmay_eq (ckOf (pcOf c d)) ok.f
  have hs : SameB (ckOf (pcOf c d)) (cl (ckOf (pcOf c d))) ↔ SameB c (cl c) := by
    rw [← decide_eq_decide, ← e1, ← e2]
    simp only [ckOf, pcOf, ok.dl, ok.al, ok.gl, ok.ul, List.length_map, ok.cl]
  unfold mayP may
  congr 1
  rw [decide_eq_decide]
  unfold MayF
  rw [hs]
  simp only [ckOf, pcOf, ok.dl, ok.al, ok.gl, ok.ul]
def PC.z (k f : Nat) : PC := ⟨k, f, 0, 0, 0, 0, 0, 0, 0, 0, [], [], [], [], []⟩
def pgo (kind : Nat) (well : Bool) : List Thing → List Nat → List UInt8 → Nat → Option (List Nat × List UInt8)
  | [], A, D, _ => if well then some (A, D) else none
  | (k, _, z) :: l, A, D, n =>
    if k = 5 then (if z.length = 4 ∧ A.length ≠ 3 then pgo kind well l (A ++ [beNum z]) D n else none)
    else if k = 7 then (if kind = 1 ∨ n ≠ 0 ∨ z.length = 0 then none else pgo kind well l A z (n + 1))
    else if k < 32768 then some (A, D) else pgo kind well l A D n
def nAt (zs : List UInt8) (at_ n : Nat) : Nat := beNum ((zs.drop at_).take n)
def gapsAt (zs : List UInt8) (n : Nat) : List (Nat × Nat) := (List.range n).map fun i => (nAt zs (4 * i) 2, nAt zs (4 * i + 2) 2)
def dupsAt (zs : List UInt8) (n : Nat) : List Nat := (List.range n).map fun i => nAt zs (4 * i) 4
def rawP (k f : Nat) (zs : List UInt8) : Option PC :=
  match k with
  | 0 => if 12 ≤ zs.length then some { PC.z k f with tsn := nAt zs 0 4, sid := nAt zs 4 2, ssn := nAt zs 6 2, ppid := nAt zs 8 4, data := zs.drop 12 } else none
  | 1 => if 16 ≤ zs.length then (pgo k (parse false (zs.drop 16)).2 (parse false (zs.drop 16)).1 [] [] 0).map fun x => { PC.z k f with tag := nAt zs 0 4, rwnd := nAt zs 4 4, out := nAt zs 8 2, inn := nAt zs 10 2, tsn := nAt zs 12 4, addrs := x.1, data := x.2 } else none
  | 2 => if 16 ≤ zs.length then (pgo k (parse false (zs.drop 16)).2 (parse false (zs.drop 16)).1 [] [] 0).map fun x => { PC.z k f with tag := nAt zs 0 4, rwnd := nAt zs 4 4, out := nAt zs 8 2, inn := nAt zs 10 2, tsn := nAt zs 12 4, addrs := x.1, data := x.2 } else none
  | 3 => if 12 ≤ zs.length ∧ zs.length = 12 + 4 * nAt zs 8 2 + 4 * nAt zs 10 2 then some { PC.z k f with tsn := nAt zs 0 4, rwnd := nAt zs 4 4, gaps := gapsAt (zs.drop 12) (nAt zs 8 2), dups := dupsAt (zs.drop (12 + 4 * nAt zs 8 2)) (nAt zs 10 2) } else none
  | 6 => if (parse false zs).2 = true then some { PC.z k f with causes := (parse false zs).1.map fun x => (x.1, x.2.2) } else none
  | 9 => if (parse false zs).2 = true then some { PC.z k f with causes := (parse false zs).1.map fun x => (x.1, x.2.2) } else none
  | 7 => if zs.length = 4 then some { PC.z k f with tsn := nAt zs 0 4 } else none
  | 8 => if zs.length = 0 then some (PC.z k f) else none
  | 11 => if zs.length = 0 then some (PC.z k f) else none
  | 14 => if zs.length = 0 then some (PC.z k f) else none
  | _ => some { PC.z k f with data := zs }
def tkP (kind f : Nat) (zs : List UInt8) : Option PC := if 255 < kind then none else (rawP kind f zs).filter mayP
def TakeR (h' : AHeap) (v : Value) (r : Option PC) : Prop := match r with
  | none => v = .tuple #[(Ck.none 0).v, .int .i64 50]
  | some p => ∃ c d, v = .tuple #[c.v, .int .i64 0] ∧ COk h' c d ∧ pcOf c d = p
def gapsR : Nat → List UInt8 → Bool → List (Nat × Nat) × List UInt8 × Bool
  | 0, zs, bad => ([], zs, bad)
  | n + 1, zs, bad =>
    let r := gapsR n zs bad
    (r.1 ++ [(num r.2.1 2, num (left r.2.1 2) 2)], left (left r.2.1 2) 2, r.2.2 || short r.2.1 2 || short (left r.2.1 2) 2)
def dupsR : Nat → List UInt8 → Bool → List Nat × List UInt8 × Bool
  | 0, zs, bad => ([], zs, bad)
  | n + 1, zs, bad =>
    let r := dupsR n zs bad
    (r.1 ++ [num r.2.1 4], left r.2.1 4, r.2.2 || short r.2.1 4)
theorem gapsR_len (n : Nat) (zs : List UInt8) (bad : Bool) : (gapsR n zs bad).1.length = n := by
  induction n with
  | zero => rfl
  | succ n ih => simp [gapsR, ih]
theorem dupsR_len (n : Nat) (zs : List UInt8) (bad : Bool) : (dupsR n zs bad).1.length = n := by
  induction n with
  | zero => rfl
  | succ n ih => simp [dupsR, ih]
theorem gapsR_rest (n : Nat) (zs : List UInt8) (bad : Bool) : (gapsR n zs bad).2.1.length ≤ zs.length := by
  induction n with
  | zero => exact Nat.le_refl _
  | succ n ih => exact Nat.le_trans (left_len _ _) (Nat.le_trans (left_len _ _) ih)
theorem dupsR_rest (n : Nat) (zs : List UInt8) (bad : Bool) : (dupsR n zs bad).2.1.length ≤ zs.length := by
  induction n with
  | zero => exact Nat.le_refl _
  | succ n ih => exact Nat.le_trans (left_len _ _) ih
theorem gapsR_good (zs : List UInt8) (bad : Bool) (n : Nat) (h : 4 * n ≤ zs.length) : gapsR n zs bad = (gapsAt zs n, zs.drop (4 * n), bad) := by
  induction n with
  | zero => rfl
  | succ n ih =>
    have hl : (zs.drop (4 * n)).length = zs.length - 4 * n := List.length_drop
    simp only [gapsR, ih (by omega)]
    have h1 : 2 ≤ (zs.drop (4 * n)).length := by omega
    rw [num_le h1, left_le h1, short_le h1]
    have h2 : 2 ≤ ((zs.drop (4 * n)).drop 2).length := by rw [List.length_drop]; omega
    rw [num_le h2, left_le h2, short_le h2]
    simp only [List.drop_drop, Bool.or_false, gapsAt, List.range_succ, List.map_append, List.map_cons, List.map_nil, nAt]
    rw [show 4 * n + (2 + 2) = 4 * (n + 1) from by omega]
theorem dupsR_good (zs : List UInt8) (bad : Bool) (n : Nat) (h : 4 * n ≤ zs.length) : dupsR n zs bad = (dupsAt zs n, zs.drop (4 * n), bad) := by
  induction n with
  | zero => rfl
  | succ n ih =>
    have hl : (zs.drop (4 * n)).length = zs.length - 4 * n := List.length_drop
    simp only [dupsR, ih (by omega)]
    have h1 : 4 ≤ (zs.drop (4 * n)).length := by omega
    rw [num_le h1, left_le h1, short_le h1]
    simp only [List.drop_drop, Bool.or_false, dupsAt, List.range_succ, List.map_append, List.map_cons, List.map_nil, nAt]
    rw [show 4 * n + 4 = 4 * (n + 1) from by omega]
theorem gapsR_true (n : Nat) (zs : List UInt8) : (gapsR n zs true).2.2 = true := by
  induction n with
  | zero => rfl
  | succ n ih => simp [gapsR, ih]
theorem dupsR_true (n : Nat) (zs : List UInt8) : (dupsR n zs true).2.2 = true := by
  induction n with
  | zero => rfl
  | succ n ih => simp [dupsR, ih]
theorem gapsR_bad (zs : List UInt8) (bad : Bool) (n : Nat) (h : zs.length < 4 * n) : (gapsR n zs bad).2.2 = true := by
  induction n with
  | zero => omega
  | succ n ih =>
    simp only [gapsR]
    rcases Nat.lt_or_ge zs.length (4 * n) with g | g
    · rw [ih g]; simp
    · rw [gapsR_good zs bad n g]
      have hl : (zs.drop (4 * n)).length = zs.length - 4 * n := List.length_drop
      rcases Nat.lt_or_ge (zs.drop (4 * n)).length 2 with q | q
      · simp [short, hl]; omega
      · simp [short, left_le q]; omega
theorem dupsR_bad (zs : List UInt8) (bad : Bool) (n : Nat) (h : zs.length < 4 * n) : (dupsR n zs bad).2.2 = true := by
  induction n with
  | zero => omega
  | succ n ih =>
    simp only [dupsR]
    rcases Nat.lt_or_ge zs.length (4 * n) with g | g
    · rw [ih g]; simp
    · rw [dupsR_good zs bad n g]
      have hl : (zs.drop (4 * n)).length = zs.length - 4 * n := List.length_drop
      simp [short, hl]; omega
end Go.Proofs.Ytjpegoigipbmiaa
namespace Go.Proofs.Ytjpegoigipbmiaa
set_option maxRecDepth 100000
attribute [local irreducible] Go GoR GoL
structure RS (h : AHeap) (p : Nat) (a : Option Addr) (cap : Nat) (zs : List UInt8) (bad : Bool) : Prop where
  g : h.get p = some (.cells [.slice a zs.length cap, .bool bad] 89)
  rv : Rv Try.prog h 1 a zs.length cap (zs.map bv)
  out : p ∉ blk a
theorem RS.same {h h' : AHeap} {p : Nat} {a : Option Addr} {cap : Nat} {zs : List UInt8} {bad : Bool} (r : RS h p a cap zs bad) (s : Same h h') : RS h' p a cap zs bad := ⟨s.get r.g, r.rv.same s, r.out⟩
theorem RS.keeps {wr : List Nat} {h h' : AHeap} {p : Nat} {a : Option Addr} {cap : Nat} {zs : List UInt8} {bad : Bool} (r : RS h p a cap zs bad) (k : Keeps wr h h') (h1 : p ∉ wr) (h2 : ∀ i ∈ blk a, i ∉ wr) : RS h' p a cap zs bad := ⟨k.get r.g h1, r.rv.keeps k h2, r.out⟩
set_option maxHeartbeats 4000000 in
theorem rnum_spec (h : AHeap) (p : Nat) (a : Option Addr) (cap : Nat) (zs : List UInt8) (bad : Bool) (r : RS h p a cap zs bad) (n : Nat) (hn : n ≤ 4) (hl : zs.length ≤ 1000000) : CallS Try.prog [p] 80 [.pointer (some ⟨p, 0, none⟩), .int .i64 n] h fun v h' => ∃ a' cap', v = .int .u32 (num zs n) ∧ RS h' p a' cap' (left zs n) (bad || short zs n) ∧ ∀ i ∈ blk a', i ∈ blk a := by
  have gr := r.g
  have rv := r.rv
  have hW : p ∈ [p] ∨ h.n ≤ p := .inl (List.mem_singleton.2 rfl)
  rcases Nat.lt_or_ge zs.length n with g | g
  · (refine CallS.of2 Try.func80 rfl Try.ntmps80 Try.results80 rfl ?_)
    (refine Go.run (g:=?_))
    (first|refine Go.finT (by first|exact .inr rfl|exact .inl rfl) rfl ?_|refine Go.fin1 (by first|exact .inr rfl|exact .inl rfl) rfl (hq:=?_))
    refine ⟨a, cap, by rw [num, if_neg (by omega)]; rfl, ?_, fun i hi => hi⟩
    rw [left, if_neg (by omega), short, decide_eq_true g, Bool.or_true]
    exact ⟨get_put_self gr, rv.put r.out _, r.out⟩
  · have hlen : (zs.take n).length = n := by simp; omega
    rw [num_le g, left_le g, short_le g, Bool.or_false]
    (refine CallS.of2 Try.func80 rfl Try.ntmps80 Try.results80 rfl ?_)
    (refine Go.run (g:=?_))
    refine GoR.bHi (r := n) rfl rfl rfl rfl rfl rfl rv (by omega) ?_
    intro a2 hz2 hb2
    (refine Go.run (g:=?_))
    generalize hys : zs.take n = ys at *
    refine Go.loop (α := Nat) (fun k => [(25, .int .i64 k), (5, .int .u32 (beNum (ys.take k) : Nat)), (24, .int .i64 n), (23, .slice a2 n cap), (0, .pointer (some ⟨p, 0, none⟩)), (1, .int .i64 n)]) (fun _ => []) (fun _ => h) (fun k => k ≤ n) (fun k => n - k) 0 (Nat.zero_le _) ⟨rfl, rfl, rfl, rfl, rfl, rfl, trivial⟩ rfl rfl ?_
    rintro k hk
    rcases Nat.lt_or_ge k n with hlt | hge
    · have hcell := byte_at (zs := ys) (k := k) (by omega)
      have hst := beNum_snoc (ys.take k) (ys[k]'(by omega))
      rw [← List.take_succ_eq_append_getElem (by omega)] at hst
      have hr : beNum (ys.take k) < 16777216 := beNum_lt_of (k := 3) (by simp; omega) rfl
      have hcb := (ys[k]'(by omega)).toNat_lt
      generalize beNum (ys.take k) = r at *
      generalize (ys[k]'(by omega)).toNat = c at *
      (refine Go.run (g:=?_))
      refine Go.again (k + 1) hlt (by omega) ⟨rfl, ?_, rfl, rfl, rfl, rfl, trivial⟩ rfl rfl
      rw [hst, ← or_byte r c hcb]
      rfl
    · obtain rfl : k = n := by omega
      have ht : ys.take k = ys := List.take_of_length_le (by omega)
      rw [ht]
      (refine Go.run (g:=?_))
      refine GoR.bLo (l := k) rfl rfl rfl rfl rfl rfl rv (by omega) ?_
      intro a3 hz3 hb3
      rw [List.take_of_length_le (by simp)] at hz3
      (refine Go.run (g:=?_))
      (first|refine Go.finT (by first|exact .inr rfl|exact .inl rfl) rfl ?_|refine Go.fin1 (by first|exact .inr rfl|exact .inl rfl) rfl (hq:=?_))
      refine ⟨a3, cap - k, rfl, ⟨?_, ?_, fun hi => r.out (hb3 _ hi)⟩, hb3⟩
      · rw [List.length_drop]; exact get_put_self gr
      · rw [List.length_drop]; exact hz3.put (fun hi => r.out (hb3 _ hi)) _
theorem ru32_spec (h : AHeap) (p : Nat) (a : Option Addr) (cap : Nat) (zs : List UInt8) (bad : Bool) (r : RS h p a cap zs bad) (hl : zs.length ≤ 1000000) : CallS Try.prog [p] 57 [.pointer (some ⟨p, 0, none⟩)] h fun v h' => ∃ a' cap', v = .int .u32 (num zs 4) ∧ RS h' p a' cap' (left zs 4) (bad || short zs 4) ∧ ∀ i ∈ blk a', i ∈ blk a := by
  (refine CallS.of1 Try.func57 rfl Try.ntmps57 Try.results57 rfl ?_)
  (refine Go.run (g:=?_))
  refine GoR.callW rfl rfl rfl rfl rfl rfl rfl (((rnum_spec _ _ _ _ _ _ r 4 (by decide) hl).argA).mono ?_)
  rintro _ h1 ⟨a', c', rfl, r', hb⟩ -
  refine ⟨fun i hi => .inl hi, ?_⟩
  (refine Go.run (g:=?_))
  (first|refine Go.finT (by first|exact .inr rfl|exact .inl rfl) rfl ?_|refine Go.fin1 (by first|exact .inr rfl|exact .inl rfl) rfl (hq:=?_))
  exact ⟨a', c', rfl, r', hb⟩
theorem ru16_spec (h : AHeap) (p : Nat) (a : Option Addr) (cap : Nat) (zs : List UInt8) (bad : Bool) (r : RS h p a cap zs bad) (hl : zs.length ≤ 1000000) : CallS Try.prog [p] 58 [.pointer (some ⟨p, 0, none⟩)] h fun v h' => ∃ a' cap', v = .int .u16 (num zs 2) ∧ RS h' p a' cap' (left zs 2) (bad || short zs 2) ∧ ∀ i ∈ blk a', i ∈ blk a := by
  have hlt := num_lt2 zs
  (refine CallS.of1 Try.func58 rfl Try.ntmps58 Try.results58 rfl ?_)
  (refine Go.run (g:=?_))
  refine GoR.callW rfl rfl rfl rfl rfl rfl rfl (((rnum_spec _ _ _ _ _ _ r 2 (by decide) hl).argA).mono ?_)
  rintro _ h1 ⟨a', c', rfl, r', hb⟩ -
  refine ⟨fun i hi => .inl hi, ?_⟩
  generalize num zs 2 = nz at *
  (refine Go.run (g:=?_))
  (first|refine Go.finT (by first|exact .inr rfl|exact .inl rfl) rfl ?_|refine Go.fin1 (by first|exact .inr rfl|exact .inl rfl) rfl (hq:=?_))
  exact ⟨a', c', by simp [retV, Nat.mod_eq_of_lt hlt], r', hb⟩
theorem rrest_spec (h : AHeap) (p : Nat) (a : Option Addr) (cap : Nat) (zs : List UInt8) (bad : Bool) (r : RS h p a cap zs bad) (hl : zs.length ≤ 1000000) : CallS Try.prog [p] 59 [.pointer (some ⟨p, 0, none⟩)] h fun v h' => ∃ b c, v = .slice b zs.length c ∧ Sv h' 5 1 b zs.length c (zs.map bv) ∧ Own h.n b ∧ RS h' p none 0 [] bad := by
  have gr := r.g
  have rv := r.rv
  have hlp := AHeap.lt gr
  have hW : p ∈ [p] ∨ h.n ≤ p := .inl (List.mem_singleton.2 rfl)
  (refine CallS.of1 Try.func59 rfl Try.ntmps59 Try.results59 rfl ?_)
  (refine Go.run (g:=?_))
  refine GoR.call rfl rfl rfl rfl rfl rfl rfl (((clone_spec a cap zs (by omega) _ rv).argA).mono ?_)
  rintro _ h1 ⟨b, c, rfl, hb, ob⟩ s1
  (have nn := (s1).1; try simp only [AHeap.n_push, AHeap.n_put] at nn)
  have gr1 := s1.get gr
  (refine Go.run (g:=?_))
  (first|refine Go.finT (by first|exact .inr rfl|exact .inl rfl) rfl ?_|refine Go.fin1 (by first|exact .inr rfl|exact .inl rfl) rfl (hq:=?_))
  exact ⟨b, c, rfl, hb.put (fun hm => by have := ob _ hm; omega) _, ob, ⟨get_put_self gr1, Rv.nil, by simp [blk]⟩⟩
end Go.Proofs.Ytjpegoigipbmiaa
namespace Go.Proofs.Ytjpegoigipbmiaa
set_option maxRecDepth 100000
attribute [local irreducible] Go GoR GoL
structure TV where
  k : Nat
  f : Nat
  z : List UInt8
  a : Option Addr
  cap : Nat
def TV.thing (t : TV) : Thing := (t.k, t.f, t.z)
def TV.cells (t : TV) : List Value := [.int .u16 t.k, .int .u8 t.f, .slice t.a t.z.length t.cap]
def tcells (ts : List TV) : List Value := (ts.map TV.cells).flatten
def TV.ok (h : AHeap) (t : TV) : Prop := Rv Try.prog h 1 t.a t.z.length t.cap (t.z.map bv)
def TVs (h : AHeap) (ts : List TV) : Prop := ∀ t ∈ ts, t.ok h
theorem TVs.same {h h' : AHeap} {ts : List TV} (k : TVs h ts) (s : Same h h') : TVs h' ts := fun t ht => Rv.same (k t ht) s
theorem tcells_len (ts : List TV) : (tcells ts).length = ts.length * 3 := by
  induction ts with
  | nil => rfl
  | cons t ts ih => simp only [tcells, List.map_cons, List.flatten_cons, List.length_append, List.length_cons] at ih ⊢; rw [ih]; simp [TV.cells]; omega
theorem tcells_snoc (ts : List TV) (t : TV) : tcells (ts ++ [t]) = tcells ts ++ t.cells := by simp [tcells]
theorem tcells_get {ts : List TV} {i : Nat} (hi : i < ts.length) : ((tcells ts).drop (i * 3)).take 3 = ts[i].cells := by
  induction ts generalizing i with
  | nil => simp at hi
  | cons t ts ih =>
    cases i with
    | zero => simp [tcells, TV.cells]
    | succ i =>
      have e : (tcells (t :: ts)).drop ((i + 1) * 3) = (tcells ts).drop (i * 3) := by
        have : tcells (t :: ts) = t.cells ++ tcells ts := by simp [tcells]
        rw [this, show (i + 1) * 3 = 3 + i * 3 from by omega, ← List.drop_drop]
        congr 1
      rw [e]
      exact ih (by simpa using hi)
end Go.Proofs.Ytjpegoigipbmiaa
namespace Go.Proofs.Ytjpegoigipbmiaa
set_option maxRecDepth 100000
attribute [local irreducible] Go GoR GoL
def OneV (h h' : AHeap) (chunk : Bool) (z : List UInt8) (at_ : Nat) (v : Value) : Prop :=
  (¬ Whole z ∧ v = .tuple #[tlvV 0 0 none 0 0, .int .i64 at_, .bool false]) ∨ (Whole z ∧ ∃ (t : TV), v = .tuple #[tlvV t.k t.f t.a t.z.length t.cap, .int .i64 (at_ + up4 (tN z) : Nat), .bool true] ∧ t.thing = thing chunk z ∧ t.ok h' ∧ Own h.n t.a)
set_option maxHeartbeats 8000000 in
theorem one_spec (chunk : Bool) (a : Option Addr) (n cap : Nat) (zs : List UInt8) (hlen : zs.length = n) (at_ : Nat) (hat : at_ ≤ n) (hn : n ≤ 1000000) (h : AHeap) (hz : Rv Try.prog h 1 a n cap (zs.map bv)) : CallS Try.prog [] 34 [.bool chunk, .slice a n cap, .int .i64 at_] h fun v h' => OneV h h' chunk (zs.drop at_) at_ v := by
  have hle := hz.le
  have hzl : (zs.drop at_).length = n - at_ := by simp [hlen]
  rcases Nat.lt_or_ge (n - at_) 4 with g1 | g1
  · (refine CallS.of3 Try.func34 rfl Try.ntmps34 Try.results34 rfl ?_)
    (refine Go.run (g:=?_))
    (refine Go.fin (by first|exact .inr rfl|exact .inl rfl) (.cellN rfl inferInstance (by (first | assumption | exact AHeap.get_push_same _ _ | ((repeat first | exact AHeap.get_push_same _ _ | assumption | refine get_push_lt ?_ | exact AHeap.get_put_same _ (by first | omega | (simp only [AHeap.n_push, AHeap.n_put]; omega)) _ | exact get_put_self (by assumption) | apply get_put_self | refine get_put_other (by first | omega | (simp only [AHeap.n_push, AHeap.n_put]; omega)) ?_ | refine Same.get (by assumption) ?_ | refine Keeps.get (by assumption) ?_ (fun hi => by have hx := Own.out (by assumption) hi; omega)) ; fail_if_success focus skip) | fail)) (by first | exact Nat.le_refl _ | (simp [setL, cellsL]; fail_if_success focus skip) | (simp; omega)) rfl (.tmp rfl (.tmp rfl .nil))) ?_)
    exact .inl ⟨fun w => by have := w.1; omega, rfl⟩
  have hN : tN (zs.drop at_) < 65536 := beNum_lt_of (k := 2) (by simp; omega) rfl
  have hN' : tN (zs.drop at_) = beNum ((zs.drop (at_ + 2)).take 2) := by rw [tN, List.drop_drop]
  generalize hw : tN (zs.drop at_) = w at *
  (refine CallS.of3 Try.func34 rfl Try.ntmps34 Try.results34 rfl ?_)
  (refine Go.run (g:=?_))
  have hz1 := hz.push (.cells [.int .u16 0, .int .u8 0, .slice none 0 0] 61)
  refine GoR.bLH (l := at_ + 2) (r := at_ + 4) rfl rfl rfl rfl rfl rfl rfl hz1 (by omega) (by omega) ?_
  intro a1 hz2 _
  have e42 : at_ + 4 - (at_ + 2) = 2 := by omega
  rw [e42] at hz2 ⊢
  (refine Go.run (g:=?_))
  refine GoR.call rfl rfl rfl rfl rfl rfl rfl (((refNumber_n a1 (cap - (at_ + 2)) ((zs.drop (at_ + 2)).take 2) 2 (by simp; omega) (by omega) _ hz2).argA).mono ?_)
  rw [← hN']
  rintro _ h2 rfl s2
  (refine Go.run (g:=?_))
  have hz3 := hz1.same s2
  have G2 := s2.get (AHeap.get_push_same h (.cells [.int .u16 0, .int .u8 0, .slice none 0 0] 61))
  have S2 : Same h h2 := ((Same.refl h).push _).trans s2
  have N2 : h.n + 1 ≤ h2.n := by have := s2.1; simpa using this
  clear hz1 hz2 s2
  refine Go.loop (α := Nat) (fun j => [(10, .int .i64 (at_ + w + j : Nat)), (9, .int .i64 w), (0, .bool chunk), (1, .slice a n cap), (2, .int .i64 at_), (6, .pointer (some ⟨h.n, 0, none⟩))]) (fun _ => []) (fun _ => h2) (fun j => w + j ≤ up4 w) (fun j => up4 w - (w + j)) 0 ?_ ?_ rfl rfl ?_
  · exact (up4_le w).1
  · exact ⟨rfl, rfl, rfl, rfl, rfl, rfl, trivial⟩
  · intro j hj
    have hj : w + j ≤ up4 w := hj
    have hu := up4_le w
    by_cases hm : (at_ + w + j) % 4 = at_ % 4
    case neg =>
      have hm' : ¬ (((at_ + w + j : Nat) : Int) % 4 = ((at_ : Nat) : Int) % 4) := by omega
      (refine Go.run (g:=?_))
      exact Go.again (j + 1) (show w + (j + 1) ≤ up4 w by unfold up4 at hj ⊢; omega) (show up4 w - (w + (j + 1)) < up4 w - (w + j) by unfold up4 at hj ⊢; omega) ⟨rfl, rfl, rfl, rfl, rfl, rfl, trivial⟩ rfl rfl
    have hj' : w + j = up4 w := by unfold up4 at hj ⊢; omega
    have ej : at_ + w + j = at_ + up4 w := by omega
    rw [ej]
    have hT : tN (zs.drop at_) = w := hw
    rcases Nat.lt_or_ge w 4 with g2 | g2
    · (refine Go.run (g:=?_))
      (refine Go.fin (by first|exact .inr rfl|exact .inl rfl) (.cellN rfl inferInstance (by (first | assumption | exact AHeap.get_push_same _ _ | ((repeat first | exact AHeap.get_push_same _ _ | assumption | refine get_push_lt ?_ | exact AHeap.get_put_same _ (by first | omega | (simp only [AHeap.n_push, AHeap.n_put]; omega)) _ | exact get_put_self (by assumption) | apply get_put_self | refine get_put_other (by first | omega | (simp only [AHeap.n_push, AHeap.n_put]; omega)) ?_ | refine Same.get (by assumption) ?_ | refine Keeps.get (by assumption) ?_ (fun hi => by have hx := Own.out (by assumption) hi; omega)) ; fail_if_success focus skip) | fail)) (by first | exact Nat.le_refl _ | (simp [setL, cellsL]; fail_if_success focus skip) | (simp; omega)) rfl (.tmp rfl (.tmp rfl .nil))) ?_)
      exact .inl ⟨fun q => by have := q.2.1; rw [hT] at this; omega, rfl⟩
    rcases Nat.lt_or_ge n (at_ + up4 w) with g3 | g3
    · (refine Go.run (g:=?_))
      (refine Go.fin (by first|exact .inr rfl|exact .inl rfl) (.cellN rfl inferInstance (by (first | assumption | exact AHeap.get_push_same _ _ | ((repeat first | exact AHeap.get_push_same _ _ | assumption | refine get_push_lt ?_ | exact AHeap.get_put_same _ (by first | omega | (simp only [AHeap.n_push, AHeap.n_put]; omega)) _ | exact get_put_self (by assumption) | apply get_put_self | refine get_put_other (by first | omega | (simp only [AHeap.n_push, AHeap.n_put]; omega)) ?_ | refine Same.get (by assumption) ?_ | refine Keeps.get (by assumption) ?_ (fun hi => by have hx := Own.out (by assumption) hi; omega)) ; fail_if_success focus skip) | fail)) (by first | exact Nat.le_refl _ | (simp [setL, cellsL]; fail_if_success focus skip) | (simp; omega)) rfl (.tmp rfl (.tmp rfl .nil))) ?_)
      exact .inl ⟨fun q => by have := q.2.2.1; rw [hT, hzl] at this; omega, rfl⟩
    (refine Go.run (g:=?_))
    have hz4 := hz.same S2
    refine Go.loop (α := Nat) (fun j => [(11, .int .i64 (at_ + w + j : Nat)), (10, .int .i64 (at_ + up4 w : Nat)), (9, .int .i64 w), (0, .bool chunk), (1, .slice a n cap), (2, .int .i64 at_), (6, .pointer (some ⟨h.n, 0, none⟩))]) (fun _ => []) (fun _ => h2) (fun j => w + j ≤ up4 w ∧ ((zs.drop (at_ + w)).take j).all (· == 0) = true) (fun j => up4 w - (w + j)) 0 ?_ ?_ rfl rfl ?_
    · exact ⟨hu.1, by simp⟩
    · exact ⟨rfl, rfl, rfl, rfl, rfl, rfl, rfl, trivial⟩
    · rintro i ⟨hi, hall⟩
      rcases Nat.lt_or_ge (w + i) (up4 w) with i0 | i0
      · have hq : at_ + w + i < zs.length := by omega
        (refine Go.run (g:=?_))
        refine GoR.loadV rfl rfl rfl rfl rfl hz4 (byte_at hq) ?_
        have hgi : ((zs.drop (at_ + w)))[i]? = some zs[at_ + w + i] := by rw [List.getElem?_drop, List.getElem?_eq_getElem hq]
        rcases Nat.eq_zero_or_pos zs[at_ + w + i].toNat with b0 | b0
        · rw [b0]
          (refine Go.run (g:=?_))
          refine Go.again (i + 1) ⟨show w + (i + 1) ≤ up4 w by omega, ?_⟩ (show up4 w - (w + (i + 1)) < up4 w - (w + i) by omega) ⟨rfl, rfl, rfl, rfl, rfl, rfl, rfl, trivial⟩ rfl rfl
          rw [List.take_add_one, hgi, List.all_append, hall]
          have : zs[at_ + w + i] = 0 := UInt8.toNat_inj.1 (by simpa using b0)
          simp [this]
        · (refine Go.run (g:=?_))
          (refine Go.fin (by first|exact .inr rfl|exact .inl rfl) (.cellN rfl inferInstance (by (first | assumption | exact AHeap.get_push_same _ _ | ((repeat first | exact AHeap.get_push_same _ _ | assumption | refine get_push_lt ?_ | exact AHeap.get_put_same _ (by first | omega | (simp only [AHeap.n_push, AHeap.n_put]; omega)) _ | exact get_put_self (by assumption) | apply get_put_self | refine get_put_other (by first | omega | (simp only [AHeap.n_push, AHeap.n_put]; omega)) ?_ | refine Same.get (by assumption) ?_ | refine Keeps.get (by assumption) ?_ (fun hi => by have hx := Own.out (by assumption) hi; omega)) ; fail_if_success focus skip) | fail)) (by first | exact Nat.le_refl _ | (simp [setL, cellsL]; fail_if_success focus skip) | (simp; omega)) rfl (.tmp rfl (.tmp rfl .nil))) ?_)
          refine .inl ⟨fun q => ?_, rfl⟩
          have h4 := q.2.2.2
          rw [hT, List.drop_drop] at h4
          have hm2 : zs[at_ + w + i] ∈ (zs.drop (at_ + w)).take (up4 w - w) := by
            refine List.mem_of_getElem? (i := i) ?_
            rw [List.getElem?_take_of_lt (by omega), hgi]
          have := List.all_eq_true.1 h4 _ hm2
          simp at this
          rw [this] at b0
          simp at b0
      · have hi' : w + i = up4 w := by omega
        have hW : Whole (zs.drop at_) := ⟨by omega, by rw [hT]; exact g2, by rw [hT, hzl]; omega, by rw [hT, List.drop_drop, show up4 w - w = i from by omega]; exact hall⟩
        have ei : at_ + w + i = at_ + up4 w := by omega
        rw [ei]
        clear hall hm hj hj' ej
        (refine Go.run (g:=?_))
        refine GoR.buildRo (c := []) rfl rfl rfl rfl rfl (by decide) (by rfl) (by rfl) ?_
        intro b8 h8 hb8 rb8 ob8 s8 n8
        have z8 := hz4.same s8
        have G8 := s8.get G2
        (refine Go.run (g:=?_))
        refine GoR.bLH (l := at_ + 4) (r := at_ + w) rfl rfl rfl rfl rfl rfl rfl z8 (by omega) (by omega) ?_
        intro a9 hz9 _
        (refine Go.run (g:=?_))
        refine GoR.appendRo rfl rfl rfl rfl rfl rfl hb8 rb8 hz9 (by omega) (by omega) ?_
        intro b9 h9 hs9 s9 o9
        have m9 := s9.1
        have o8 : ∀ i ∈ blk b8, h2.n ≤ i := ob8
        have ob9 : Own (h.n + 1) b9 := fun i hi => (o9 i hi).elim (fun x => by have := o8 i x; omega) (fun x => by omega)
        have G9 := s9.get G8
        have z9 := z8.same s9
        have ez : ((zs.drop (at_ + 4)).take (at_ + w - (at_ + 4))) = (thing chunk (zs.drop at_)).2.2 := by
          simp only [thing, List.drop_drop, hT]
          congr 1
          omega
        have el : 0 + (at_ + w - (at_ + 4)) = (thing chunk (zs.drop at_)).2.2.length := by
          rw [thing_len hW, hT]; omega
        rw [List.nil_append, ez, el] at hs9
        rw [el]
        have hk1 : (thing chunk (zs.drop at_)).1 = if chunk then beNum ((zs.drop at_).take 1) else beNum ((zs.drop at_).take 2) := rfl
        have hk2 : (thing chunk (zs.drop at_)).2.1 = if chunk then beNum (((zs.drop at_).drop 1).take 1) else 0 := rfl
        generalize hTT : thing chunk (zs.drop at_) = T at *
        obtain ⟨Tk, Tf, Tz⟩ := T
        simp only at hk1 hk2 hs9 ⊢
        clear hz9 hb8 z8 G8 ez el
        (refine Go.run (g:=?_))
        have q0 : at_ < zs.length := by omega
        have q1 : at_ + 1 < zs.length := by omega
        have ez4 : ∀ A b B, h9.n ≤ b → Rv Try.prog ((h9.push A).put b B) 1 a n cap (zs.map bv) := fun A b B hb => z9.same (((Same.refl h9).push A).put hb B)
        cases chunk
        · simp only [Bool.false_eq_true, if_false] at hk1 hk2
          subst hk1 hk2
          (refine Go.run (g:=?_))
          refine GoR.bLH (l := at_) (r := at_ + 2) rfl rfl rfl rfl rfl rfl rfl (ez4 _ _ _ (Nat.le_refl _)) (by omega) (by omega) ?_
          intro a10 hz10 _
          have e2 : at_ + 2 - at_ = 2 := by omega
          rw [e2] at hz10 ⊢
          (refine Go.run (g:=?_))
          have hlt : beNum ((zs.drop at_).take 2) < 65536 := beNum_lt_of (k := 2) (by simp; omega) rfl
          refine GoR.call rfl rfl rfl rfl rfl rfl rfl (((refNumber_n a10 (cap - at_) ((zs.drop at_).take 2) 2 (by simp; omega) (by omega) _ hz10).argA).mono ?_)
          rintro _ h11 rfl s11
          (have nn := (s11).1; try simp only [AHeap.n_push, AHeap.n_put] at nn)
          have z11 := (ez4 _ _ _ (Nat.le_refl _)).same s11
          have hs11 := (hs9.pushPut (.cells [.int .u16 0, .int .u8 0, .slice none 0 0] 61) (some (.cells [.int .u16 0, .int .u8 0, .slice b9 Tz.length Tz.length] 61))).same s11
          have G11 := s11.get (((AHeap.get_put_ne (h9.push (.cells [.int .u16 0, .int .u8 0, .slice none 0 0] 61)) (i := h9.n) (j := h.n) (some (.cells [.int .u16 0, .int .u8 0, .slice b9 Tz.length Tz.length] 61)) (by omega)).trans ((AHeap.get_push_ne h9 _ (by omega)))).trans G9)
          (refine Go.run (g:=?_))
          (refine Go.fin (by first|exact .inr rfl|exact .inl rfl) (.cellN rfl inferInstance (by (first | assumption | exact AHeap.get_push_same _ _ | ((repeat first | exact AHeap.get_push_same _ _ | assumption | refine get_push_lt ?_ | exact AHeap.get_put_same _ (by first | omega | (simp only [AHeap.n_push, AHeap.n_put]; omega)) _ | exact get_put_self (by assumption) | apply get_put_self | refine get_put_other (by first | omega | (simp only [AHeap.n_push, AHeap.n_put]; omega)) ?_ | refine Same.get (by assumption) ?_ | refine Keeps.get (by assumption) ?_ (fun hi => by have hx := Own.out (by assumption) hi; omega)) ; fail_if_success focus skip) | fail)) (by first | exact Nat.le_refl _ | (simp [setL, cellsL]; fail_if_success focus skip) | (simp; omega)) rfl (.tmp rfl (.tmp rfl .nil))) ?_)
          refine .inr ⟨hW, ⟨beNum ((zs.drop at_).take 2), 0, Tz, b9, Tz.length⟩, (by rw [hT]; rfl), hTT.symm, ?_, ob9.mono (by omega)⟩
          exact (hs11.put (fun hm => by have := hs9.lt _ hm; omega) _).put (fun hm => by have := ob9 _ hm; omega) _
        · simp only [if_true] at hk1 hk2
          rw [take_one q0, beNum_one] at hk1
          rw [List.drop_drop, take_one q1, beNum_one] at hk2
          subst hk1 hk2
          (refine Go.run (g:=?_))
          refine GoR.loadV rfl rfl rfl rfl rfl (ez4 _ _ _ (Nat.le_refl _)) (byte_at q0) ?_
          have hx0 : zs[at_].toNat < 65536 := Nat.lt_of_lt_of_le (UInt8.toNat_lt _) (by decide)
          (refine Go.run (g:=?_))
          have ez5 : ∀ A b B b' B', h9.n ≤ b → h9.n ≤ b' → Rv Try.prog (((h9.push A).put b B).put b' B') 1 a n cap (zs.map bv) := fun A b B b' B' hb hb' => z9.same ((((Same.refl h9).push A).put hb B).put hb' B')
          refine GoR.indexN (i := at_ + 1) (len := n) rfl rfl rfl rfl rfl rfl (hS := ez5 _ _ _ _ _ (Nat.le_refl _) (Nat.le_refl _)) (h1 := by omega) ?_
          refine GoR.loadV rfl rfl rfl rfl rfl (ez5 _ _ _ _ _ (Nat.le_refl _) (Nat.le_refl _)) (byte_at q1) ?_
          have hs11 : ∀ A b B b' B' b'' B'' b₃ B₃, h9.n ≤ b → h9.n ≤ b' → h9.n ≤ b'' → h.n = b₃ → Rv Try.prog (((((h9.push A).put b B).put b' B').put b'' B'').put b₃ B₃) 1 b9 Tz.length Tz.length (Tz.map bv) := fun A b B b' B' b'' B'' b₃ B₃ hb hb' hb'' e => (hs9.same (((((Same.refl h9).push A).put hb B).put hb' B').put hb'' B'')).put (fun hm => by have := ob9 _ hm; omega) B₃
          (refine Go.run (g:=?_))
          (refine Go.fin (by first|exact .inr rfl|exact .inl rfl) (.cellN rfl inferInstance (by (first | assumption | exact AHeap.get_push_same _ _ | ((repeat first | exact AHeap.get_push_same _ _ | assumption | refine get_push_lt ?_ | exact AHeap.get_put_same _ (by first | omega | (simp only [AHeap.n_push, AHeap.n_put]; omega)) _ | exact get_put_self (by assumption) | apply get_put_self | refine get_put_other (by first | omega | (simp only [AHeap.n_push, AHeap.n_put]; omega)) ?_ | refine Same.get (by assumption) ?_ | refine Keeps.get (by assumption) ?_ (fun hi => by have hx := Own.out (by assumption) hi; omega)) ; fail_if_success focus skip) | fail)) (by first | exact Nat.le_refl _ | (simp [setL, cellsL]; fail_if_success focus skip) | (simp; omega)) rfl (.tmp rfl (.tmp rfl .nil))) ?_)
          refine .inr ⟨hW, ⟨zs[at_].toNat, zs[at_ + 1].toNat, Tz, b9, Tz.length⟩, (by rw [hT]; rfl), hTT.symm, ?_, ob9.mono (by omega)⟩
          exact hs11 _ _ _ _ _ _ _ _ _ (Nat.le_refl _) (Nat.le_refl _) (Nat.le_refl _) rfl
end Go.Proofs.Ytjpegoigipbmiaa
namespace Go.Proofs.Ytjpegoigipbmiaa
set_option maxRecDepth 100000
attribute [local irreducible] Go GoR GoL
structure TRow (h h' : AHeap) (a : Option Addr) (cap : Nat) (ts : List TV) : Prop where
  sv : Sv h' 61 3 a ts.length cap (tcells ts)
  own : Own h.n a
  tv : TVs h' ts
  apart : ∀ t ∈ ts, ∀ i ∈ blk t.a, i ∉ blk a
  ownv : ∀ t ∈ ts, Own h.n t.a
theorem TRow.nil (h h' : AHeap) : TRow h h' none 0 [] := ⟨.nil, Own.nil _, (fun t ht => by cases ht), (fun t ht => by cases ht), fun t ht => by cases ht⟩
theorem TRow.same {h h' h'' : AHeap} {a : Option Addr} {cap : Nat} {ts : List TV} (k : TRow h h' a cap ts) (s : Same h' h'') : TRow h h'' a cap ts := ⟨k.sv.same s, k.own, k.tv.same s, k.apart, k.ownv⟩
theorem TRow.snoc {h h₁ h₂ : AHeap} {a a₂ : Option Addr} {cap cap₂ : Nat} {ts : List TV} {t : TV} (k : TRow h h₁ a cap ts) (hn : h.n ≤ h₁.n) (ht : t.ok h₁) (hta : ∀ i ∈ blk t.a, i ∉ blk a) (hto : Own h.n t.a) (sv : Sv h₂ 61 3 a₂ (ts.length + 1) cap₂ (tcells ts ++ t.cells)) (kp : Keeps (blk a) h₁ h₂) (hb : ∀ i ∈ blk a₂, i ∈ blk a ∨ h₁.n ≤ i) : TRow h h₂ a₂ cap₂ (ts ++ [t]) := by
  have all : ∀ u ∈ ts ++ [t], u.ok h₁ ∧ ∀ i ∈ blk u.a, i ∉ blk a := fun u hu => by
    rcases List.mem_append.1 hu with hu | hu
    · exact ⟨k.tv u hu, k.apart u hu⟩
    · simp at hu; subst hu; exact ⟨ht, hta⟩
  refine ⟨by rw [tcells_snoc, List.length_append]; exact sv, fun i hi => (hb i hi).elim (k.own i) (fun x => by omega), fun u hu => ?_, fun u hu i hi hm => ?_, fun u hu => ?_⟩
  · exact Rv.keeps (all u hu).1 kp (all u hu).2
  · rcases hb i hm with x | x
    · exact (all u hu).2 i hi x
    · have := Rv.lt (all u hu).1 i hi; omega
  · rcases List.mem_append.1 hu with hu | hu
    · exact k.ownv u hu
    · simp at hu; subst hu; exact hto
set_option maxHeartbeats 8000000 in
theorem refAll_spec (chunk : Bool) (a : Option Addr) (n cap : Nat) (zs : List UInt8) (hlen : zs.length = n) (hn : n ≤ 1000000) (h : AHeap) (hz : Rv Try.prog h 1 a n cap (zs.map bv)) : CallS Try.prog [] 66 [.bool chunk, .slice a n cap] h fun v h' => ∃ b c ts, v = .tuple #[.slice b ts.length c, .bool (parse chunk zs).2] ∧ ts.map TV.thing = (parse chunk zs).1 ∧ TRow h h' b c ts := by
  (refine CallS.of2 Try.func66 rfl Try.ntmps66 Try.results66 rfl ?_)
  (refine Go.run (g:=?_))
  refine Go.loop (α := Nat × List TV × Option Addr × Nat × AHeap) (fun x => [(7, .int .i64 x.1), (6, .slice x.2.2.1 x.2.1.length x.2.2.2.1), (0, .bool chunk), (1, .slice a n cap)]) (fun _ => []) (fun x => x.2.2.2.2) (fun x => x.1 ≤ n ∧ Same h x.2.2.2.2 ∧ TRow h x.2.2.2.2 x.2.2.1 x.2.2.2.1 x.2.1 ∧ 4 * x.2.1.length ≤ x.1 ∧ parse chunk zs = (x.2.1.map TV.thing ++ (parse chunk (zs.drop x.1)).1, (parse chunk (zs.drop x.1)).2)) (fun x => n - x.1) (0, [], none, 0, h) ?_ ?_ rfl rfl ?_
  · exact ⟨Nat.zero_le _, Same.refl h, TRow.nil h h, Nat.le_refl _, by simp⟩
  · exact ⟨rfl, rfl, rfl, rfl, trivial⟩
  · rintro ⟨at_, ts, b, c, h1⟩ ⟨hat, s1, hr, h4, hp⟩
    simp only at hat s1 hr h4 hp ⊢
    have n1 := s1.1
    have hz1 := hz.same s1
    rcases Nat.lt_or_ge at_ n with i0 | i0
    · (refine Go.run (g:=?_))
      refine GoR.call rfl rfl rfl rfl rfl rfl rfl (((one_spec chunk a n cap zs hlen at_ hat hn _ hz1).argA).mono ?_)
      rintro v h2 hv s2
      (have nn := (s2).1; try simp only [AHeap.n_push, AHeap.n_put] at nn)
      have hne : zs.drop at_ ≠ [] := by intro e; have := congrArg List.length e; simp at this; omega
      rcases hv with ⟨hW, rfl⟩ | ⟨hW, t, rfl, ht, hok, hown⟩
      · rw [parse_none hne hW] at hp
        (refine Go.run (g:=?_))
        (first|refine Go.finT (by first|exact .inr rfl|exact .inl rfl) rfl ?_|refine Go.fin1 (by first|exact .inr rfl|exact .inl rfl) rfl (hq:=?_))
        exact ⟨b, c, ts, by rw [hp]; rfl, by rw [hp]; simp, (hr.same s2).same (((Same.refl h2).push _).put (Nat.le_refl _) _)⟩
      · rw [parse_some hW] at hp
        have hw1 := hW.2.2.1
        have hw2 := hW.2.1
        have hw3 := up4_le (tN (zs.drop at_))
        rw [List.length_drop, hlen] at hw1
        (refine Go.run (g:=?_))
        have r2 := (hr.same s2).same (((Same.refl h2).push (.cells [.int .u16 0, .int .u8 0, .slice none 0 0] 61)).put (Nat.le_refl _) (some (.cells t.cells 61)))
        have ok2 : t.ok _ := Rv.pushPut hok (.cells [.int .u16 0, .int .u8 0, .slice none 0 0] 61) (some (.cells t.cells 61))
        refine GoR.buildRo (c := t.cells) rfl rfl rfl rfl rfl (by decide) (by rfl) (by rfl) ?_
        intro b8 h8 hb8 rb8 ob8 s8 n8
        have r8 := r2.same s8
        have ok8 := Rv.same ok2 s8
        simp only [AHeap.n_push, AHeap.n_put] at n8
        refine GoR.appendV rfl rfl rfl rfl rfl rfl r8.sv hb8 (Own.ok r8.own (Nat.le_refl _)) (by omega) (by omega) (by rfl) ?_
        intro b9 c9 h9 hs9 k9 o9
        have m9 := k9.1
        have r9 := r8.snoc (by omega) ok8 (fun i hi hm => by have := hown i hi; have := hr.sv.lt i hm; omega) (hown.mono (by omega)) hs9 k9 o9
        (refine Go.run (g:=?_))
        refine Go.again (at_ + up4 (tN (zs.drop at_)), ts ++ [t], b9, c9, h9) ⟨by simp only; omega, ?_, r9, by simp only [List.length_append, List.length_cons, List.length_nil]; omega, ?_⟩ (by simp only; omega) ⟨rfl, by simp only [List.length_append, List.length_cons, List.length_nil]; rfl, rfl, rfl, trivial⟩ rfl rfl
        · exact ((((s1.trans s2).push _).put (by omega) _).trans s8).ownO k9 r8.own (Nat.le_refl _)
        · simp only
          rw [hp, List.map_append, List.map_cons, List.map_nil, ht, List.append_assoc, List.drop_drop]
          rfl
    · have ha : at_ = n := by omega
      subst ha
      rw [List.drop_eq_nil_of_le (by omega), parse_nil] at hp
      (refine Go.run (g:=?_))
      (first|refine Go.finT (by first|exact .inr rfl|exact .inl rfl) rfl ?_|refine Go.fin1 (by first|exact .inr rfl|exact .inl rfl) rfl (hq:=?_))
      exact ⟨b, c, ts, by rw [hp]; rfl, by rw [hp]; simp, hr⟩
end Go.Proofs.Ytjpegoigipbmiaa