/- What the law leans on, part 6. No conditions. -/
import Derived.Test.YtjpegoigipbmiaaProg
import Derived.KernelRfl
import Derived.Test.YtjpegoigipbmiaaChecked
import Derived.Test.YtjpegoigipbmiaaPktBackPart5
set_option linter.unusedVariables false
set_option linter.unusedSimpArgs false
namespace Go.Proofs.Ytjpegoigipbmiaa
instance : CT Try.prog 3 none := ⟨by kernel_rfl⟩
instance : SZ Try.prog 3 1 := ⟨by kernel_rfl⟩
theorem un3 : Try.prog.underlying 3 = some (.int .i64) := by kernel_rfl
instance : AL Try.prog 3 [.int .i64 0] := ⟨by kernel_rfl⟩
instance : CT Try.prog 4 none := ⟨by kernel_rfl⟩
instance : SZ Try.prog 4 1 := ⟨by kernel_rfl⟩
instance : CT Try.prog 5 none := ⟨by kernel_rfl⟩
instance : SZ Try.prog 5 1 := ⟨by kernel_rfl⟩
theorem un5 : Try.prog.underlying 5 = some (.int .u8) := by kernel_rfl
instance : CT Try.prog 22 none := ⟨by kernel_rfl⟩
instance : SZ Try.prog 22 1 := ⟨by kernel_rfl⟩
theorem un22 : Try.prog.underlying 22 = some (.int .u16) := by kernel_rfl
instance : CT Try.prog 23 none := ⟨by kernel_rfl⟩
instance : SZ Try.prog 23 1 := ⟨by kernel_rfl⟩
theorem un23 : Try.prog.underlying 23 = some (.int .u32) := by kernel_rfl
instance : CT Try.prog 25 (some 3) := ⟨by kernel_rfl⟩
instance : SZ Try.prog 25 3 := ⟨by kernel_rfl⟩
instance : FO Try.prog 25 0 0 := ⟨by kernel_rfl⟩
instance : FO Try.prog 25 1 1 := ⟨by kernel_rfl⟩
instance : FO Try.prog 25 2 2 := ⟨by kernel_rfl⟩
instance : ST Try.prog 25 [.int .u16 0, .int .u16 0, .int .u32 0] [(0, 1), (1, 1), (2, 1)] := .of (z := .agg #[.int .u16 0, .int .u16 0, .int .u32 0]) (fs := (match Try.prog.underlying 25 with | some (.struct fs) => fs | _ => #[])) (by kernel_rfl) (by kernel_rfl) (by kernel_rfl) (by kernel_rfl) (by kernel_rfl)
instance : AL Try.prog 25 [.int .u16 0, .int .u16 0, .int .u32 0] := ⟨by kernel_rfl⟩
instance : CT Try.prog 26 none := ⟨by kernel_rfl⟩
instance : SZ Try.prog 26 1 := ⟨by kernel_rfl⟩
instance : EL Try.prog 26 (none, 15) := ⟨by kernel_rfl⟩
instance : UN Try.prog 26 (.slice 43) := ⟨by kernel_rfl⟩
instance : BS Try.prog 26 43 15 (.agg #[.int .u8 0, .int .u8 0, .int .u32 0, .int .u32 0, .int .u32 0, .int .u16 0, .int .u16 0, .int .u16 0, .int .u16 0, .int .u32 0, .slice none 0 0, .slice none 0 0, .slice none 0 0, .slice none 0 0, .slice none 0 0]) := .of (by kernel_rfl) (by kernel_rfl) (by kernel_rfl) (by kernel_rfl) (by kernel_rfl)
instance : AP Try.prog 26 26 43 15 152 := .of (inf := Try.t43) (z := .agg #[.int .u8 0, .int .u8 0, .int .u32 0, .int .u32 0, .int .u32 0, .int .u16 0, .int .u16 0, .int .u16 0, .int .u16 0, .int .u32 0, .slice none 0 0, .slice none 0 0, .slice none 0 0, .slice none 0 0, .slice none 0 0]) (e₂ := 43) (by kernel_rfl) (by kernel_rfl) (by kernel_rfl) (by kernel_rfl) (by kernel_rfl) (by kernel_rfl) (by decide) (by kernel_rfl) (by kernel_rfl)
instance : CT Try.prog 28 (some 4) := ⟨by kernel_rfl⟩
instance : SZ Try.prog 28 4 := ⟨by kernel_rfl⟩
instance : FO Try.prog 28 0 0 := ⟨by kernel_rfl⟩
instance : FO Try.prog 28 1 3 := ⟨by kernel_rfl⟩
instance : ST Try.prog 28 [.int .u16 0, .int .u16 0, .int .u32 0, .slice none 0 0] [(0, 3), (3, 1)] := .of (z := .agg #[.int .u16 0, .int .u16 0, .int .u32 0, .slice none 0 0]) (fs := (match Try.prog.underlying 28 with | some (.struct fs) => fs | _ => #[])) (by kernel_rfl) (by kernel_rfl) (by kernel_rfl) (by kernel_rfl) (by kernel_rfl)
instance : AL Try.prog 28 [.int .u16 0, .int .u16 0, .int .u32 0, .slice none 0 0] := ⟨by kernel_rfl⟩
instance : CT Try.prog 31 none := ⟨by kernel_rfl⟩
instance : SZ Try.prog 31 1 := ⟨by kernel_rfl⟩
instance : EL Try.prog 31 (none, 1) := ⟨by kernel_rfl⟩
instance : UN Try.prog 31 (.slice 5) := ⟨by kernel_rfl⟩
instance : BS Try.prog 31 5 1 (.int .u8 0) := .of (by kernel_rfl) (by kernel_rfl) (by kernel_rfl) (by kernel_rfl) (by kernel_rfl)
instance : MK Try.prog 31 5 1 (.int .u8 0) := .of (inf := Try.t5) (by kernel_rfl) (by kernel_rfl) (by kernel_rfl) (by kernel_rfl) (by kernel_rfl) (by kernel_rfl) (by kernel_rfl)
instance : AP Try.prog 31 31 5 1 1 := .of (inf := Try.t5) (z := .int .u8 0) (e₂ := 5) (by kernel_rfl) (by kernel_rfl) (by kernel_rfl) (by kernel_rfl) (by kernel_rfl) (by kernel_rfl) (by decide) (by kernel_rfl) (by kernel_rfl)
instance : CT Try.prog 32 none := ⟨by kernel_rfl⟩
instance : SZ Try.prog 32 1 := ⟨by kernel_rfl⟩
instance : AL Try.prog 32 [.int .i64 0] := ⟨by kernel_rfl⟩
instance : CT Try.prog 39 none := ⟨by kernel_rfl⟩
instance : SZ Try.prog 39 1 := ⟨by kernel_rfl⟩
instance : EL Try.prog 39 (none, 1) := ⟨by kernel_rfl⟩
instance : UN Try.prog 39 (.slice 23) := ⟨by kernel_rfl⟩
instance : BS Try.prog 39 23 1 (.int .u32 0) := .of (by kernel_rfl) (by kernel_rfl) (by kernel_rfl) (by kernel_rfl) (by kernel_rfl)
instance : AP Try.prog 39 39 23 1 4 := .of (inf := Try.t23) (z := .int .u32 0) (e₂ := 23) (by kernel_rfl) (by kernel_rfl) (by kernel_rfl) (by kernel_rfl) (by kernel_rfl) (by kernel_rfl) (by decide) (by kernel_rfl) (by kernel_rfl)
instance : CT Try.prog 40 none := ⟨by kernel_rfl⟩
instance : SZ Try.prog 40 1 := ⟨by kernel_rfl⟩
instance : EL Try.prog 40 (none, 2) := ⟨by kernel_rfl⟩
instance : UN Try.prog 40 (.slice 78) := ⟨by kernel_rfl⟩
instance : BS Try.prog 40 78 2 (.agg #[.int .u16 0, .int .u16 0]) := .of (by kernel_rfl) (by kernel_rfl) (by kernel_rfl) (by kernel_rfl) (by kernel_rfl)
instance : AP Try.prog 40 40 78 2 4 := .of (inf := Try.t78) (z := .agg #[.int .u16 0, .int .u16 0]) (e₂ := 78) (by kernel_rfl) (by kernel_rfl) (by kernel_rfl) (by kernel_rfl) (by kernel_rfl) (by kernel_rfl) (by decide) (by kernel_rfl) (by kernel_rfl)
instance : CT Try.prog 41 none := ⟨by kernel_rfl⟩
instance : SZ Try.prog 41 1 := ⟨by kernel_rfl⟩
instance : EL Try.prog 41 (none, 2) := ⟨by kernel_rfl⟩
instance : UN Try.prog 41 (.slice 69) := ⟨by kernel_rfl⟩
instance : BS Try.prog 41 69 2 (.agg #[.int .u16 0, .slice none 0 0]) := .of (by kernel_rfl) (by kernel_rfl) (by kernel_rfl) (by kernel_rfl) (by kernel_rfl)
instance : AP Try.prog 41 41 69 2 32 := .of (inf := Try.t69) (z := .agg #[.int .u16 0, .slice none 0 0]) (e₂ := 69) (by kernel_rfl) (by kernel_rfl) (by kernel_rfl) (by kernel_rfl) (by kernel_rfl) (by kernel_rfl) (by decide) (by kernel_rfl) (by kernel_rfl)
instance : CT Try.prog 43 (some 15) := ⟨by kernel_rfl⟩
instance : SZ Try.prog 43 15 := ⟨by kernel_rfl⟩
instance : FO Try.prog 43 0 0 := ⟨by kernel_rfl⟩
instance : FO Try.prog 43 1 1 := ⟨by kernel_rfl⟩
instance : FO Try.prog 43 2 2 := ⟨by kernel_rfl⟩
instance : FO Try.prog 43 3 3 := ⟨by kernel_rfl⟩
instance : FO Try.prog 43 4 4 := ⟨by kernel_rfl⟩
instance : FO Try.prog 43 5 5 := ⟨by kernel_rfl⟩
instance : FO Try.prog 43 6 6 := ⟨by kernel_rfl⟩
instance : FO Try.prog 43 7 7 := ⟨by kernel_rfl⟩
instance : FO Try.prog 43 8 8 := ⟨by kernel_rfl⟩
instance : FO Try.prog 43 9 9 := ⟨by kernel_rfl⟩
instance : FO Try.prog 43 10 10 := ⟨by kernel_rfl⟩
instance : FO Try.prog 43 11 11 := ⟨by kernel_rfl⟩
instance : FO Try.prog 43 12 12 := ⟨by kernel_rfl⟩
instance : FO Try.prog 43 13 13 := ⟨by kernel_rfl⟩
instance : FO Try.prog 43 14 14 := ⟨by kernel_rfl⟩
instance : ST Try.prog 43 [.int .u8 0, .int .u8 0, .int .u32 0, .int .u32 0, .int .u32 0, .int .u16 0, .int .u16 0, .int .u16 0, .int .u16 0, .int .u32 0, .slice none 0 0, .slice none 0 0, .slice none 0 0, .slice none 0 0, .slice none 0 0] [(0, 1), (1, 1), (2, 1), (3, 1), (4, 1), (5, 1), (6, 1), (7, 1), (8, 1), (9, 1), (10, 1), (11, 1), (12, 1), (13, 1), (14, 1)] := .of (z := .agg #[.int .u8 0, .int .u8 0, .int .u32 0, .int .u32 0, .int .u32 0, .int .u16 0, .int .u16 0, .int .u16 0, .int .u16 0, .int .u32 0, .slice none 0 0, .slice none 0 0, .slice none 0 0, .slice none 0 0, .slice none 0 0]) (fs := (match Try.prog.underlying 43 with | some (.struct fs) => fs | _ => #[])) (by kernel_rfl) (by kernel_rfl) (by kernel_rfl) (by kernel_rfl) (by kernel_rfl)
instance : AL Try.prog 43 [.int .u8 0, .int .u8 0, .int .u32 0, .int .u32 0, .int .u32 0, .int .u16 0, .int .u16 0, .int .u16 0, .int .u16 0, .int .u32 0, .slice none 0 0, .slice none 0 0, .slice none 0 0, .slice none 0 0, .slice none 0 0] := ⟨by kernel_rfl⟩
instance : CT Try.prog 53 none := ⟨by kernel_rfl⟩
instance : SZ Try.prog 53 1 := ⟨by kernel_rfl⟩
theorem un54 : Try.prog.underlying 54 = some (.int .u8) := by kernel_rfl
instance : CT Try.prog 61 (some 3) := ⟨by kernel_rfl⟩
instance : SZ Try.prog 61 3 := ⟨by kernel_rfl⟩
instance : FO Try.prog 61 0 0 := ⟨by kernel_rfl⟩
instance : FO Try.prog 61 1 1 := ⟨by kernel_rfl⟩
instance : FO Try.prog 61 2 2 := ⟨by kernel_rfl⟩
instance : ST Try.prog 61 [.int .u16 0, .int .u8 0, .slice none 0 0] [(0, 1), (1, 1), (2, 1)] := .of (z := .agg #[.int .u16 0, .int .u8 0, .slice none 0 0]) (fs := (match Try.prog.underlying 61 with | some (.struct fs) => fs | _ => #[])) (by kernel_rfl) (by kernel_rfl) (by kernel_rfl) (by kernel_rfl) (by kernel_rfl)
instance : AL Try.prog 61 [.int .u16 0, .int .u8 0, .slice none 0 0] := ⟨by kernel_rfl⟩
instance : CT Try.prog 69 (some 2) := ⟨by kernel_rfl⟩
instance : SZ Try.prog 69 2 := ⟨by kernel_rfl⟩
instance : FO Try.prog 69 0 0 := ⟨by kernel_rfl⟩
instance : FO Try.prog 69 1 1 := ⟨by kernel_rfl⟩
instance : ST Try.prog 69 [.int .u16 0, .slice none 0 0] [(0, 1), (1, 1)] := .of (z := .agg #[.int .u16 0, .slice none 0 0]) (fs := (match Try.prog.underlying 69 with | some (.struct fs) => fs | _ => #[])) (by kernel_rfl) (by kernel_rfl) (by kernel_rfl) (by kernel_rfl) (by kernel_rfl)
instance : AL Try.prog 69 [.int .u16 0, .slice none 0 0] := ⟨by kernel_rfl⟩
instance : SZ Try.prog 73 2 := ⟨by kernel_rfl⟩
instance : FO Try.prog 73 0 0 := ⟨by kernel_rfl⟩
instance : FO Try.prog 73 1 1 := ⟨by kernel_rfl⟩
instance : ST Try.prog 73 [.slice none 0 0, .int .i64 0] [(0, 1), (1, 1)] := .of (z := .agg #[.slice none 0 0, .int .i64 0]) (fs := (match Try.prog.underlying 73 with | some (.struct fs) => fs | _ => #[])) (by kernel_rfl) (by kernel_rfl) (by kernel_rfl) (by kernel_rfl) (by kernel_rfl)
instance : CT Try.prog 78 (some 2) := ⟨by kernel_rfl⟩
instance : SZ Try.prog 78 2 := ⟨by kernel_rfl⟩
instance : FO Try.prog 78 0 0 := ⟨by kernel_rfl⟩
instance : FO Try.prog 78 1 1 := ⟨by kernel_rfl⟩
instance : ST Try.prog 78 [.int .u16 0, .int .u16 0] [(0, 1), (1, 1)] := .of (z := .agg #[.int .u16 0, .int .u16 0]) (fs := (match Try.prog.underlying 78 with | some (.struct fs) => fs | _ => #[])) (by kernel_rfl) (by kernel_rfl) (by kernel_rfl) (by kernel_rfl) (by kernel_rfl)
instance : AL Try.prog 78 [.int .u16 0, .int .u16 0] := ⟨by kernel_rfl⟩
instance : CT Try.prog 87 none := ⟨by kernel_rfl⟩
instance : SZ Try.prog 87 1 := ⟨by kernel_rfl⟩
instance : AL Try.prog 87 [.pointer none] := ⟨by kernel_rfl⟩
instance : SZ Try.prog 89 2 := ⟨by kernel_rfl⟩
instance : FO Try.prog 89 0 0 := ⟨by kernel_rfl⟩
instance : FO Try.prog 89 1 1 := ⟨by kernel_rfl⟩
instance : ST Try.prog 89 [.slice none 0 0, .bool false] [(0, 1), (1, 1)] := .of (z := .agg #[.slice none 0 0, .bool false]) (fs := (match Try.prog.underlying 89 with | some (.struct fs) => fs | _ => #[])) (by kernel_rfl) (by kernel_rfl) (by kernel_rfl) (by kernel_rfl) (by kernel_rfl)
instance : CT Try.prog 94 none := ⟨by kernel_rfl⟩
instance : SZ Try.prog 94 1 := ⟨by kernel_rfl⟩
instance : EL Try.prog 109 (none, 1) := ⟨by kernel_rfl⟩
instance : UN Try.prog 109 (.slice 22) := ⟨by kernel_rfl⟩
instance : BS Try.prog 109 22 1 (.int .u16 0) := .of (by kernel_rfl) (by kernel_rfl) (by kernel_rfl) (by kernel_rfl) (by kernel_rfl)
instance : EL Try.prog 111 (none, 1) := ⟨by kernel_rfl⟩
instance : UN Try.prog 111 (.slice 31) := ⟨by kernel_rfl⟩
instance : BS Try.prog 111 31 1 (.slice none 0 0) := .of (by kernel_rfl) (by kernel_rfl) (by kernel_rfl) (by kernel_rfl) (by kernel_rfl)
instance : CT Try.prog 116 none := ⟨by kernel_rfl⟩
instance : SZ Try.prog 116 1 := ⟨by kernel_rfl⟩
instance : AL Try.prog 116 [.nilFunc] := ⟨by kernel_rfl⟩
instance : SZ Try.prog 117 256 := ⟨by kernel_rfl⟩
instance : EL Try.prog 117 (some 256, 1) := ⟨by kernel_rfl⟩
instance : IC Try.prog 3 5 .u8 := .of un3 un5
instance : IC Try.prog 3 22 .u16 := .of un3 un22
instance : IC Try.prog 5 3 .i64 := .of un5 un3
instance : IC Try.prog 5 22 .u16 := .of un5 un22
instance : IC Try.prog 5 23 .u32 := .of un5 un23
instance : IC Try.prog 22 5 .u8 := .of un22 un5
instance : IC Try.prog 22 23 .u32 := .of un22 un23
instance : IC Try.prog 22 54 .u8 := .of un22 un54
instance : IC Try.prog 23 5 .u8 := .of un23 un5
instance : IC Try.prog 23 22 .u16 := .of un23 un22
instance : BY Try.prog 31 9 := ⟨⟨5, by kernel_rfl, by kernel_rfl⟩, by kernel_rfl⟩
theorem noGlobals : Try.prog.globals.size = 0 := by kernel_rfl
end Go.Proofs.Ytjpegoigipbmiaa
namespace Go.Proofs.Ytjpegoigipbmiaa
set_option maxRecDepth 100000
attribute [local irreducible] Go GoR GoL
theorem up_spec (n : Nat) (hn : n ≤ 1000000000) (h : AHeap) : CallS Try.prog [] 56 [.int .i64 n] h fun v h' => v = .int .i64 ((n + 3) / 4 * 4 : Nat) := by
  (refine CallS.of1 Try.func56 rfl Try.ntmps56 Try.results56 rfl ?_)
  (refine Go.run (g:=?_))
  refine GoR.binE _ rfl rfl rfl rfl rfl rfl (iAndNot3 (x := n + 3) (by omega)) ?_
  (refine Go.run (g:=?_))
  (first|refine Go.finT (by first|exact .inr rfl|exact .inl rfl) rfl ?_|refine Go.fin1 (by first|exact .inr rfl|exact .inl rfl) rfl (hq:=?_))
  rfl
abbrev tlvV (kind flags : Nat) (a : Option Addr) (len cap : Nat) : Value := .agg #[.int .u16 kind, .int .u8 flags, .slice a len cap]
theorem size_spec (kind flags : Nat) (a : Option Addr) (len cap : Nat) (hn : len ≤ 100000000) (h : AHeap) : CallS Try.prog [] 74 [tlvV kind flags a len cap] h fun v h' => v = .int .i64 ((len + 4 + 3) / 4 * 4 : Nat) := by
  (refine CallS.of1 Try.func74 rfl Try.ntmps74 Try.results74 rfl ?_)
  (refine Go.run (g:=?_))
  refine GoR.call rfl rfl rfl rfl rfl rfl rfl (((up_spec (len + 4) (by omega) _).argA).mono ?_)
  rintro _ h1 rfl s1
  (refine Go.run (g:=?_))
  (first|refine Go.finT (by first|exact .inr rfl|exact .inl rfl) rfl ?_|refine Go.fin1 (by first|exact .inr rfl|exact .inl rfl) rfl (hq:=?_))
  rfl
def OwnB (h h' : AHeap) (v : Value) (l : List UInt8) : Prop := ∃ b, v = .tuple #[.slice b l.length l.length, .int .i64 0] ∧ Sv h' 5 1 b l.length l.length (l.map bv) ∧ Own h.n b
set_option maxHeartbeats 4000000 in
theorem put_ok (chunk : Bool) (kind flags : Nat) (a : Option Addr) (cap : Nat) (h1 : chunk = true → kind ≤ 255) (h2 : chunk = false → flags = 0) (hf : flags < 256) (zs : List UInt8) (hk : zs.length ≤ 65531) (h : AHeap) (hz : Rv Try.prog h 1 a zs.length cap (zs.map bv)) : CallS Try.prog [] 45 [.bool chunk, tlvV kind flags a zs.length cap] h fun v h' => OwnB h h' v (tlvB chunk kind flags zs) := by
  generalize hlen : zs.length = len at *
  have hone : (zs.map bv).all Value.oneCell' = true := by simp [bv, Value.oneCell']
  cases chunk
  · have h2 := h2 rfl
    clear h1
    (refine CallS.of2 Try.func45 rfl Try.ntmps45 Try.results45 rfl ?_)
    (refine Go.run (g:=?_))
    refine GoR.call rfl rfl rfl rfl rfl rfl rfl (((size_spec kind flags a len cap (by omega) _).argA).mono ?_)
    rintro _ h1 rfl s1
    (have nn := (s1).1; try simp only [AHeap.n_push, AHeap.n_put] at nn)
    (refine Go.run (g:=?_))
    refine GoR.makeO rfl rfl rfl rfl rfl rfl rfl (by omega) (by omega) ?_
    intro b h2 hb ob s2 n2
    (refine Go.run (g:=?_))
    refine Go.loud (by kernel_rfl) rfl ?_
    (refine Go.runL (g:=?_))
    refine GoL.store1' rfl rfl rfl rfl rfl rfl (g:=?_)
    intro h3 hb3 k3 n3
    (refine Go.runL (g:=?_))
    refine GoL.store1' rfl rfl rfl rfl rfl rfl (g:=?_)
    intro h4 hb4 k4 n4
    (refine Go.runL (g:=?_))
    refine GoL.store1' rfl rfl rfl rfl rfl rfl (g:=?_)
    intro h5 hb5 k5 n5
    (refine Go.runL (g:=?_))
    refine GoL.store1' rfl rfl rfl rfl rfl rfl (g:=?_)
    intro h6 hb6 k6 n6
    (refine GoL.end_ (g:=?_))
    rw [set4 (by omega)] at hb6
    clear hb3 hb4 hb5
    have S6 : True → Same h h6 := fun _ => ((((((Same.refl h).push _).trans s1).trans s2).ownO k3 ob (by omega)).ownO k4 ob (by omega)).ownO k5 ob (by omega) |>.ownO k6 ob (by omega)
    (refine Go.run (g:=?_))
    refine Go.loud (by kernel_rfl) rfl ?_
    (refine Go.runL (g:=?_))
    refine GoL.sliceV (lo' := some (.int .i64 4)) (hi' := none) (l := 4) (r := (len + 4 + 3) / 4 * 4) rfl rfl rfl rfl rfl rfl rfl (Sv.rv hb6) rfl rfl (by omega) (by omega) ?_
    (refine Go.runL (g:=?_))
    refine GoL.copySub (kk := 4 * 1) (len' := (len + 4 + 3) / 4 * 4 - 4) (cap₂ := (len + 4 + 3) / 4 * 4 - 4) rfl rfl rfl rfl rfl rfl hb6 (by omega) (hz.same (S6 trivial)) (Own.ok ob (by omega)) hone ?_
    intro h7 rd wr hwr hrd hb7 k7 n7
    (refine GoL.end_ (g:=?_))
    (refine Go.run (g:=?_))
    (first|refine Go.finT (by first|exact .inr rfl|exact .inl rfl) rfl ?_|refine Go.fin1 (by first|exact .inr rfl|exact .inl rfl) rfl (hq:=?_))
    have hL : (tlvB false kind flags zs).length = (len + 4 + 3) / 4 * 4 := by rw [tlvB_length, hlen]
    refine ⟨b, by rw [hL]; rfl, ?_, ob.mono (by omega)⟩
    rw [hL]
    have e : min len ((len + 4 + 3) / 4 * 4 - 4) = zs.length := by omega
    rw [e, List.take_of_length_le (by simp)] at hb7
    have e2 := put_bytes (UInt8.ofNat (kind / 256)) (UInt8.ofNat kind) (UInt8.ofNat ((4 + zs.length) / 256)) (UInt8.ofNat (4 + zs.length)) zs (L := (len + 4 + 3) / 4 * 4) (by omega)
    simp only [bv_ofNat] at e2
    rw [hlen] at e2
    have e3 : setL ([Value.int .u8 ((kind / 2 ^ 8 % 256 : Nat) : Int), .int .u8 ((kind % 256 : Nat) : Int), .int .u8 (((4 + len) / 2 ^ 8 % 256 : Nat) : Int), .int .u8 (((4 + len) % 256 : Nat) : Int)] ++ List.replicate ((len + 4 + 3) / 4 * 4 - 4) (Value.int .u8 0)) (4 * 1) (zs.map bv) = (tlvB false kind flags zs).map bv := by
      unfold tlvB
      rw [hlen]
      exact e2
    rw [e3] at hb7
    exact hb7
  · have h1 := h1 rfl
    clear h2
    (refine CallS.of2 Try.func45 rfl Try.ntmps45 Try.results45 rfl ?_)
    (refine Go.run (g:=?_))
    refine GoR.call rfl rfl rfl rfl rfl rfl rfl (((size_spec kind flags a len cap (by omega) _).argA).mono ?_)
    rintro _ h1 rfl s1
    (have nn := (s1).1; try simp only [AHeap.n_push, AHeap.n_put] at nn)
    (refine Go.run (g:=?_))
    refine GoR.makeO rfl rfl rfl rfl rfl rfl rfl (by omega) (by omega) ?_
    intro b h2 hb ob s2 n2
    (refine Go.run (g:=?_))
    refine Go.loud (by kernel_rfl) rfl ?_
    (refine Go.runL (g:=?_))
    refine GoL.store1' rfl rfl rfl rfl rfl rfl (g:=?_)
    intro h3 hb3 k3 n3
    (refine Go.runL (g:=?_))
    refine GoL.store1' rfl rfl rfl rfl rfl rfl (g:=?_)
    intro h4 hb4 k4 n4
    (refine Go.runL (g:=?_))
    refine GoL.store1' rfl rfl rfl rfl rfl rfl (g:=?_)
    intro h5 hb5 k5 n5
    (refine Go.runL (g:=?_))
    refine GoL.store1' rfl rfl rfl rfl rfl rfl (g:=?_)
    intro h6 hb6 k6 n6
    (refine GoL.end_ (g:=?_))
    rw [set4 (by omega)] at hb6
    clear hb3 hb4 hb5
    have S6 : True → Same h h6 := fun _ => ((((((Same.refl h).push _).trans s1).trans s2).ownO k3 ob (by omega)).ownO k4 ob (by omega)).ownO k5 ob (by omega) |>.ownO k6 ob (by omega)
    (refine Go.run (g:=?_))
    refine Go.loud (by kernel_rfl) rfl ?_
    (refine Go.runL (g:=?_))
    refine GoL.store1' rfl rfl rfl rfl rfl rfl (g:=?_)
    intro h8 hb8 k8 n8
    (refine Go.runL (g:=?_))
    refine GoL.store1' rfl rfl rfl rfl rfl rfl (g:=?_)
    intro h9 hb9 k9 n9
    (refine GoL.end_ (g:=?_))
    have S9 : True → Same h h9 := fun _ => ((S6 trivial).ownO k8 ob (by omega)).ownO k9 ob (by omega)
    clear hb8
    (refine Go.run (g:=?_))
    refine Go.loud (by kernel_rfl) rfl ?_
    (refine Go.runL (g:=?_))
    refine GoL.sliceV (lo' := some (.int .i64 4)) (hi' := none) (l := 4) (r := (len + 4 + 3) / 4 * 4) rfl rfl rfl rfl rfl rfl rfl (Sv.rv hb9) rfl rfl (by omega) (by omega) ?_
    (refine Go.runL (g:=?_))
    refine GoL.copySub (kk := 4 * 1) (len' := (len + 4 + 3) / 4 * 4 - 4) (cap₂ := (len + 4 + 3) / 4 * 4 - 4) rfl rfl rfl rfl rfl rfl hb9 (by omega) (hz.same (S9 trivial)) (Own.ok ob (by omega)) hone ?_
    intro h7 rd wr hwr hrd hb7 k7 n7
    (refine GoL.end_ (g:=?_))
    (refine Go.run (g:=?_))
    (first|refine Go.finT (by first|exact .inr rfl|exact .inl rfl) rfl ?_|refine Go.fin1 (by first|exact .inr rfl|exact .inl rfl) rfl (hq:=?_))
    have hL : (tlvB true kind flags zs).length = (len + 4 + 3) / 4 * 4 := by rw [tlvB_length, hlen]
    refine ⟨b, by rw [hL]; rfl, ?_, ob.mono (by omega)⟩
    rw [hL]
    have e : min len ((len + 4 + 3) / 4 * 4 - 4) = zs.length := by omega
    rw [e, List.take_of_length_le (by simp)] at hb7
    have e2 := put_bytes (UInt8.ofNat kind) (UInt8.ofNat flags) (UInt8.ofNat ((4 + zs.length) / 256)) (UInt8.ofNat (4 + zs.length)) zs (L := (len + 4 + 3) / 4 * 4) (by omega)
    simp only [bv_ofNat] at e2
    rw [hlen, Nat.mod_eq_of_lt hf] at e2
    have e3 : setL ((([Value.int .u8 ((kind / 2 ^ 8 % 256 : Nat) : Int), .int .u8 ((kind % 256 : Nat) : Int), .int .u8 (((4 + len) / 2 ^ 8 % 256 : Nat) : Int), .int .u8 (((4 + len) % 256 : Nat) : Int)] ++ List.replicate ((len + 4 + 3) / 4 * 4 - 4) (Value.int .u8 0)).set 0 (.int .u8 ((kind % 256 : Nat) : Int))).set 1 (.int .u8 (flags : Int))) (4 * 1) (zs.map bv) = (tlvB true kind flags zs).map bv := by
      unfold tlvB
      rw [hlen]
      exact e2
    rw [e3] at hb7
    exact hb7
end Go.Proofs.Ytjpegoigipbmiaa
namespace Go.Proofs.Ytjpegoigipbmiaa
open Go.RowKit
set_option maxRecDepth 100000
attribute [local irreducible] Go GoR GoL
def kn (k : Nat) : Bool := decide (k ≤ 11) || decide (k = 14)
theorem kknown_spec (k : Nat) (h : AHeap) : CallS Try.prog [] 20 [.int .u8 k] h fun v h' => v = .bool (kn k) ∧ h' = h := by
  by_cases c1 : k ≤ 11
  · (refine CallS.of1 Try.func20 rfl Try.ntmps20 Try.results20 rfl ?_)
    (refine Go.run (g:=?_))
    (first|refine Go.finT (by first|exact .inr rfl|exact .inl rfl) rfl ?_|refine Go.fin1 (by first|exact .inr rfl|exact .inl rfl) rfl (hq:=?_))
    exact ⟨by simp [retV, kn, c1], rfl⟩
  · by_cases c2 : k = 14
    · subst c2
      (refine CallS.of1 Try.func20 rfl Try.ntmps20 Try.results20 rfl ?_)
      (refine Go.run (g:=?_))
      (first|refine Go.finT (by first|exact .inr rfl|exact .inl rfl) rfl ?_|refine Go.fin1 (by first|exact .inr rfl|exact .inl rfl) rfl (hq:=?_))
      exact ⟨by simp [retV, kn], rfl⟩
    · have c3 : ¬ (k : Int) = 14 := by omega
      (refine CallS.of1 Try.func20 rfl Try.ntmps20 Try.results20 rfl ?_)
      (refine Go.run (g:=?_))
      (first|refine Go.finT (by first|exact .inr rfl|exact .inl rfl) rfl ?_|refine Go.fin1 (by first|exact .inr rfl|exact .inl rfl) rfl (hq:=?_))
      exact ⟨by simp [retV, kn, c1, c2, c3], rfl⟩
theorem skips_spec (k : Nat) (hk : k < 256) (h : AHeap) : CallS Try.prog [] 21 [.int .u8 k] h fun v h' => v = .bool (!kn k && decide (128 ≤ k)) ∧ h' = h := by
  (refine CallS.of1 Try.func21 rfl Try.ntmps21 Try.results21 rfl ?_)
  (refine Go.run (g:=?_))
  refine GoR.call rfl rfl rfl rfl rfl rfl rfl (((kknown_spec k _).argA).mono ?_)
  rintro _ h ⟨rfl, rfl⟩ -
  cases kn k
  · (refine Go.run (g:=?_))
    (first|refine Go.finT (by first|exact .inr rfl|exact .inl rfl) rfl ?_|refine Go.fin1 (by first|exact .inr rfl|exact .inl rfl) rfl (hq:=?_))
    refine ⟨?_, rfl⟩
    by_cases c : 128 ≤ k
    · have : k / 2 ^ 7 = 1 := by omega
      simp [retV, c]; omega
    · simp [retV, c]; omega
  · (refine Go.run (g:=?_))
    (first|refine Go.finT (by first|exact .inr rfl|exact .inl rfl) rfl ?_|refine Go.fin1 (by first|exact .inr rfl|exact .inl rfl) rfl (hq:=?_))
    exact ⟨rfl, rfl⟩
end Go.Proofs.Ytjpegoigipbmiaa
namespace Go.Proofs.Ytjpegoigipbmiaa
set_option maxRecDepth 100000
attribute [local irreducible] Go GoR GoL
structure Sl where
  a : Option Addr
  n : Nat
  cap : Nat
structure Ck where
  k : Nat
  f : Nat
  tag : Nat
  rwnd : Nat
  tsn : Nat
  out : Nat
  inn : Nat
  sid : Nat
  ssn : Nat
  ppid : Nat
  D : Sl
  A : Sl
  G : Sl
  U : Sl
  C : Sl
abbrev Ck.cs (c : Ck) : List Value := [.int .u8 c.k, .int .u8 c.f, .int .u32 c.tag, .int .u32 c.rwnd, .int .u32 c.tsn, .int .u16 c.out, .int .u16 c.inn, .int .u16 c.sid, .int .u16 c.ssn, .int .u32 c.ppid, .slice c.D.a c.D.n c.D.cap, .slice c.A.a c.A.n c.A.cap, .slice c.G.a c.G.n c.G.cap, .slice c.U.a c.U.n c.U.cap, .slice c.C.a c.C.n c.C.cap]
abbrev Ck.v (c : Ck) : Value := .agg #[.int .u8 c.k, .int .u8 c.f, .int .u32 c.tag, .int .u32 c.rwnd, .int .u32 c.tsn, .int .u16 c.out, .int .u16 c.inn, .int .u16 c.sid, .int .u16 c.ssn, .int .u32 c.ppid, .slice c.D.a c.D.n c.D.cap, .slice c.A.a c.A.n c.A.cap, .slice c.G.a c.G.n c.G.cap, .slice c.U.a c.U.n c.U.cap, .slice c.C.a c.C.n c.C.cap]
def Sl.nil : Sl := ⟨none, 0, 0⟩
def Ck.none (k : Nat) : Ck := ⟨k, 0, 0, 0, 0, 0, 0, 0, 0, 0, .nil, .nil, .nil, .nil, .nil⟩
def cl (c : Ck) : Ck :=
  match c.k with
  | 0 => { Ck.none c.k with f := c.f &&& 7, tsn := c.tsn, sid := c.sid, ssn := c.ssn, ppid := c.ppid, D := c.D }
  | 1 => { Ck.none c.k with tag := c.tag, rwnd := c.rwnd, out := c.out, inn := c.inn, tsn := c.tsn, A := c.A }
  | 2 => { Ck.none c.k with tag := c.tag, rwnd := c.rwnd, out := c.out, inn := c.inn, tsn := c.tsn, A := c.A, D := c.D }
  | 3 => { Ck.none c.k with tsn := c.tsn, rwnd := c.rwnd, G := c.G, U := c.U }
  | 4 => { Ck.none c.k with D := c.D }
  | 5 => { Ck.none c.k with D := c.D }
  | 10 => { Ck.none c.k with D := c.D }
  | 6 => { Ck.none c.k with f := c.f &&& 1, C := c.C }
  | 9 => { Ck.none c.k with C := c.C }
  | 7 => { Ck.none c.k with tsn := c.tsn }
  | 14 => { Ck.none c.k with f := c.f &&& 1 }
  | 8 => Ck.none c.k
  | 11 => Ck.none c.k
  | _ => { Ck.none c.k with f := c.f, D := c.D }
theorem cl_else {c : Ck} (h1 : 11 < c.k) (h2 : c.k ≠ 14) : cl c = { Ck.none c.k with f := c.f, D := c.D } := by
  unfold cl
  split <;> first | rfl | omega
set_option maxHeartbeats 16000000 in
theorem clean_spec (c : Ck) (hf : c.f < 256) (h : AHeap) : CallS Try.prog [] 73 [c.v] h fun v h' => v = (cl c).v := by
  unfold Ck.v
  (refine CallS.of1 Try.func73 rfl Try.ntmps73 Try.results73 rfl ?_)
  (iterate 12 (first|refine GoR.end ?_|(refine GoR.gd rfl ?_;first|refine GoR.wanted' rfl rfl rfl rfl (g:=?_)|refine GoR.unwanted' rfl rfl rfl rfl (hd:=rfl) (hN:=rfl) (g:=?_)|refine GoR.unwantedU rfl rfl rfl rfl rfl rfl ?_)|(refine GoR.kk 0 rfl ?_;first|refine GoR.move rfl rfl rfl rfl rfl ?_|refine GoR.assign rfl rfl rfl rfl rfl ?_)|(refine GoR.kk 1 rfl ?_;first|refine GoR.load' rfl rfl rfl rfl rfl (g:=?_)|refine GoR.loadA' rfl rfl rfl rfl rfl (hv:=rfl) (g:=?_)|refine GoR.loadV' rfl rfl rfl rfl rfl (g:=?_)|refine GoR.loadVN' rfl rfl rfl rfl rfl (g:=?_))|(refine GoR.kk 2 rfl ?_;first|refine GoR.store' rfl rfl rfl rfl rfl (hl:=rfl) (h1:=rfl) (h3:=rfl) (g:=?_))|(refine GoR.kk 3 rfl ?_;first|refine GoR.fieldAddr rfl rfl rfl rfl rfl ?_|refine GoR.indexN' rfl rfl rfl rfl rfl rfl (g:=?_)|refine GoR.indexNs' rfl rfl rfl rfl rfl rfl (g:=?_)|refine GoR.indexV' rfl rfl rfl rfl rfl rfl (g:=?_)|refine GoR.indexA' rfl rfl rfl rfl rfl rfl (g:=?_)|refine GoR.fieldV' rfl rfl rfl rfl rfl (g:=?_))|(refine GoR.kk 4 rfl ?_;first|refine GoR.eq rfl rfl rfl rfl rfl rfl ?_|refine GoR.ne rfl rfl rfl rfl rfl rfl ?_|refine GoR.lt rfl rfl rfl rfl rfl rfl ?_|refine GoR.le rfl rfl rfl rfl rfl rfl ?_|refine GoR.gt rfl rfl rfl rfl rfl rfl ?_|refine GoR.ge rfl rfl rfl rfl rfl rfl ?_|refine GoR.addN' rfl rfl rfl rfl rfl rfl (g:=?_)|refine GoR.subN' rfl rfl rfl rfl rfl rfl (g:=?_)|refine GoR.add' rfl rfl rfl rfl rfl rfl (g:=?_)|refine GoR.sub' rfl rfl rfl rfl rfl rfl (g:=?_)|refine GoR.addM' rfl rfl rfl rfl rfl rfl (g:=?_)|refine GoR.subM' rfl rfl rfl rfl rfl rfl (g:=?_)|refine GoR.mulM' rfl rfl rfl rfl rfl rfl (g:=?_)|refine GoR.shrN rfl rfl rfl rfl rfl rfl rfl ?_|refine GoR.structEq rfl rfl rfl rfl rfl rfl (by rfl) (by rfl) ?_|refine GoR.structNe rfl rfl rfl rfl rfl rfl (by rfl) (by rfl) ?_|refine GoR.strEq rfl rfl rfl rfl rfl rfl ?_|refine GoR.strNe rfl rfl rfl rfl rfl rfl ?_|refine GoR.remN' rfl rfl rfl rfl rfl rfl (g:=?_)|refine GoR.quoN' rfl rfl rfl rfl rfl rfl (g:=?_)|refine GoR.shlN' rfl rfl rfl rfl rfl rfl rfl (g:=?_)|refine GoR.orN' rfl rfl rfl rfl rfl rfl (g:=?_))|(refine GoR.kk 5 rfl ?_;first|refine GoR.len rfl rfl rfl rfl rfl ?_|refine GoR.lenStr rfl rfl rfl rfl rfl ?_|refine GoR.capB rfl rfl rfl rfl rfl ?_)|(refine GoR.kk 7 rfl ?_;first|refine GoR.pickE' rfl rfl rfl rfl rfl (hx:=rfl) (hy:=rfl) (g:=?_)|refine GoR.pickN' rfl rfl rfl rfl rfl (hx:=rfl) (hy:=rfl) (g:=?_)|refine GoR.pickB rfl rfl rfl rfl rfl rfl rfl ?_)|(refine GoR.kk 8 rfl ?_;first|refine GoR.boxA rfl rfl rfl rfl rfl ?_|refine GoR.boxS rfl rfl rfl rfl rfl rfl ?_|refine GoR.alloc rfl rfl rfl rfl ?_)|(refine GoR.kk 9 rfl ?_;first|refine GoR.strV' rfl rfl rfl rfl rfl (g:=?_)|refine GoR.conv_u8 rfl rfl rfl rfl rfl ?_|refine GoR.convW' rfl rfl rfl rfl rfl (g:=?_)|refine GoR.conv_u16 rfl rfl rfl rfl rfl ?_|refine GoR.conv_u32 rfl rfl rfl rfl rfl ?_)|(refine GoR.kk 10 rfl ?_;first|refine GoR.build' rfl rfl rfl rfl rfl rfl (g:=?_))|(refine GoR.kk 11 rfl ?_;first|refine GoR.extract rfl rfl rfl rfl rfl rfl ?_|refine GoR.not rfl rfl rfl rfl rfl ?_|refine GoR.nilCheck rfl rfl rfl rfl rfl ?_|refine GoR.nilCheckF rfl rfl rfl rfl rfl ?_|refine GoR.makeFunc rfl rfl rfl rfl rfl rfl ?_)|(refine Go.kk 0 rfl ?_;refine Go.seq ?_)|(refine Go.kk 1 rfl ?_;refine Go.region (by kernel_rfl) rfl ?_)|(refine Go.kk 2 rfl ?_;refine Go.drawnQ rfl (by kernel_rfl) rfl ?_)|(refine Go.kk 3 rfl ?_;first|refine Go.cond_t' rfl (g:=?_)|refine Go.cond_f' rfl (g:=?_))|(refine Go.kk 4 rfl ?_;refine Go.block ?_)|(refine Go.kk 5 rfl ?_;first|refine Go.skip ?_|refine Go.ret ?_|refine Go.exit ?_|refine Go.scope ?_)|refine Go.leave_normal ?_|refine Go.leave_same ?_|refine Go.leave_ret ?_|refine Go.ret_code ?_|refine Go.exit_code ?_|refine Go.leave_other rfl ?_|refine Go.sc_normal ?_|refine Go.sc_ret ?_|refine Go.sc_exit ?_|refine Go.exit_back ?_|refine Go.ret_back ?_))
  simp only [AHeap.n_push, AHeap.n_put]
  refine GoR.name ?_
  intro h3 e3
  have G0 : h3.get h.n = some (.cells c.cs 43) := by
    subst e3
    rw [AHeap.get_put_ne _ _ (by omega), AHeap.get_push_ne _ _ (by simp; omega), AHeap.get_push_ne _ _ (by simp), AHeap.get_push_same]
  have G2 : h3.get (h.n + 1 + 1) = some (.cells [.int .u8 c.k, .int .u8 0, .int .u32 0, .int .u32 0, .int .u32 0, .int .u16 0, .int .u16 0, .int .u16 0, .int .u16 0, .int .u32 0, .slice none 0 0, .slice none 0 0, .slice none 0 0, .slice none 0 0, .slice none 0 0] 43) := by
    subst e3
    exact AHeap.get_put_same _ (by simp) _
  have G1 : h3.get (h.n + 1) = some (.cells [.int .u8 0, .int .u8 0, .int .u32 0, .int .u32 0, .int .u32 0, .int .u16 0, .int .u16 0, .int .u16 0, .int .u16 0, .int .u32 0, .slice none 0 0, .slice none 0 0, .slice none 0 0, .slice none 0 0, .slice none 0 0] 43) := by
    subst e3
    rw [AHeap.get_put_ne _ _ (by omega), AHeap.get_push_ne _ _ (by simp)]
    exact AHeap.get_push_same (h.push _) _
  have n3 : h3.n = h.n + 3 := by subst e3; rfl
  have S3 : Same h h3 := by subst e3; exact ((((Same.refl h).push _).push _).push _).put (by omega) _
  clear e3
  unfold Ck.cs at G0
  rcases (show c.k = 0 ∨ c.k = 1 ∨ c.k = 2 ∨ c.k = 3 ∨ c.k = 4 ∨ c.k = 5 ∨ c.k = 6 ∨ c.k = 7 ∨ c.k = 8 ∨ c.k = 9 ∨ c.k = 10 ∨ c.k = 11 ∨ c.k = 14 ∨ (11 < c.k ∧ c.k ≠ 14) by omega) with hk | hk | hk | hk | hk | hk | hk | hk | hk | hk | hk | hk | hk | ⟨h1, h2⟩
  · rw [show cl c = { Ck.none c.k with f := c.f &&& 7, tsn := c.tsn, sid := c.sid, ssn := c.ssn, ppid := c.ppid, D := c.D } from by unfold cl; split <;> first | rfl | omega | contradiction | (simp_all; done)]
    unfold Ck.none Sl.nil
    (refine Go.run (g:=?_))
    refine GoR.andN (j := 7) rfl rfl rfl rfl rfl rfl (by simp [IntKind.bits, IntKind.signed]; omega) (by simp [IntKind.bits, IntKind.signed]) ?_
    (refine Go.run (g:=?_))
    refine Go.loud (by kernel_rfl) rfl ?_
    (refine Go.runL (g:=?_))
    refine GoL.store' rfl rfl rfl rfl rfl (hl:=rfl) (h1:=rfl) (h3:=rfl) (g:=?_)
    (refine Go.runL (g:=?_))
    refine GoL.store' rfl rfl rfl rfl rfl (hl:=rfl) (h1:=rfl) (h3:=rfl) (g:=?_)
    (refine Go.runL (g:=?_))
    refine GoL.store' rfl rfl rfl rfl rfl (hl:=rfl) (h1:=rfl) (h3:=rfl) (g:=?_)
    (refine Go.runL (g:=?_))
    refine GoL.store' rfl rfl rfl rfl rfl (hl:=rfl) (h1:=rfl) (h3:=rfl) (g:=?_)
    (refine Go.runL (g:=?_))
    refine GoL.store' rfl rfl rfl rfl rfl (hl:=rfl) (h1:=rfl) (h3:=rfl) (g:=?_)
    refine GoL.end_ (hl := by (simp only [List.nil_append, List.cons_append]); repeat (first | exact loudP.nil | refine loudP.none ?_ | refine loudP.new (fun _ hb => absurd hb List.not_mem_nil) ?_ | refine loudP.row (by repeat (first | exact loudRowP.nil | refine loudRowP.none ?_ | refine loudRowP.bef (by decide +kernel) ?_ | refine loudRowP.apart (by first | exact .inl rfl | exact .inr (by simp)) rfl (by intro i hi; simp only [List.mem_singleton] at hi; subst hi; simp; omega) ?_)) ?_)) ?_
    (refine Go.run (g:=?_))
    refine Go.fin (by first|exact .inr rfl|exact .inl rfl) (.cellN (b := h.n + 1) (off := 0) rfl inferInstance (by (first | assumption | exact AHeap.get_push_same _ _ | ((repeat first | exact AHeap.get_push_same _ _ | assumption | refine get_push_lt ?_ | exact AHeap.get_put_same _ (by first | omega | (simp only [AHeap.n_push, AHeap.n_put]; omega)) _ | exact get_put_self (by assumption) | apply get_put_self | refine get_put_other (by first | omega | (simp only [AHeap.n_push, AHeap.n_put]; omega)) ?_ | refine Same.get (by assumption) ?_ | refine Keeps.get (by assumption) ?_ (fun hi => by have hx := Own.out (by assumption) hi; omega)) ; fail_if_success focus skip) | fail)) (by first | exact Nat.le_refl _ | (simp [setL, cellsL]; fail_if_success focus skip) | (simp; omega)) rfl .nil) ?_
    rfl
  · rw [show cl c = { Ck.none c.k with tag := c.tag, rwnd := c.rwnd, out := c.out, inn := c.inn, tsn := c.tsn, A := c.A } from by unfold cl; split <;> first | rfl | omega | contradiction | (simp_all; done)]
    unfold Ck.none Sl.nil
    (refine Go.run (g:=?_))
    refine Go.loud (by kernel_rfl) rfl ?_
    (refine Go.runL (g:=?_))
    refine GoL.store' rfl rfl rfl rfl rfl (hl:=rfl) (h1:=rfl) (h3:=rfl) (g:=?_)
    (refine Go.runL (g:=?_))
    refine GoL.store' rfl rfl rfl rfl rfl (hl:=rfl) (h1:=rfl) (h3:=rfl) (g:=?_)
    (refine Go.runL (g:=?_))
    refine GoL.store' rfl rfl rfl rfl rfl (hl:=rfl) (h1:=rfl) (h3:=rfl) (g:=?_)
    (refine Go.runL (g:=?_))
    refine GoL.store' rfl rfl rfl rfl rfl (hl:=rfl) (h1:=rfl) (h3:=rfl) (g:=?_)
    (refine Go.runL (g:=?_))
    refine GoL.store' rfl rfl rfl rfl rfl (hl:=rfl) (h1:=rfl) (h3:=rfl) (g:=?_)
    (refine Go.runL (g:=?_))
    refine GoL.store' rfl rfl rfl rfl rfl (hl:=rfl) (h1:=rfl) (h3:=rfl) (g:=?_)
    refine GoL.end_ (hl := by (simp only [List.nil_append, List.cons_append]); repeat (first | exact loudP.nil | refine loudP.none ?_ | refine loudP.new (fun _ hb => absurd hb List.not_mem_nil) ?_ | refine loudP.row (by repeat (first | exact loudRowP.nil | refine loudRowP.none ?_ | refine loudRowP.bef (by decide +kernel) ?_ | refine loudRowP.apart (by first | exact .inl rfl | exact .inr (by simp)) rfl (by intro i hi; simp only [List.mem_singleton] at hi; subst hi; simp; omega) ?_)) ?_)) ?_
    (refine Go.run (g:=?_))
    refine Go.fin (by first|exact .inr rfl|exact .inl rfl) (.cellN (b := h.n + 1) (off := 0) rfl inferInstance (by (first | assumption | exact AHeap.get_push_same _ _ | ((repeat first | exact AHeap.get_push_same _ _ | assumption | refine get_push_lt ?_ | exact AHeap.get_put_same _ (by first | omega | (simp only [AHeap.n_push, AHeap.n_put]; omega)) _ | exact get_put_self (by assumption) | apply get_put_self | refine get_put_other (by first | omega | (simp only [AHeap.n_push, AHeap.n_put]; omega)) ?_ | refine Same.get (by assumption) ?_ | refine Keeps.get (by assumption) ?_ (fun hi => by have hx := Own.out (by assumption) hi; omega)) ; fail_if_success focus skip) | fail)) (by first | exact Nat.le_refl _ | (simp [setL, cellsL]; fail_if_success focus skip) | (simp; omega)) rfl .nil) ?_
    rfl
  · rw [show cl c = { Ck.none c.k with tag := c.tag, rwnd := c.rwnd, out := c.out, inn := c.inn, tsn := c.tsn, A := c.A, D := c.D } from by unfold cl; split <;> first | rfl | omega | contradiction | (simp_all; done)]
    unfold Ck.none Sl.nil
    (refine Go.run (g:=?_))
    refine Go.loud (by kernel_rfl) rfl ?_
    (refine Go.runL (g:=?_))
    refine GoL.store' rfl rfl rfl rfl rfl (hl:=rfl) (h1:=rfl) (h3:=rfl) (g:=?_)
    (refine Go.runL (g:=?_))
    refine GoL.store' rfl rfl rfl rfl rfl (hl:=rfl) (h1:=rfl) (h3:=rfl) (g:=?_)
    (refine Go.runL (g:=?_))
    refine GoL.store' rfl rfl rfl rfl rfl (hl:=rfl) (h1:=rfl) (h3:=rfl) (g:=?_)
    (refine Go.runL (g:=?_))
    refine GoL.store' rfl rfl rfl rfl rfl (hl:=rfl) (h1:=rfl) (h3:=rfl) (g:=?_)
    (refine Go.runL (g:=?_))
    refine GoL.store' rfl rfl rfl rfl rfl (hl:=rfl) (h1:=rfl) (h3:=rfl) (g:=?_)
    (refine Go.runL (g:=?_))
    refine GoL.store' rfl rfl rfl rfl rfl (hl:=rfl) (h1:=rfl) (h3:=rfl) (g:=?_)
    refine GoL.end_ (hl := by (simp only [List.nil_append, List.cons_append]); repeat (first | exact loudP.nil | refine loudP.none ?_ | refine loudP.new (fun _ hb => absurd hb List.not_mem_nil) ?_ | refine loudP.row (by repeat (first | exact loudRowP.nil | refine loudRowP.none ?_ | refine loudRowP.bef (by decide +kernel) ?_ | refine loudRowP.apart (by first | exact .inl rfl | exact .inr (by simp)) rfl (by intro i hi; simp only [List.mem_singleton] at hi; subst hi; simp; omega) ?_)) ?_)) ?_
    (refine Go.run (g:=?_))
    refine Go.fin (by first|exact .inr rfl|exact .inl rfl) (.cellN (b := h.n + 1) (off := 0) rfl inferInstance (by (first | assumption | exact AHeap.get_push_same _ _ | ((repeat first | exact AHeap.get_push_same _ _ | assumption | refine get_push_lt ?_ | exact AHeap.get_put_same _ (by first | omega | (simp only [AHeap.n_push, AHeap.n_put]; omega)) _ | exact get_put_self (by assumption) | apply get_put_self | refine get_put_other (by first | omega | (simp only [AHeap.n_push, AHeap.n_put]; omega)) ?_ | refine Same.get (by assumption) ?_ | refine Keeps.get (by assumption) ?_ (fun hi => by have hx := Own.out (by assumption) hi; omega)) ; fail_if_success focus skip) | fail)) (by first | exact Nat.le_refl _ | (simp [setL, cellsL]; fail_if_success focus skip) | (simp; omega)) rfl .nil) ?_
    rfl
  · rw [show cl c = { Ck.none c.k with tsn := c.tsn, rwnd := c.rwnd, G := c.G, U := c.U } from by unfold cl; split <;> first | rfl | omega | contradiction | (simp_all; done)]
    unfold Ck.none Sl.nil
    (refine Go.run (g:=?_))
    refine Go.loud (by kernel_rfl) rfl ?_
    (refine Go.runL (g:=?_))
    refine GoL.store' rfl rfl rfl rfl rfl (hl:=rfl) (h1:=rfl) (h3:=rfl) (g:=?_)
    (refine Go.runL (g:=?_))
    refine GoL.store' rfl rfl rfl rfl rfl (hl:=rfl) (h1:=rfl) (h3:=rfl) (g:=?_)
    (refine Go.runL (g:=?_))
    refine GoL.store' rfl rfl rfl rfl rfl (hl:=rfl) (h1:=rfl) (h3:=rfl) (g:=?_)
    (refine Go.runL (g:=?_))
    refine GoL.store' rfl rfl rfl rfl rfl (hl:=rfl) (h1:=rfl) (h3:=rfl) (g:=?_)
    refine GoL.end_ (hl := by (simp only [List.nil_append, List.cons_append]); repeat (first | exact loudP.nil | refine loudP.none ?_ | refine loudP.new (fun _ hb => absurd hb List.not_mem_nil) ?_ | refine loudP.row (by repeat (first | exact loudRowP.nil | refine loudRowP.none ?_ | refine loudRowP.bef (by decide +kernel) ?_ | refine loudRowP.apart (by first | exact .inl rfl | exact .inr (by simp)) rfl (by intro i hi; simp only [List.mem_singleton] at hi; subst hi; simp; omega) ?_)) ?_)) ?_
    (refine Go.run (g:=?_))
    refine Go.fin (by first|exact .inr rfl|exact .inl rfl) (.cellN (b := h.n + 1) (off := 0) rfl inferInstance (by (first | assumption | exact AHeap.get_push_same _ _ | ((repeat first | exact AHeap.get_push_same _ _ | assumption | refine get_push_lt ?_ | exact AHeap.get_put_same _ (by first | omega | (simp only [AHeap.n_push, AHeap.n_put]; omega)) _ | exact get_put_self (by assumption) | apply get_put_self | refine get_put_other (by first | omega | (simp only [AHeap.n_push, AHeap.n_put]; omega)) ?_ | refine Same.get (by assumption) ?_ | refine Keeps.get (by assumption) ?_ (fun hi => by have hx := Own.out (by assumption) hi; omega)) ; fail_if_success focus skip) | fail)) (by first | exact Nat.le_refl _ | (simp [setL, cellsL]; fail_if_success focus skip) | (simp; omega)) rfl .nil) ?_
    rfl
  · rw [show cl c = { Ck.none c.k with D := c.D } from by unfold cl; split <;> first | rfl | omega | contradiction | (simp_all; done)]
    unfold Ck.none Sl.nil
    (refine Go.run (g:=?_))
    refine Go.fin (by first|exact .inr rfl|exact .inl rfl) (.cellN (b := h.n + 1) (off := 0) rfl inferInstance (by (first | assumption | exact AHeap.get_push_same _ _ | ((repeat first | exact AHeap.get_push_same _ _ | assumption | refine get_push_lt ?_ | exact AHeap.get_put_same _ (by first | omega | (simp only [AHeap.n_push, AHeap.n_put]; omega)) _ | exact get_put_self (by assumption) | apply get_put_self | refine get_put_other (by first | omega | (simp only [AHeap.n_push, AHeap.n_put]; omega)) ?_ | refine Same.get (by assumption) ?_ | refine Keeps.get (by assumption) ?_ (fun hi => by have hx := Own.out (by assumption) hi; omega)) ; fail_if_success focus skip) | fail)) (by first | exact Nat.le_refl _ | (simp [setL, cellsL]; fail_if_success focus skip) | (simp; omega)) rfl .nil) ?_
    rfl
  · rw [show cl c = { Ck.none c.k with D := c.D } from by unfold cl; split <;> first | rfl | omega | contradiction | (simp_all; done)]
    unfold Ck.none Sl.nil
    (refine Go.run (g:=?_))
    refine Go.fin (by first|exact .inr rfl|exact .inl rfl) (.cellN (b := h.n + 1) (off := 0) rfl inferInstance (by (first | assumption | exact AHeap.get_push_same _ _ | ((repeat first | exact AHeap.get_push_same _ _ | assumption | refine get_push_lt ?_ | exact AHeap.get_put_same _ (by first | omega | (simp only [AHeap.n_push, AHeap.n_put]; omega)) _ | exact get_put_self (by assumption) | apply get_put_self | refine get_put_other (by first | omega | (simp only [AHeap.n_push, AHeap.n_put]; omega)) ?_ | refine Same.get (by assumption) ?_ | refine Keeps.get (by assumption) ?_ (fun hi => by have hx := Own.out (by assumption) hi; omega)) ; fail_if_success focus skip) | fail)) (by first | exact Nat.le_refl _ | (simp [setL, cellsL]; fail_if_success focus skip) | (simp; omega)) rfl .nil) ?_
    rfl
  · rw [show cl c = { Ck.none c.k with f := c.f &&& 1, C := c.C } from by unfold cl; split <;> first | rfl | omega | contradiction | (simp_all; done)]
    unfold Ck.none Sl.nil
    (refine Go.run (g:=?_))
    refine Go.loud (by kernel_rfl) rfl ?_
    (refine Go.runL (g:=?_))
    refine GoL.andN (j := 1) rfl rfl rfl rfl rfl rfl (by simp [IntKind.bits, IntKind.signed]; omega) (by simp [IntKind.bits, IntKind.signed]) ?_
    (refine Go.runL (g:=?_))
    refine GoL.store' rfl rfl rfl rfl rfl (hl:=rfl) (h1:=rfl) (h3:=rfl) (g:=?_)
    (refine Go.runL (g:=?_))
    refine GoL.store' rfl rfl rfl rfl rfl (hl:=rfl) (h1:=rfl) (h3:=rfl) (g:=?_)
    refine GoL.end_ (hl := by (simp only [List.nil_append, List.cons_append]); repeat (first | exact loudP.nil | refine loudP.none ?_ | refine loudP.new (fun _ hb => absurd hb List.not_mem_nil) ?_ | refine loudP.row (by repeat (first | exact loudRowP.nil | refine loudRowP.none ?_ | refine loudRowP.bef (by decide +kernel) ?_ | refine loudRowP.apart (by first | exact .inl rfl | exact .inr (by simp)) rfl (by intro i hi; simp only [List.mem_singleton] at hi; subst hi; simp; omega) ?_)) ?_)) ?_
    (refine Go.run (g:=?_))
    refine Go.fin (by first|exact .inr rfl|exact .inl rfl) (.cellN (b := h.n + 1) (off := 0) rfl inferInstance (by (first | assumption | exact AHeap.get_push_same _ _ | ((repeat first | exact AHeap.get_push_same _ _ | assumption | refine get_push_lt ?_ | exact AHeap.get_put_same _ (by first | omega | (simp only [AHeap.n_push, AHeap.n_put]; omega)) _ | exact get_put_self (by assumption) | apply get_put_self | refine get_put_other (by first | omega | (simp only [AHeap.n_push, AHeap.n_put]; omega)) ?_ | refine Same.get (by assumption) ?_ | refine Keeps.get (by assumption) ?_ (fun hi => by have hx := Own.out (by assumption) hi; omega)) ; fail_if_success focus skip) | fail)) (by first | exact Nat.le_refl _ | (simp [setL, cellsL]; fail_if_success focus skip) | (simp; omega)) rfl .nil) ?_
    rfl
  · rw [show cl c = { Ck.none c.k with tsn := c.tsn } from by unfold cl; split <;> first | rfl | omega | contradiction | (simp_all; done)]
    unfold Ck.none Sl.nil
    (refine Go.run (g:=?_))
    refine Go.fin (by first|exact .inr rfl|exact .inl rfl) (.cellN (b := h.n + 1) (off := 0) rfl inferInstance (by (first | assumption | exact AHeap.get_push_same _ _ | ((repeat first | exact AHeap.get_push_same _ _ | assumption | refine get_push_lt ?_ | exact AHeap.get_put_same _ (by first | omega | (simp only [AHeap.n_push, AHeap.n_put]; omega)) _ | exact get_put_self (by assumption) | apply get_put_self | refine get_put_other (by first | omega | (simp only [AHeap.n_push, AHeap.n_put]; omega)) ?_ | refine Same.get (by assumption) ?_ | refine Keeps.get (by assumption) ?_ (fun hi => by have hx := Own.out (by assumption) hi; omega)) ; fail_if_success focus skip) | fail)) (by first | exact Nat.le_refl _ | (simp [setL, cellsL]; fail_if_success focus skip) | (simp; omega)) rfl .nil) ?_
    rfl
  · rw [show cl c = Ck.none c.k from by unfold cl; split <;> first | rfl | omega | contradiction | (simp_all; done)]
    unfold Ck.none Sl.nil
    (refine Go.run (g:=?_))
    refine Go.fin (by first|exact .inr rfl|exact .inl rfl) (.cellN (b := h.n + 1) (off := 0) rfl inferInstance (by (first | assumption | exact AHeap.get_push_same _ _ | ((repeat first | exact AHeap.get_push_same _ _ | assumption | refine get_push_lt ?_ | exact AHeap.get_put_same _ (by first | omega | (simp only [AHeap.n_push, AHeap.n_put]; omega)) _ | exact get_put_self (by assumption) | apply get_put_self | refine get_put_other (by first | omega | (simp only [AHeap.n_push, AHeap.n_put]; omega)) ?_ | refine Same.get (by assumption) ?_ | refine Keeps.get (by assumption) ?_ (fun hi => by have hx := Own.out (by assumption) hi; omega)) ; fail_if_success focus skip) | fail)) (by first | exact Nat.le_refl _ | (simp [setL, cellsL]; fail_if_success focus skip) | (simp; omega)) rfl .nil) ?_
    rfl
  · rw [show cl c = { Ck.none c.k with C := c.C } from by unfold cl; split <;> first | rfl | omega | contradiction | (simp_all; done)]
    unfold Ck.none Sl.nil
    (refine Go.run (g:=?_))
    refine Go.fin (by first|exact .inr rfl|exact .inl rfl) (.cellN (b := h.n + 1) (off := 0) rfl inferInstance (by (first | assumption | exact AHeap.get_push_same _ _ | ((repeat first | exact AHeap.get_push_same _ _ | assumption | refine get_push_lt ?_ | exact AHeap.get_put_same _ (by first | omega | (simp only [AHeap.n_push, AHeap.n_put]; omega)) _ | exact get_put_self (by assumption) | apply get_put_self | refine get_put_other (by first | omega | (simp only [AHeap.n_push, AHeap.n_put]; omega)) ?_ | refine Same.get (by assumption) ?_ | refine Keeps.get (by assumption) ?_ (fun hi => by have hx := Own.out (by assumption) hi; omega)) ; fail_if_success focus skip) | fail)) (by first | exact Nat.le_refl _ | (simp [setL, cellsL]; fail_if_success focus skip) | (simp; omega)) rfl .nil) ?_
    rfl
  · rw [show cl c = { Ck.none c.k with D := c.D } from by unfold cl; split <;> first | rfl | omega | contradiction | (simp_all; done)]
    unfold Ck.none Sl.nil
    (refine Go.run (g:=?_))
    refine Go.fin (by first|exact .inr rfl|exact .inl rfl) (.cellN (b := h.n + 1) (off := 0) rfl inferInstance (by (first | assumption | exact AHeap.get_push_same _ _ | ((repeat first | exact AHeap.get_push_same _ _ | assumption | refine get_push_lt ?_ | exact AHeap.get_put_same _ (by first | omega | (simp only [AHeap.n_push, AHeap.n_put]; omega)) _ | exact get_put_self (by assumption) | apply get_put_self | refine get_put_other (by first | omega | (simp only [AHeap.n_push, AHeap.n_put]; omega)) ?_ | refine Same.get (by assumption) ?_ | refine Keeps.get (by assumption) ?_ (fun hi => by have hx := Own.out (by assumption) hi; omega)) ; fail_if_success focus skip) | fail)) (by first | exact Nat.le_refl _ | (simp [setL, cellsL]; fail_if_success focus skip) | (simp; omega)) rfl .nil) ?_
    rfl
  · rw [show cl c = Ck.none c.k from by unfold cl; split <;> first | rfl | omega | contradiction | (simp_all; done)]
    unfold Ck.none Sl.nil
    (refine Go.run (g:=?_))
    refine Go.fin (by first|exact .inr rfl|exact .inl rfl) (.cellN (b := h.n + 1) (off := 0) rfl inferInstance (by (first | assumption | exact AHeap.get_push_same _ _ | ((repeat first | exact AHeap.get_push_same _ _ | assumption | refine get_push_lt ?_ | exact AHeap.get_put_same _ (by first | omega | (simp only [AHeap.n_push, AHeap.n_put]; omega)) _ | exact get_put_self (by assumption) | apply get_put_self | refine get_put_other (by first | omega | (simp only [AHeap.n_push, AHeap.n_put]; omega)) ?_ | refine Same.get (by assumption) ?_ | refine Keeps.get (by assumption) ?_ (fun hi => by have hx := Own.out (by assumption) hi; omega)) ; fail_if_success focus skip) | fail)) (by first | exact Nat.le_refl _ | (simp [setL, cellsL]; fail_if_success focus skip) | (simp; omega)) rfl .nil) ?_
    rfl
  · rw [show cl c = { Ck.none c.k with f := c.f &&& 1 } from by unfold cl; split <;> first | rfl | omega | contradiction | (simp_all; done)]
    unfold Ck.none Sl.nil
    (refine Go.run (g:=?_))
    refine GoR.andN (j := 1) rfl rfl rfl rfl rfl rfl (by simp [IntKind.bits, IntKind.signed]; omega) (by simp [IntKind.bits, IntKind.signed]) ?_
    (refine Go.run (g:=?_))
    refine Go.fin (by first|exact .inr rfl|exact .inl rfl) (.cellN (b := h.n + 1) (off := 0) rfl inferInstance (by (first | assumption | exact AHeap.get_push_same _ _ | ((repeat first | exact AHeap.get_push_same _ _ | assumption | refine get_push_lt ?_ | exact AHeap.get_put_same _ (by first | omega | (simp only [AHeap.n_push, AHeap.n_put]; omega)) _ | exact get_put_self (by assumption) | apply get_put_self | refine get_put_other (by first | omega | (simp only [AHeap.n_push, AHeap.n_put]; omega)) ?_ | refine Same.get (by assumption) ?_ | refine Keeps.get (by assumption) ?_ (fun hi => by have hx := Own.out (by assumption) hi; omega)) ; fail_if_success focus skip) | fail)) (by first | exact Nat.le_refl _ | (simp [setL, cellsL]; fail_if_success focus skip) | (simp; omega)) rfl .nil) ?_
    rfl
  · rw [cl_else h1 h2]
    unfold Ck.none Sl.nil
    (refine Go.run (g:=?_))
    refine Go.loud (by kernel_rfl) rfl ?_
    (refine Go.runL (g:=?_))
    refine GoL.store' rfl rfl rfl rfl rfl (hl:=rfl) (h1:=rfl) (h3:=rfl) (g:=?_)
    (refine Go.runL (g:=?_))
    refine GoL.store' rfl rfl rfl rfl rfl (hl:=rfl) (h1:=rfl) (h3:=rfl) (g:=?_)
    refine GoL.end_ (hl := by (simp only [List.nil_append, List.cons_append]); repeat (first | exact loudP.nil | refine loudP.none ?_ | refine loudP.new (fun _ hb => absurd hb List.not_mem_nil) ?_ | refine loudP.row (by repeat (first | exact loudRowP.nil | refine loudRowP.none ?_ | refine loudRowP.bef (by decide +kernel) ?_ | refine loudRowP.apart (by first | exact .inl rfl | exact .inr (by simp)) rfl (by intro i hi; simp only [List.mem_singleton] at hi; subst hi; simp; omega) ?_)) ?_)) ?_
    (refine Go.run (g:=?_))
    refine Go.fin (by first|exact .inr rfl|exact .inl rfl) (.cellN (b := h.n + 1) (off := 0) rfl inferInstance (by (first | assumption | exact AHeap.get_push_same _ _ | ((repeat first | exact AHeap.get_push_same _ _ | assumption | refine get_push_lt ?_ | exact AHeap.get_put_same _ (by first | omega | (simp only [AHeap.n_push, AHeap.n_put]; omega)) _ | exact get_put_self (by assumption) | apply get_put_self | refine get_put_other (by first | omega | (simp only [AHeap.n_push, AHeap.n_put]; omega)) ?_ | refine Same.get (by assumption) ?_ | refine Keeps.get (by assumption) ?_ (fun hi => by have hx := Own.out (by assumption) hi; omega)) ; fail_if_success focus skip) | fail)) (by first | exact Nat.le_refl _ | (simp [setL, cellsL]; fail_if_success focus skip) | (simp; omega)) rfl .nil) ?_
    rfl
end Go.Proofs.Ytjpegoigipbmiaa
namespace Go.Proofs.Ytjpegoigipbmiaa
set_option maxRecDepth 100000
attribute [local irreducible] Go GoR GoL
section
variable {α : Type} {f : α → List Value} (hf : ∀ x, (f x).length = 2)
include hf
theorem two_len (l : List α) : ((l.map f).flatten).length = l.length * 2 := by
  induction l with
  | nil => rfl
  | cons x l ih => simp only [List.map_cons, List.flatten_cons, List.length_append, hf, ih, List.length_cons]; omega
theorem two_get {l : List α} {i : Nat} (hi : i < l.length) : (((l.map f).flatten).drop (i * 2)).take 2 = f l[i] := by
  induction l generalizing i with
  | nil => simp at hi
  | cons x l ih =>
    cases i with
    | zero => simp only [List.map_cons, List.flatten_cons, Nat.zero_mul, List.drop_zero, List.getElem_cons_zero]; exact List.take_left' (hf x)
    | succ i =>
      rw [List.map_cons, List.flatten_cons, show (i + 1) * 2 = (f x).length + i * 2 from by rw [hf]; omega, ← List.drop_drop, List.drop_left' rfl]
      simpa using ih (by simpa using hi)
theorem two_at {l : List α} {i j : Nat} (hi : i < l.length) (hj : j < 2) : ((l.map f).flatten)[i * 2 + j]? = (f l[i])[j]? := by
  rw [← two_get hf hi, List.getElem?_take_of_lt hj, List.getElem?_drop]
end
def gC (x : Nat × Nat) : List Value := [.int .u16 x.1, .int .u16 x.2]
def gcs (l : List (Nat × Nat)) : List Value := (l.map gC).flatten
theorem gcs_len (l : List (Nat × Nat)) : (gcs l).length = l.length * 2 := two_len (fun _ => rfl) l
theorem gcs_get {l : List (Nat × Nat)} {i : Nat} (hi : i < l.length) : ((gcs l).drop (i * 2)).take 2 = [.int .u16 l[i].1, .int .u16 l[i].2] := two_get (f := gC) (fun _ => rfl) hi
theorem gcs_snoc (l : List (Nat × Nat)) (x : Nat × Nat) : gcs (l ++ [x]) = gcs l ++ gC x := by simp [gcs]
def gapsB : List (Nat × Nat) → Nat → Bool
  | [], _ => true
  | (s, e) :: l, p => decide (s ≤ e) && decide (p + 2 ≤ s) && gapsB l e
def SameB (x y : Ck) : Prop := x.f = y.f ∧ x.tag = y.tag ∧ x.rwnd = y.rwnd ∧ x.tsn = y.tsn ∧ x.out = y.out ∧ x.inn = y.inn ∧ x.sid = y.sid ∧ x.ssn = y.ssn ∧ x.ppid = y.ppid ∧ x.D.n = y.D.n ∧ x.A.n = y.A.n ∧ x.G.n = y.G.n ∧ x.U.n = y.U.n ∧ x.C.n = y.C.n
instance (x y : Ck) : Decidable (SameB x y) := inferInstanceAs (Decidable (_ ∧ _))
def MayF (c : Ck) : Prop := SameB c (cl c) ∧ c.A.n ≤ 3 ∧ c.G.n ≤ 64 ∧ c.U.n ≤ 16 ∧ ¬ ((c.k = 0 ∨ c.k = 2) ∧ c.D.n = 0)
instance (c : Ck) : Decidable (MayF c) := inferInstanceAs (Decidable (_ ∧ _))
def may (c : Ck) (gs : List (Nat × Nat)) : Bool := decide (MayF c) && gapsB gs 0
set_option maxHeartbeats 8000000 in
theorem csame_spec (x y : Ck) (h : AHeap) : CallS Try.prog [] 72 [x.v, y.v] h fun v h' => v = .bool (decide (SameB x y)) := by
  unfold Ck.v
  (refine CallS.of2 Try.func72 rfl Try.ntmps72 Try.results72 rfl ?_)
  (iterate 4 (first|(refine Go.kk 0 rfl ?_;refine Go.seq ?_)|(refine Go.kk 1 rfl ?_;refine Go.region (by kernel_rfl) rfl ?_)|(refine GoR.kk 0 rfl ?_;first|refine GoR.move rfl rfl rfl rfl rfl ?_|refine GoR.assign rfl rfl rfl rfl rfl ?_)|(refine GoR.kk 8 rfl ?_;first|refine GoR.boxA rfl rfl rfl rfl rfl ?_|refine GoR.boxS rfl rfl rfl rfl rfl rfl ?_|refine GoR.alloc rfl rfl rfl rfl ?_)|refine GoR.end ?_))
  simp only [AHeap.n_push, AHeap.n_put]
  refine GoR.name ?_
  intro h3 e3
  have G0 : h3.get h.n = some (.cells x.cs 43) := by
    subst e3
    rw [AHeap.get_push_ne _ _ (by simp), AHeap.get_push_same]
  have G1 : h3.get (h.n + 1) = some (.cells y.cs 43) := by
    subst e3
    exact AHeap.get_push_same (h.push _) _
  have n3 : h3.n = h.n + 2 := by subst e3; rfl
  clear e3
  unfold Ck.cs at G0 G1
  by_cases c1 : x.f = y.f
  case neg =>
    have e : decide (SameB x y) = false := decide_eq_false fun hs => by simp only [SameB] at hs; exact c1 hs.1
    simp only [e]
    (refine Go.run (g:=?_))
    (first|refine Go.finT (by first|exact .inr rfl|exact .inl rfl) rfl ?_|refine Go.fin1 (by first|exact .inr rfl|exact .inl rfl) rfl (hq:=?_))
    rfl
  by_cases c2 : x.tag = y.tag
  case neg =>
    have e : decide (SameB x y) = false := decide_eq_false fun hs => by simp only [SameB] at hs; exact c2 hs.2.1
    simp only [e]
    (refine Go.run (g:=?_))
    (first|refine Go.finT (by first|exact .inr rfl|exact .inl rfl) rfl ?_|refine Go.fin1 (by first|exact .inr rfl|exact .inl rfl) rfl (hq:=?_))
    rfl
  by_cases c3 : x.rwnd = y.rwnd
  case neg =>
    have e : decide (SameB x y) = false := decide_eq_false fun hs => by simp only [SameB] at hs; exact c3 hs.2.2.1
    simp only [e]
    (refine Go.run (g:=?_))
    (first|refine Go.finT (by first|exact .inr rfl|exact .inl rfl) rfl ?_|refine Go.fin1 (by first|exact .inr rfl|exact .inl rfl) rfl (hq:=?_))
    rfl
  by_cases c4 : x.tsn = y.tsn
  case neg =>
    have e : decide (SameB x y) = false := decide_eq_false fun hs => by simp only [SameB] at hs; exact c4 hs.2.2.2.1
    simp only [e]
    (refine Go.run (g:=?_))
    (first|refine Go.finT (by first|exact .inr rfl|exact .inl rfl) rfl ?_|refine Go.fin1 (by first|exact .inr rfl|exact .inl rfl) rfl (hq:=?_))
    rfl
  by_cases c5 : x.out = y.out
  case neg =>
    have e : decide (SameB x y) = false := decide_eq_false fun hs => by simp only [SameB] at hs; exact c5 hs.2.2.2.2.1
    simp only [e]
    (refine Go.run (g:=?_))
    (first|refine Go.finT (by first|exact .inr rfl|exact .inl rfl) rfl ?_|refine Go.fin1 (by first|exact .inr rfl|exact .inl rfl) rfl (hq:=?_))
    rfl
  by_cases c6 : x.inn = y.inn
  case neg =>
    have e : decide (SameB x y) = false := decide_eq_false fun hs => by simp only [SameB] at hs; exact c6 hs.2.2.2.2.2.1
    simp only [e]
    (refine Go.run (g:=?_))
    (first|refine Go.finT (by first|exact .inr rfl|exact .inl rfl) rfl ?_|refine Go.fin1 (by first|exact .inr rfl|exact .inl rfl) rfl (hq:=?_))
    rfl
  by_cases c7 : x.sid = y.sid
  case neg =>
    have e : decide (SameB x y) = false := decide_eq_false fun hs => by simp only [SameB] at hs; exact c7 hs.2.2.2.2.2.2.1
    simp only [e]
    (refine Go.run (g:=?_))
    (first|refine Go.finT (by first|exact .inr rfl|exact .inl rfl) rfl ?_|refine Go.fin1 (by first|exact .inr rfl|exact .inl rfl) rfl (hq:=?_))
    rfl
  by_cases c8 : x.ssn = y.ssn
  case neg =>
    have e : decide (SameB x y) = false := decide_eq_false fun hs => by simp only [SameB] at hs; exact c8 hs.2.2.2.2.2.2.2.1
    simp only [e]
    (refine Go.run (g:=?_))
    (first|refine Go.finT (by first|exact .inr rfl|exact .inl rfl) rfl ?_|refine Go.fin1 (by first|exact .inr rfl|exact .inl rfl) rfl (hq:=?_))
    rfl
  by_cases c9 : x.ppid = y.ppid
  case neg =>
    have e : decide (SameB x y) = false := decide_eq_false fun hs => by simp only [SameB] at hs; exact c9 hs.2.2.2.2.2.2.2.2.1
    simp only [e]
    (refine Go.run (g:=?_))
    (first|refine Go.finT (by first|exact .inr rfl|exact .inl rfl) rfl ?_|refine Go.fin1 (by first|exact .inr rfl|exact .inl rfl) rfl (hq:=?_))
    rfl
  by_cases c10 : x.D.n = y.D.n
  case neg =>
    have e : decide (SameB x y) = false := decide_eq_false fun hs => by simp only [SameB] at hs; exact c10 hs.2.2.2.2.2.2.2.2.2.1
    simp only [e]
    (refine Go.run (g:=?_))
    (first|refine Go.finT (by first|exact .inr rfl|exact .inl rfl) rfl ?_|refine Go.fin1 (by first|exact .inr rfl|exact .inl rfl) rfl (hq:=?_))
    rfl
  by_cases c11 : x.A.n = y.A.n
  case neg =>
    have e : decide (SameB x y) = false := decide_eq_false fun hs => by simp only [SameB] at hs; exact c11 hs.2.2.2.2.2.2.2.2.2.2.1
    simp only [e]
    (refine Go.run (g:=?_))
    (first|refine Go.finT (by first|exact .inr rfl|exact .inl rfl) rfl ?_|refine Go.fin1 (by first|exact .inr rfl|exact .inl rfl) rfl (hq:=?_))
    rfl
  by_cases c12 : x.G.n = y.G.n
  case neg =>
    have e : decide (SameB x y) = false := decide_eq_false fun hs => by simp only [SameB] at hs; exact c12 hs.2.2.2.2.2.2.2.2.2.2.2.1
    simp only [e]
    (refine Go.run (g:=?_))
    (first|refine Go.finT (by first|exact .inr rfl|exact .inl rfl) rfl ?_|refine Go.fin1 (by first|exact .inr rfl|exact .inl rfl) rfl (hq:=?_))
    rfl
  by_cases c13 : x.U.n = y.U.n
  case neg =>
    have e : decide (SameB x y) = false := decide_eq_false fun hs => by simp only [SameB] at hs; exact c13 hs.2.2.2.2.2.2.2.2.2.2.2.2.1
    simp only [e]
    (refine Go.run (g:=?_))
    (first|refine Go.finT (by first|exact .inr rfl|exact .inl rfl) rfl ?_|refine Go.fin1 (by first|exact .inr rfl|exact .inl rfl) rfl (hq:=?_))
    rfl
  by_cases c14 : x.C.n = y.C.n
  case neg =>
    have e : decide (SameB x y) = false := decide_eq_false fun hs => by simp only [SameB] at hs; exact c14 hs.2.2.2.2.2.2.2.2.2.2.2.2.2
    simp only [e]
    (refine Go.run (g:=?_))
    (first|refine Go.finT (by first|exact .inr rfl|exact .inl rfl) rfl ?_|refine Go.fin1 (by first|exact .inr rfl|exact .inl rfl) rfl (hq:=?_))
    simp [retV]; omega
  have e : decide (SameB x y) = true := decide_eq_true ⟨c1, c2, c3, c4, c5, c6, c7, c8, c9, c10, c11, c12, c13, c14⟩
  simp only [e]
  (refine Go.run (g:=?_))
  (first|refine Go.finT (by first|exact .inr rfl|exact .inl rfl) rfl ?_|refine Go.fin1 (by first|exact .inr rfl|exact .inl rfl) rfl (hq:=?_))
  simp [retV]; omega
end Go.Proofs.Ytjpegoigipbmiaa
namespace Go.Proofs.Ytjpegoigipbmiaa
set_option maxRecDepth 100000
attribute [local irreducible] Go GoR GoL
set_option maxHeartbeats 8000000 in
theorem may_spec (c : Ck) (hf : c.f < 256) (gs : List (Nat × Nat)) (hl : gs.length = c.G.n) (hg : ∀ x ∈ gs, x.1 < 65536 ∧ x.2 < 65536) (h : AHeap) (hz : Rv Try.prog h 2 c.G.a c.G.n c.G.cap (gcs gs)) : CallS Try.prog [] 41 [c.v] h fun v h' => v = .bool (may c gs) := by
  have hcl := clean_spec c hf
  have hsb := csame_spec c (cl c)
  generalize hd : cl c = d at hcl hsb
  unfold Ck.v
  (refine CallS.of1 Try.func41 rfl Try.ntmps41 Try.results41 rfl ?_)
  (iterate 4 (first|(refine Go.kk 0 rfl ?_;refine Go.seq ?_)|(refine Go.kk 1 rfl ?_;refine Go.region (by kernel_rfl) rfl ?_)|(refine GoR.kk 0 rfl ?_;first|refine GoR.move rfl rfl rfl rfl rfl ?_|refine GoR.assign rfl rfl rfl rfl rfl ?_)|(refine GoR.kk 8 rfl ?_;first|refine GoR.boxA rfl rfl rfl rfl rfl ?_|refine GoR.boxS rfl rfl rfl rfl rfl rfl ?_|refine GoR.alloc rfl rfl rfl rfl ?_)|refine GoR.end ?_))
  refine GoR.name ?_
  intro h3 e3
  have G0 : h3.get h.n = some (.cells c.cs 43) := by
    subst e3
    exact AHeap.get_push_same h _
  have n3 : h3.n = h.n + 1 := by subst e3; rfl
  have S3 : Same h h3 := by subst e3; exact (Same.refl h).push _
  clear e3
  (refine Go.run (g:=?_))
  refine GoR.call rfl rfl rfl rfl rfl rfl rfl (((hcl h3).argA).mono ?_)
  rintro _ h4 rfl s4
  (have nn := (s4).1; try simp only [AHeap.n_push, AHeap.n_put] at nn)
  have G4 := s4.get G0
  unfold Ck.cs at G0 G4
  (refine Go.run (g:=?_))
  refine GoR.call rfl rfl rfl rfl rfl rfl rfl (((hsb h4).argA).mono ?_)
  rintro _ h5 rfl s5
  (have nn := (s5).1; try simp only [AHeap.n_push, AHeap.n_put] at nn)
  have G5 := s5.get G4
  clear hcl hsb
  by_cases cs : SameB c d
  case neg =>
    simp only [decide_eq_false cs, show may c gs = false from by simp [may, MayF, hd, cs]]
    (refine Go.run (g:=?_))
    (first|refine Go.finT (by first|exact .inr rfl|exact .inl rfl) rfl ?_|refine Go.fin1 (by first|exact .inr rfl|exact .inl rfl) rfl (hq:=?_))
    rfl
  simp only [decide_eq_true cs]
  by_cases c1 : c.A.n ≤ 3
  case neg =>
    rw [show may c gs = false from by simp [may, MayF, hd, c1]]
    (refine Go.run (g:=?_))
    (first|refine Go.finT (by first|exact .inr rfl|exact .inl rfl) rfl ?_|refine Go.fin1 (by first|exact .inr rfl|exact .inl rfl) rfl (hq:=?_))
    rfl
  by_cases c2 : c.G.n ≤ 64
  case neg =>
    rw [show may c gs = false from by simp [may, MayF, hd, c2]]
    (refine Go.run (g:=?_))
    (first|refine Go.finT (by first|exact .inr rfl|exact .inl rfl) rfl ?_|refine Go.fin1 (by first|exact .inr rfl|exact .inl rfl) rfl (hq:=?_))
    rfl
  by_cases c3 : c.U.n ≤ 16
  case neg =>
    rw [show may c gs = false from by simp [may, MayF, hd, c3]]
    (refine Go.run (g:=?_))
    (first|refine Go.finT (by first|exact .inr rfl|exact .inl rfl) rfl ?_|refine Go.fin1 (by first|exact .inr rfl|exact .inl rfl) rfl (hq:=?_))
    rfl
  by_cases c4 : c.k = 0 ∧ c.D.n = 0
  case pos =>
    obtain ⟨c4, c5⟩ := c4
    rw [show may c gs = false from by simp [may, MayF, hd, c4, c5]]
    (refine Go.run (g:=?_))
    (first|refine Go.finT (by first|exact .inr rfl|exact .inl rfl) rfl ?_|refine Go.fin1 (by first|exact .inr rfl|exact .inl rfl) rfl (hq:=?_))
    rfl
  by_cases c5 : c.k = 2 ∧ c.D.n = 0
  case pos =>
    obtain ⟨c5, c6⟩ := c5
    rw [show may c gs = false from by simp [may, MayF, hd, c5, c6]]
    (refine Go.run (g:=?_))
    (first|refine Go.finT (by first|exact .inr rfl|exact .inl rfl) rfl ?_|refine Go.fin1 (by first|exact .inr rfl|exact .inl rfl) rfl (hq:=?_))
    rfl
  have c6 : ¬ ((c.k = 0 ∨ c.k = 2) ∧ c.D.n = 0) := by omega
  rw [show may c gs = gapsB gs 0 from by simp [may, MayF, hd, cs, c1, c2, c3, c6]]
  have ways : (c.k = 0 ∧ c.D.n ≠ 0) ∨ (c.k = 2 ∧ c.k ≠ 0 ∧ c.D.n ≠ 0) ∨ (c.k ≠ 0 ∧ c.k ≠ 2) := by omega
  clear cs c4 c5 c6
  rcases ways with ⟨w1, w2⟩ | ⟨w1, w2, w3⟩ | ⟨w1, w2⟩
  all_goals
    (refine Go.run (g:=?_))
    have S5 : Same h h5 := (S3.trans s4).trans s5
    clear S3 s4 s5 G0 G4
    refine Go.loop (α := Nat × Nat × AHeap) (fun x => [(46, .int .i64 x.1), (45, .int .i64 c.G.n), (44, .slice c.G.a c.G.n c.G.cap), (3, .int .u32 x.2.1)]) (fun _ => []) (fun x => x.2.2)
      (fun x => x.1 ≤ c.G.n ∧ x.2.1 < 65536 ∧ gapsB (gs.drop x.1) x.2.1 = gapsB gs 0 ∧ Same h x.2.2) (fun x => c.G.n - x.1) ((0, 0, h5)) ?_ ?_ rfl rfl ?_
    · exact ⟨Nat.zero_le _, by show 0 < 65536; decide, rfl, S5⟩
    · exact ⟨rfl, rfl, rfl, rfl, trivial⟩
    clear G5
    rintro ⟨i, p, h6⟩ ⟨hi, hp, hB, s6⟩
    simp only at hi hp hB s6 ⊢
    have hz6 := hz.same s6
    have m6 := s6.1
    rcases Nat.lt_or_ge i c.G.n with i0 | i0
    · have i1 : i < gs.length := by omega
      have c0 := gcs_get i1
      have hbe : i * 2 + 2 ≤ (gcs gs).length := by rw [gcs_len]; omega
      have hgi := hg _ (List.getElem_mem i1)
      have hd : gapsB (gs.drop i) p = (decide (gs[i].1 ≤ gs[i].2) && decide (p + 2 ≤ gs[i].1) && gapsB (gs.drop (i + 1)) gs[i].2) := by rw [List.drop_eq_getElem_cons i1]; rfl
      generalize gs[i].1 = gs1 at *
      generalize gs[i].2 = gs2 at *
      by_cases d1 : gs1 ≤ gs2
      case neg =>
        rw [decide_eq_false d1, Bool.false_and, Bool.false_and] at hd
        (refine Go.run (g:=?_))
        (first|refine Go.finT (by first|exact .inr rfl|exact .inl rfl) rfl ?_|refine Go.fin1 (by first|exact .inr rfl|exact .inl rfl) rfl (hq:=?_))
        rw [← hB, hd]; rfl
      by_cases d2 : p + 2 ≤ gs1
      case neg =>
        rw [decide_eq_false d2, Bool.and_false, Bool.false_and] at hd
        (refine Go.run (g:=?_))
        (first|refine Go.finT (by first|exact .inr rfl|exact .inl rfl) rfl ?_|refine Go.fin1 (by first|exact .inr rfl|exact .inl rfl) rfl (hq:=?_))
        rw [← hB, hd]; rfl
      rw [decide_eq_true d1, decide_eq_true d2, Bool.true_and, Bool.true_and] at hd
      (refine Go.run (g:=?_))
      exact Go.again (i + 1, gs2, _) ⟨by simp only; omega, hgi.2, hd.symm.trans hB, ((s6.push _).put (by omega) _)⟩ (by simp only; omega) ⟨rfl, rfl, rfl, rfl, trivial⟩ rfl rfl
    have hie : i = c.G.n := by omega
    subst hie
    rw [← hl, List.drop_length] at hB
    (refine Go.run (g:=?_))
    (first|refine Go.finT (by first|exact .inr rfl|exact .inl rfl) rfl ?_|refine Go.fin1 (by first|exact .inr rfl|exact .inl rfl) rfl (hq:=?_))
    rw [← hB]; rfl
end Go.Proofs.Ytjpegoigipbmiaa
namespace Go.Proofs.Ytjpegoigipbmiaa
set_option maxRecDepth 100000
attribute [local irreducible] Go GoR GoL
def hasN (k : Nat) : Nat := if k = 0 then 13 else if k = 1 then 19 else if k = 2 then 23 else if k = 3 then 35 else if k = 6 ∨ k = 9 then 64 else if k = 7 then 1 else if k = 8 ∨ k = 11 ∨ k = 14 then 0 else 4
def flN (k : Nat) : Nat := if k = 0 then 7 else if k = 6 ∨ k = 14 then 1 else if kn k then 0 else 255
theorem and7 (x : Nat) : x &&& 7 = x % 8 := Nat.and_two_pow_sub_one_eq_mod x 3
theorem and1 (x : Nat) : x &&& 1 = x % 2 := Nat.and_one_is_mod x
set_option maxHeartbeats 4000000 in
theorem rmay_eq (c : Ck) (hf : c.f < 256) : (((((((decide ((c.f : Int) ≤ (flN c.k : Int)) && (decide (hasN c.k % 2 = 1) || (decide ((c.tsn : Int) = 0)))) && (decide (hasN c.k / 2 % 2 = 1) || (decide ((c.rwnd : Int) = 0)))) && (decide (hasN c.k / 4 % 2 = 1) || (decide ((c.D.n : Int) = 0)))) && (decide (hasN c.k / 8 % 2 = 1) || (decide ((c.sid : Int) = 0) && (decide ((c.ssn : Int) = 0) && (decide ((c.ppid : Int) = 0)))))) && (decide (hasN c.k / 16 % 2 = 1) || (decide ((c.tag : Int) = 0) && (decide ((c.out : Int) = 0) && (decide ((c.inn : Int) = 0) && (decide ((c.A.n : Int) = 0))))))) && (decide (hasN c.k / 32 % 2 = 1) || (decide ((c.G.n : Int) = 0) && (decide ((c.U.n : Int) = 0))))) && (decide (hasN c.k / 64 % 2 = 1) || (decide ((c.C.n : Int) = 0)))) = decide (SameB c (cl c)) := by
  rw [Bool.eq_iff_iff]
  simp only [Bool.and_eq_true, Bool.or_eq_true, decide_eq_true_eq]
  rcases (show c.k = 0 ∨ c.k = 1 ∨ c.k = 2 ∨ c.k = 3 ∨ c.k = 4 ∨ c.k = 5 ∨ c.k = 10 ∨ c.k = 6 ∨ c.k = 9 ∨ c.k = 7 ∨ c.k = 8 ∨ c.k = 11 ∨ c.k = 14 ∨ (11 < c.k ∧ c.k ≠ 14) by omega) with e | e | e | e | e | e | e | e | e | e | e | e | e | ⟨e1, e2⟩
  iterate 13
    · simp only [SameB, cl, e, hasN, flN, Ck.none, Sl.nil, and7, and1, kn]
      simp
      omega
  · rw [cl_else e1 e2]
    have e3 : ¬ c.k ≤ 11 := by omega
    simp only [SameB, Ck.none, Sl.nil, hasN, flN, kn]
    simp [e3, e2, show c.k ≠ 0 by omega, show c.k ≠ 1 by omega, show c.k ≠ 2 by omega, show c.k ≠ 3 by omega, show c.k ≠ 6 by omega, show c.k ≠ 9 by omega, show c.k ≠ 7 by omega, show c.k ≠ 8 by omega, show c.k ≠ 11 by omega]
    omega
end Go.Proofs.Ytjpegoigipbmiaa
namespace Go.Proofs.Ytjpegoigipbmiaa
set_option maxRecDepth 100000
attribute [local irreducible] Go GoR GoL
def beB (n x : Nat) : List UInt8 := (List.range n).map fun j => UInt8.ofNat (x / 256 ^ (n - 1 - j))
theorem beB_length (n x : Nat) : (beB n x).length = n := by simp [beB]
def OwnS (h h' : AHeap) (v : Value) (l : List UInt8) : Prop := ∃ b cap, v = .slice b l.length cap ∧ Sv h' 5 1 b l.length cap (l.map bv) ∧ Own h.n b
theorem beB2 (x : Nat) : beB 2 x = [UInt8.ofNat (x / 256), UInt8.ofNat x] := by simp [beB, List.range_succ]
def OwnE (h h' : AHeap) (v : Value) (l : List UInt8) : Prop := ∃ b cap, v = .tuple #[.slice b l.length cap, .int .i64 0] ∧ Sv h' 5 1 b l.length cap (l.map bv) ∧ Own h.n b
end Go.Proofs.Ytjpegoigipbmiaa
namespace Go.Proofs.Ytjpegoigipbmiaa
set_option maxRecDepth 100000
attribute [local irreducible] Go GoR GoL
theorem wbe4 (x : Nat) : beB 4 x = [UInt8.ofNat (x / 16777216), UInt8.ofNat (x / 65536), UInt8.ofNat (x / 256), UInt8.ofNat x] := by simp [beB, List.range_succ]
theorem wput_err3 (chunk : Bool) (kind flags : Nat) (a : Option Addr) (len cap : Nat) (hl : len ≤ 140737488355328) (h1 : chunk = true → kind ≤ 255) (h2 : chunk = false → flags = 0) (hk : 65531 < len) (h : AHeap) : CallS Try.prog [] 45 [.bool chunk, tlvV kind flags a len cap] h fun v h' => v = .tuple #[.slice none 0 0, .int .i64 3] := by
  cases chunk
  · have h2 := h2 rfl
    (refine CallS.of2 Try.func45 rfl Try.ntmps45 Try.results45 rfl ?_)
    (refine Go.run (g:=?_))
    (first|refine Go.finT (by first|exact .inr rfl|exact .inl rfl) rfl ?_|refine Go.fin1 (by first|exact .inr rfl|exact .inl rfl) rfl (hq:=?_))
    rfl
  · have h1 := h1 rfl
    (refine CallS.of2 Try.func45 rfl Try.ntmps45 Try.results45 rfl ?_)
    (refine Go.run (g:=?_))
    (first|refine Go.finT (by first|exact .inr rfl|exact .inl rfl) rfl ?_|refine Go.fin1 (by first|exact .inr rfl|exact .inl rfl) rfl (hq:=?_))
    rfl
def w32s (l : List Nat) : List Value := l.map fun x : Nat => .int .u32 (x : Int)
def w16s (l : List Nat) : List Value := l.map fun x : Nat => .int .u16 (x : Int)
def be4s (l : List Nat) : List UInt8 := (l.map (beB 4)).flatten
def be2s (l : List Nat) : List UInt8 := (l.map (beB 2)).flatten
theorem be4s_len (l : List Nat) : (be4s l).length = l.length * 4 := by
  induction l with
  | nil => rfl
  | cons x l ih => simp only [be4s, List.map_cons, List.flatten_cons, List.length_append, beB_length, List.length_cons] at ih ⊢; omega
theorem be2s_len (l : List Nat) : (be2s l).length = l.length * 2 := by
  induction l with
  | nil => rfl
  | cons x l ih => simp only [be2s, List.map_cons, List.flatten_cons, List.length_append, beB_length, List.length_cons] at ih ⊢; omega
theorem be4s_take {l : List Nat} {i : Nat} (hi : i < l.length) : be4s (l.take (i + 1)) = be4s (l.take i) ++ beB 4 l[i] := by
  rw [← List.take_append_getElem hi]; unfold be4s; rw [List.map_append, List.flatten_append]; simp
theorem be2s_take {l : List Nat} {i : Nat} (hi : i < l.length) : be2s (l.take (i + 1)) = be2s (l.take i) ++ beB 2 l[i] := by
  rw [← List.take_append_getElem hi]; unfold be2s; rw [List.map_append, List.flatten_append]; simp
theorem w32s_get {l : List Nat} {i : Nat} (hi : i < l.length) : (w32s l)[i]? = some (.int .u32 l[i]) := by simp [w32s, hi]
theorem w16s_get {l : List Nat} {i : Nat} (hi : i < l.length) : (w16s l)[i]? = some (.int .u16 l[i]) := by simp [w16s, hi]
theorem w32s_len (l : List Nat) : (w32s l).length = l.length := by simp [w32s]
theorem w16s_len (l : List Nat) : (w16s l).length = l.length := by simp [w16s]
structure WS (h0 h : AHeap) (zs : List UInt8) (e : Nat) (b : Option Addr) (cap : Nat) : Prop where
  same : Same h0 h
  n : h0.n + 1 ≤ h.n
  w : h.get (h0.n) = some (.cells [.slice b zs.length cap, .int .i64 e] 73)
  sv : Sv h 5 1 b zs.length cap (zs.map bv)
  own : Own (h0.n + 1) b
theorem WS.append {h0 h1 h8 h9 : AHeap} {zs new : List UInt8} {e len : Nat} {b1 b9 : Option Addr} {c1 c9 : Nat} (w : WS h0 h1 zs e b1 c1) (s8 : Same h1 h8) (hs9 : Sv h9 5 1 b9 len c9 (zs.map bv ++ new.map bv)) (k9 : Keeps (blk b1) h8 h9) (o9 : ∀ i ∈ blk b9, i ∈ blk b1 ∨ h8.n ≤ i) (hlen : len = zs.length + new.length) :
    WS h0 (h9.put (h0.n) (some (.cells [.slice b9 len c9, .int .i64 e] 73))) (zs ++ new) e b9 c9 := by
  subst hlen
  have hn := w.n
  have m8 := s8.1
  have m9 := k9.1
  have o : Own (h0.n + 1) b9 := w.own.app (by omega) o9
  have g9 := k9.get (s8.get w.w) (fun hi => by have := w.own _ hi; omega)
  refine ⟨(((w.same.trans s8).ownO k9 w.own (by omega)).put (by omega) _), by simp; omega, ?_, ?_, o⟩
  · rw [List.length_append]
    exact get_put_self g9
  · rw [List.length_append, List.map_append]
    exact hs9.put (fun hm => by have := o _ hm; omega) _
theorem WS.keeps {h h0 h1 h8 h9 : AHeap} {zs : List UInt8} {e : Nat} {b b1 : Option Addr} {c1 : Nat} {o : AObj} (hn : h0.n + 1 ≤ h.n) (w : WS h0 h1 zs e b1 c1) (k1 : Keeps ((h0.n) :: blk b) h h1) (o1 : ∀ i ∈ blk b1, i ∈ blk b ∨ h.n ≤ i) (s8 : Same h1 h8) (k9 : Keeps (blk b1) h8 h9) : Keeps ((h0.n) :: blk b) h (h9.put (h0.n) (some o)) := by
  have m1 := k1.1
  have m8 := s8.1
  have m9 := k9.1
  refine ⟨by simp; omega, fun i hi hm => ?_⟩
  simp only [List.mem_cons, not_or] at hm
  rw [AHeap.get_put_ne _ _ (fun x => hm.1 x.symm), k9.2 i (by omega) (fun x => (o1 i x).elim hm.2 (fun y => by omega)), s8.2 i (by omega)]
  exact k1.2 i hi (by simp [hm])
theorem WS.setE {h0 h h1 : AHeap} {zs : List UInt8} {e e' : Nat} {b : Option Addr} {cap : Nat} (w : WS h0 h zs e b cap) (s1 : Same h h1) : WS h0 (h1.put (h0.n) (some (.cells [.slice b zs.length cap, .int .i64 e'] 73))) zs e' b cap := by
  have hn := w.n
  have m1 := s1.1
  refine ⟨(w.same.trans s1).put (by omega) _, by simp; omega, ?_, ?_, w.own⟩
  · exact get_put_self (s1.get w.w)
  · exact (w.sv.same s1).put (fun hm => by have := w.own _ hm; omega) _
theorem WS.to {h0 h h1 : AHeap} {zs : List UInt8} {e : Nat} {b : Option Addr} {cap : Nat} (w : WS h0 h zs e b cap) (s1 : Same h h1) : WS h0 h1 zs e b cap :=
  ⟨w.same.trans s1, Nat.le_trans w.n s1.1, s1.get w.w, w.sv.same s1, w.own⟩
theorem WS.blks {h h1 h8 : AHeap} {b b1 b9 : Option Addr} (m1 : h.n ≤ h1.n) (s8 : Same h1 h8) (o1 : ∀ i ∈ blk b1, i ∈ blk b ∨ h.n ≤ i) (o9 : ∀ i ∈ blk b9, i ∈ blk b1 ∨ h8.n ≤ i) : ∀ i ∈ blk b9, i ∈ blk b ∨ h.n ≤ i := fun i hi => (o9 i hi).elim (o1 i) fun y => .inr (by have := s8.1; omega)
set_option maxHeartbeats 4000000 in
theorem wu32_spec (h0 h : AHeap) (zs : List UInt8) (e : Nat) (b : Option Addr) (cap : Nat) (hw : WS h0 h zs e b cap) (ns : List Nat) (hns : ∀ x ∈ ns, x < 4294967296) (hb : zs.length + ns.length * 4 ≤ 1099511627776) (la : Option Addr) (lcap : Nat)
    (hl : Rv Try.prog h 1 la ns.length lcap (w32s ns)) (hd : ∀ i ∈ blk la, i ∉ (h0.n) :: blk b) :
    CallS Try.prog ((h0.n) :: blk b) 42 [.pointer (some ⟨h0.n, 0, none⟩), .slice la ns.length lcap] h fun _ h' => ∃ b' cap', WS h0 h' (zs ++ be4s ns) e b' cap' ∧ ∀ i ∈ blk b', i ∈ blk b ∨ h.n ≤ i := by
  have hn := hw.n
  (refine CallS.of2 Try.func42 rfl Try.ntmps42 Try.results42 rfl ?_)
  (refine Go.run (g:=?_))
  refine Go.loop (α := Nat × Option Addr × Nat × AHeap) (fun x => [(8, .int .i64 x.1), (7, .int .i64 ns.length), (6, .slice la ns.length lcap), (0, .pointer (some ⟨h0.n, 0, none⟩))]) (fun _ => []) (fun x => x.2.2.2)
    (fun x => x.1 ≤ ns.length ∧ WS h0 x.2.2.2 (zs ++ be4s (ns.take x.1)) e x.2.1 x.2.2.1 ∧ Keeps ((h0.n) :: blk b) h x.2.2.2 ∧ ∀ i ∈ blk x.2.1, i ∈ blk b ∨ h.n ≤ i) (fun x => ns.length - x.1) (0, b, cap, h) ?_ ?_ rfl rfl ?_
  · exact ⟨Nat.zero_le _, by simpa [be4s] using hw, (Same.refl h).keeps _, fun i hi => .inl hi⟩
  · exact ⟨rfl, rfl, rfl, rfl, trivial⟩
  rintro ⟨i, b1, c1, h1⟩ ⟨hi, w1, k1, o1⟩
  simp only at hi w1 k1 o1 ⊢
  have hn1 := w1.n
  rcases Nat.lt_or_ge i ns.length with i0 | i0
  · have c0 := w32s_get i0
    have hx := hns _ (List.getElem_mem i0)
    have hbe : i < (w32s ns).length := by rw [w32s_len]; exact i0
    have hl1 : Rv Try.prog h1 1 la ns.length lcap (w32s ns) := hl.keeps k1 hd
    have gw := w1.w
    have hzl : (zs ++ be4s (ns.take i)).length = zs.length + i * 4 := by rw [List.length_append, be4s_len, List.length_take]; omega
    have e1 := be4s_take i0
    have hsv := w1.sv
    generalize ns[i] = x at *
    rw [hzl] at gw hsv
    (refine Go.run (g:=?_))
    refine GoR.buildRo (c := (beB 4 x).map bv) rfl rfl rfl rfl rfl (by decide) ?_ (by rfl) ?_
    · rw [wbe4]
      simp only [List.map_cons, List.map_nil, bv_ofNat]
      rfl
    intro b8 h8 hb8 rb8 ob8 s8 n8
    have m8 := s8.1
    have ow : Own (h0.n + 1) b1 := w1.own
    refine GoR.appendV rfl rfl rfl rfl rfl rfl (hsv.same s8) hb8 (fun i hi => (o1 i hi).elim (fun x => .inl (List.mem_cons_of_mem _ x)) .inr) (by omega) (by omega) (by simp [bv, Value.oneCell']) ?_
    intro b9 c9 h9 hs9 k9 o9
    have m9 := k9.1
    have g9 := k9.get (s8.get gw) (fun hi => by have := ow _ hi; omega)
    have hWp : h0.n ∈ (h0.n) :: blk b ∨ h.n ≤ h0.n := .inl (List.mem_cons_self ..)
    (refine Go.run (g:=?_))
    have e2 : zs ++ be4s (ns.take (i + 1)) = (zs ++ be4s (ns.take i)) ++ beB 4 x := by rw [e1, List.append_assoc]
    refine Go.again (i + 1, b9, c9, _) ⟨by simp only; omega, ?_, WS.keeps hw.n w1 k1 o1 s8 k9, WS.blks k1.1 s8 o1 o9⟩ (by simp only; omega) ⟨rfl, rfl, rfl, rfl, trivial⟩ rfl rfl
    simp only
    rw [e2]
    exact w1.append s8 hs9 k9 o9 (by rw [hzl, beB_length])
  have hie : i = ns.length := by omega
  subst hie
  rw [List.take_length] at w1
  (refine Go.run (g:=?_))
  (first|refine Go.finT (by first|exact .inr rfl|exact .inl rfl) rfl ?_|refine Go.fin1 (by first|exact .inr rfl|exact .inl rfl) rfl (hq:=?_))
  exact ⟨_, _, w1, o1⟩
set_option maxHeartbeats 4000000 in
theorem wu16_spec (h0 h : AHeap) (zs : List UInt8) (e : Nat) (b : Option Addr) (cap : Nat) (hw : WS h0 h zs e b cap) (ns : List Nat) (hns : ∀ x ∈ ns, x < 65536) (hb : zs.length + ns.length * 2 ≤ 1099511627776) (la : Option Addr) (lcap : Nat)
    (hl : Rv Try.prog h 1 la ns.length lcap (w16s ns)) (hd : ∀ i ∈ blk la, i ∉ (h0.n) :: blk b) :
    CallS Try.prog ((h0.n) :: blk b) 43 [.pointer (some ⟨h0.n, 0, none⟩), .slice la ns.length lcap] h fun _ h' => ∃ b' cap', WS h0 h' (zs ++ be2s ns) e b' cap' ∧ ∀ i ∈ blk b', i ∈ blk b ∨ h.n ≤ i := by
  have hn := hw.n
  (refine CallS.of2 Try.func43 rfl Try.ntmps43 Try.results43 rfl ?_)
  (refine Go.run (g:=?_))
  refine Go.loop (α := Nat × Option Addr × Nat × AHeap) (fun x => [(8, .int .i64 x.1), (7, .int .i64 ns.length), (6, .slice la ns.length lcap), (0, .pointer (some ⟨h0.n, 0, none⟩))]) (fun _ => []) (fun x => x.2.2.2)
    (fun x => x.1 ≤ ns.length ∧ WS h0 x.2.2.2 (zs ++ be2s (ns.take x.1)) e x.2.1 x.2.2.1 ∧ Keeps ((h0.n) :: blk b) h x.2.2.2 ∧ ∀ i ∈ blk x.2.1, i ∈ blk b ∨ h.n ≤ i) (fun x => ns.length - x.1) (0, b, cap, h) ?_ ?_ rfl rfl ?_
  · exact ⟨Nat.zero_le _, by simpa [be2s] using hw, (Same.refl h).keeps _, fun i hi => .inl hi⟩
  · exact ⟨rfl, rfl, rfl, rfl, trivial⟩
  rintro ⟨i, b1, c1, h1⟩ ⟨hi, w1, k1, o1⟩
  simp only at hi w1 k1 o1 ⊢
  have hn1 := w1.n
  rcases Nat.lt_or_ge i ns.length with i0 | i0
  · have c0 := w16s_get i0
    have hx := hns _ (List.getElem_mem i0)
    have hbe : i < (w16s ns).length := by rw [w16s_len]; exact i0
    have hl1 : Rv Try.prog h1 1 la ns.length lcap (w16s ns) := hl.keeps k1 hd
    have gw := w1.w
    have hzl : (zs ++ be2s (ns.take i)).length = zs.length + i * 2 := by rw [List.length_append, be2s_len, List.length_take]; omega
    have e1 := be2s_take i0
    have hsv := w1.sv
    generalize ns[i] = x at *
    rw [hzl] at gw hsv
    (refine Go.run (g:=?_))
    refine GoR.buildRo (c := (beB 2 x).map bv) rfl rfl rfl rfl rfl (by decide) ?_ (by rfl) ?_
    · rw [beB2]
      simp only [List.map_cons, List.map_nil, bv_ofNat]
      rfl
    intro b8 h8 hb8 rb8 ob8 s8 n8
    have m8 := s8.1
    have ow : Own (h0.n + 1) b1 := w1.own
    refine GoR.appendV rfl rfl rfl rfl rfl rfl (hsv.same s8) hb8 (fun i hi => (o1 i hi).elim (fun x => .inl (List.mem_cons_of_mem _ x)) .inr) (by omega) (by omega) (by simp [bv, Value.oneCell']) ?_
    intro b9 c9 h9 hs9 k9 o9
    have m9 := k9.1
    have g9 := k9.get (s8.get gw) (fun hi => by have := ow _ hi; omega)
    have hWp : h0.n ∈ (h0.n) :: blk b ∨ h.n ≤ h0.n := .inl (List.mem_cons_self ..)
    (refine Go.run (g:=?_))
    have e2 : zs ++ be2s (ns.take (i + 1)) = (zs ++ be2s (ns.take i)) ++ beB 2 x := by rw [e1, List.append_assoc]
    refine Go.again (i + 1, b9, c9, _) ⟨by simp only; omega, ?_, WS.keeps hw.n w1 k1 o1 s8 k9, WS.blks k1.1 s8 o1 o9⟩ (by simp only; omega) ⟨rfl, rfl, rfl, rfl, trivial⟩ rfl rfl
    simp only
    rw [e2]
    exact w1.append s8 hs9 k9 o9 (by rw [hzl, beB_length])
  have hie : i = ns.length := by omega
  subst hie
  rw [List.take_length] at w1
  (refine Go.run (g:=?_))
  (first|refine Go.finT (by first|exact .inr rfl|exact .inl rfl) rfl ?_|refine Go.fin1 (by first|exact .inr rfl|exact .inl rfl) rfl (hq:=?_))
  exact ⟨_, _, w1, o1⟩
def pB (k : Nat) (z : List UInt8) : List UInt8 := if z.length ≤ 65531 then tlvB false k 0 z else []
theorem pB_le (k : Nat) (z : List UInt8) : (pB k z).length ≤ 65536 := by
  unfold pB
  split
  · rw [tlvB_length]; omega
  · simp
set_option maxHeartbeats 4000000 in
theorem wparam_spec (h0 h : AHeap) (zs : List UInt8) (e : Nat) (b : Option Addr) (cap : Nat) (hw : WS h0 h zs e b cap) (k : Nat) (hk : k < 65536) (z : List UInt8) (hz : z.length ≤ 140737488355328) (hb : zs.length ≤ 1000000000000) (la : Option Addr) (lcap : Nat)
    (hl : Rv Try.prog h 1 la z.length lcap (z.map bv)) :
    CallS Try.prog ((h0.n) :: blk b) 44 [.pointer (some ⟨h0.n, 0, none⟩), .int .u16 k, .slice la z.length lcap] h fun _ h' => ∃ b' cap', WS h0 h' (zs ++ pB k z) (if z.length ≤ 65531 then e else 3) b' cap' ∧ ∀ i ∈ blk b', i ∈ blk b ∨ h.n ≤ i := by
  have hn := hw.n
  have hsv := hw.sv
  have gw := hw.w
  have ow := hw.own
  have hWp : h0.n ∈ (h0.n) :: blk b ∨ h.n ≤ h0.n := .inl (List.mem_cons_self ..)
  rcases Nat.lt_or_ge 65531 z.length with g | g
  · rw [show pB k z = [] from by unfold pB; rw [if_neg (by omega)], if_neg (by omega)]
    (refine CallS.of3 Try.func44 rfl Try.ntmps44 Try.results44 rfl ?_)
    (refine Go.run (g:=?_))
    refine GoR.call rfl rfl rfl rfl rfl rfl rfl (((wput_err3 false k 0 la z.length lcap hz (by simp) (fun _ => rfl) g _).argA).mono ?_)
    rintro _ h1 rfl s1
    (have nn := (s1).1; try simp only [AHeap.n_push, AHeap.n_put] at nn)
    have gw1 := s1.get gw
    (refine Go.run (g:=?_))
    refine GoR.name ?_
    intro h2 e2
    have w2 : WS h0 h2 zs 3 b cap := by subst e2; exact hw.setE (e' := 3) s1
    have m2 : h2.n = h1.n := by subst e2; simp
    clear e2
    refine GoR.appendV rfl rfl rfl rfl rfl rfl w2.sv Rv.nil (fun i hi => .inl (List.mem_cons_of_mem _ hi)) (by omega) (by omega) (by simp) ?_
    intro b9 c9 h9 hs9 k9 o9
    have m9 := k9.1
    have gw2 := w2.w
    have g9 := k9.get gw2 (fun hi => by have := ow _ hi; omega)
    (refine Go.run (g:=?_))
    (first|refine Go.finT (by first|exact .inr rfl|exact .inl rfl) rfl ?_|refine Go.fin1 (by first|exact .inr rfl|exact .inl rfl) rfl (hq:=?_))
    exact ⟨_, _, w2.append (Same.refl _) hs9 k9 o9 rfl, WS.blks (h1 := h1) s1.1 (Same.refl _) (fun i hi => .inl hi) (fun i hi => (o9 i hi).imp id (by omega))⟩
  · rw [show pB k z = tlvB false k 0 z from by unfold pB; rw [if_pos g], if_pos g]
    (refine CallS.of3 Try.func44 rfl Try.ntmps44 Try.results44 rfl ?_)
    (refine Go.run (g:=?_))
    refine GoR.call rfl rfl rfl rfl rfl rfl rfl (((put_ok false k 0 la lcap (by simp) (fun _ => rfl) (by decide) z g _ hl).argA).mono ?_)
    rintro _ h1 ⟨b1, rfl, hb1, ob1⟩ s1
    (have nn := (s1).1; try simp only [AHeap.n_push, AHeap.n_put] at nn)
    have gw1 := s1.get gw
    (refine Go.run (g:=?_))
    refine GoR.appendV rfl rfl rfl rfl rfl rfl (hsv.same s1) (Sv.rv hb1) (fun i hi => .inl (List.mem_cons_of_mem _ hi)) (by have := tlvB_length false k 0 z; omega) (by have := tlvB_length false k 0 z; omega) (by simp [bv, Value.oneCell']) ?_
    intro b9 c9 h9 hs9 k9 o9
    have m9 := k9.1
    have g9 := k9.get gw1 (fun hi => by have := ow _ hi; omega)
    (refine Go.run (g:=?_))
    (first|refine Go.finT (by first|exact .inr rfl|exact .inl rfl) rfl ?_|refine Go.fin1 (by first|exact .inr rfl|exact .inl rfl) rfl (hq:=?_))
    exact ⟨_, _, hw.append s1 hs9 k9 o9 rfl, WS.blks (Nat.le_refl _) s1 (fun i hi => .inl hi) o9⟩
end Go.Proofs.Ytjpegoigipbmiaa
namespace Go.Proofs.Ytjpegoigipbmiaa
set_option maxRecDepth 100000
structure CV where
  k : Nat
  a : Option Addr
  cap : Nat
  z : List UInt8
def cvC (x : CV) : List Value := [.int .u16 x.k, .slice x.a x.z.length x.cap]
def ccs (l : List CV) : List Value := (l.map cvC).flatten
theorem ccs_len (l : List CV) : (ccs l).length = l.length * 2 := two_len (fun _ => rfl) l
theorem ccs_get {l : List CV} {i : Nat} (hi : i < l.length) : ((ccs l).drop (i * 2)).take 2 = [.int .u16 l[i].k, .slice l[i].a l[i].z.length l[i].cap] := two_get (f := cvC) (fun _ => rfl) hi
theorem ccs_0 {l : List CV} {i : Nat} (hi : i < l.length) : (ccs l)[i * 2]? = some (.int .u16 l[i].k) := two_at (f := cvC) (j := 0) (fun _ => rfl) hi (by decide)
theorem ccs_1 {l : List CV} {i : Nat} (hi : i < l.length) : (ccs l)[i * 2 + 1]? = some (.slice l[i].a l[i].z.length l[i].cap) := two_at (f := cvC) (j := 1) (fun _ => rfl) hi (by decide)
structure CD where
  data : List UInt8
  addrs : List Nat
  gaps : List (Nat × Nat)
  dups : List Nat
  causes : List CV
structure COk (h : AHeap) (c : Ck) (d : CD) : Prop where
  k : c.k < 256
  f : c.f < 256
  tag : c.tag < 4294967296
  rwnd : c.rwnd < 4294967296
  tsn : c.tsn < 4294967296
  out : c.out < 65536
  inn : c.inn < 65536
  sid : c.sid < 65536
  ssn : c.ssn < 65536
  ppid : c.ppid < 4294967296
  dl : d.data.length = c.D.n
  dv : Rv Try.prog h 1 c.D.a c.D.n c.D.cap (d.data.map bv)
  al : d.addrs.length = c.A.n
  av : Rv Try.prog h 1 c.A.a c.A.n c.A.cap (w32s d.addrs)
  ab : ∀ x ∈ d.addrs, x < 4294967296
  gl : d.gaps.length = c.G.n
  gv : Rv Try.prog h 2 c.G.a c.G.n c.G.cap (gcs d.gaps)
  gb : ∀ x ∈ d.gaps, x.1 < 65536 ∧ x.2 < 65536
  ul : d.dups.length = c.U.n
  uv : Rv Try.prog h 1 c.U.a c.U.n c.U.cap (w32s d.dups)
  ub : ∀ x ∈ d.dups, x < 4294967296
  cl : d.causes.length = c.C.n
  cv : Rv Try.prog h 2 c.C.a c.C.n c.C.cap (ccs d.causes)
  cb : ∀ x ∈ d.causes, x.k < 65536 ∧ x.z.length ≤ 140737488355328 ∧ Rv Try.prog h 1 x.a x.z.length x.cap (x.z.map bv)
theorem COk.same {h h' : AHeap} {c : Ck} {d : CD} (k : COk h c d) (s : Same h h') : COk h' c d :=
  { k with dv := k.dv.same s, av := k.av.same s, gv := k.gv.same s, uv := k.uv.same s, cv := k.cv.same s, cb := fun x hx => ⟨(k.cb x hx).1, (k.cb x hx).2.1, (k.cb x hx).2.2.same s⟩ }
def addrsB (l : List Nat) : List UInt8 := (l.map fun a => tlvB false 5 0 (beB 4 a)).flatten
def initB (c : Ck) (d : CD) : List UInt8 := beB 4 c.tag ++ beB 4 c.rwnd ++ beB 2 c.out ++ beB 2 c.inn ++ beB 4 c.tsn ++ addrsB d.addrs
def gapsBy (l : List (Nat × Nat)) : List UInt8 := (l.map fun g => beB 2 g.1 ++ beB 2 g.2).flatten
def causesB (l : List CV) : List UInt8 := (l.map fun x => pB x.k x.z).flatten
def allShort (l : List CV) : Bool := l.all fun x => decide (x.z.length ≤ 65531)
theorem allShort_snoc {l : List CV} {i : Nat} (hi : i < l.length) : allShort (l.take (i + 1)) = (allShort (l.take i) && decide (l[i].z.length ≤ 65531)) := by
  unfold allShort
  rw [← List.take_append_getElem hi, List.all_append]; simp
def cval (c : Ck) (d : CD) : Option (List UInt8) :=
  match c.k with
  | 0 => some (beB 4 c.tsn ++ beB 2 c.sid ++ beB 2 c.ssn ++ beB 4 c.ppid ++ d.data)
  | 1 => some (initB c d)
  | 2 => if d.data.length ≤ 65531 then some (initB c d ++ pB 7 d.data) else none
  | 3 => some (beB 4 c.tsn ++ beB 4 c.rwnd ++ beB 2 c.G.n ++ beB 2 c.U.n ++ gapsBy d.gaps ++ be4s d.dups)
  | 6 => if allShort d.causes = true then some (causesB d.causes) else none
  | 9 => if allShort d.causes = true then some (causesB d.causes) else none
  | 7 => some (beB 4 c.tsn)
  | _ => some d.data
def PutV (h h' : AHeap) (v : Value) (c : Ck) (x : Option (List UInt8)) : Prop :=
  match x with
  | none => v = .tuple #[.slice none 0 0, .int .i64 3]
  | some x => if x.length ≤ 65531 then OwnE h h' v (tlvB true c.k c.f x) else v = .tuple #[.slice none 0 0, .int .i64 3]
def PutR (h h' : AHeap) (v : Value) (c : Ck) (d : CD) : Prop :=
  if may c d.gaps = true then PutV h h' v c (cval c d) else v = .tuple #[.slice none 0 0, .int .i64 50]
theorem addrsB_len (l : List Nat) : (addrsB l).length = l.length * 8 := by
  induction l with
  | nil => rfl
  | cons x l ih => simp only [addrsB, List.map_cons, List.flatten_cons, List.length_append, tlvB_length, beB_length, List.length_cons] at ih ⊢; omega
theorem gapsBy_len (l : List (Nat × Nat)) : (gapsBy l).length = l.length * 4 := by
  induction l with
  | nil => rfl
  | cons x l ih => simp only [gapsBy, List.map_cons, List.flatten_cons, List.length_append, beB_length, List.length_cons] at ih ⊢; omega
theorem causesB_len (l : List CV) : (causesB l).length ≤ l.length * 65536 := by
  induction l with
  | nil => simp [causesB]
  | cons x l ih => have := pB_le x.k x.z; simp only [causesB, List.map_cons, List.flatten_cons, List.length_append, List.length_cons] at ih ⊢; omega
theorem flat_snoc {α β : Type} (f : α → List β) {l : List α} {i : Nat} (hi : i < l.length) : ((l.take (i + 1)).map f).flatten = ((l.take i).map f).flatten ++ f l[i] := by
  rw [← List.take_append_getElem hi, List.map_append, List.flatten_append]; simp
end Go.Proofs.Ytjpegoigipbmiaa
namespace Go.Proofs.Ytjpegoigipbmiaa
open Go.RowKit
def rowNats : List Nat := [
  0, 4067132163, 3778769143, 324072436, 3348797215, 904991772, 648144872, 3570033899,
  2329499855, 2024987596, 1809983544, 2575936315, 1296289744, 3207089363, 2893594407, 1578318884,
  274646895, 3795141740, 4049975192, 51262619, 3619967088, 632279923, 922689671, 3298075524,
  2592579488, 1760304291, 2075979607, 2312596564, 1562183871, 2943781820, 3156637768, 1313733451,
  549293790, 3537243613, 3246849577, 871202090, 3878099393, 357341890, 102525238, 4101499445,
  2858735121, 1477399826, 1264559846, 3107202533, 1845379342, 2677391885, 2361733625, 2125378298,
  820201905, 3263744690, 3520608582, 598981189, 4151959214, 85089709, 373468761, 3827903834,
  3124367742, 1213305469, 1526817161, 2842354314, 2107672161, 2412447074, 2627466902, 1861252501,
  1098587580, 3004210879, 2688576843, 1378610760, 2262928035, 1955203488, 1742404180, 2511436119,
  3416409459, 969524848, 714683780, 3639785095, 205050476, 4266873199, 3976438427, 526918040,
  1361435347, 2739821008, 2954799652, 1114974503, 2529119692, 1691668175, 2005155131, 2247081528,
  3690758684, 697762079, 986182379, 3366744552, 476452099, 3993867776, 4250756596, 255256311,
  1640403810, 2477592673, 2164122517, 1922457750, 2791048317, 1412925310, 1197962378, 3037525897,
  3944729517, 427051182, 170179418, 4165941337, 746937522, 3740196785, 3451792453, 1070968646,
  1905808397, 2213795598, 2426610938, 1657317369, 3053634322, 1147748369, 1463399397, 2773627110,
  4215344322, 153784257, 444234805, 3893493558, 1021025245, 3467647198, 3722505002, 797665321,
  2197175160, 1889384571, 1674398607, 2443626636, 1164749927, 3070701412, 2757221520, 1446797203,
  137323447, 4198817972, 3910406976, 461344835, 3484808360, 1037989803, 781091935, 3705997148,
  2460548119, 1623424788, 1939049696, 2180517859, 1429367560, 2807687179, 3020495871, 1180866812,
  410100952, 3927582683, 4182430767, 186734380, 3756733383, 763408580, 1053836080, 3434856499,
  2722870694, 1344288421, 1131464017, 2971354706, 1708204729, 2545590714, 2229949006, 1988219213,
  680717673, 3673779818, 3383336350, 1002577565, 4010310262, 493091189, 238226049, 4233660802,
  2987750089, 1082061258, 1395524158, 2705686845, 1972364758, 2279892693, 2494862625, 1725896226,
  952904198, 3399985413, 3656866545, 731699698, 4283874585, 222117402, 510512622, 3959836397,
  3280807620, 837199303, 582374963, 3504198960, 68661723, 4135334616, 3844915500, 390545967,
  1230274059, 3141532936, 2825850620, 1510247935, 2395924756, 2091215383, 1878366691, 2644384480,
  3553878443, 565732008, 854102364, 3229815391, 340358836, 3861050807, 4117890627, 119113024,
  1493875044, 2875275879, 3090270611, 1247431312, 2660249211, 1828433272, 2141937292, 2378227087,
  3811616794, 291187481, 34330861, 4032846830, 615137029, 3603020806, 3314634738, 939183345,
  1776939221, 2609017814, 2295496738, 2058945313, 2926798794, 1545135305, 1330124605, 3173225534,
  4084100981, 17165430, 307568514, 3762199681, 888469610, 3332340585, 3587147933, 665062302,
  2042050490, 2346497209, 2559330125, 1793573966, 3190661285, 1279665062, 1595330642, 2910671697]
def u32s (ns : List Nat) : List Value := ns.map fun n => .int .u32 (.ofNat n)
def rowVal : Value := .agg (u32s rowNats).toArray
def eqU32 : List Value → List Nat → Bool
  | [], [] => true
  | .int .u32 (.ofNat a) :: l, n :: ns => Nat.beq a n && eqU32 l ns
  | _, _ => false
theorem eqU32_eq : ∀ {l : List Value} {ns : List Nat}, eqU32 l ns = true → l = u32s ns
  | [], [], _ => rfl
  | [], n :: ns, h => by cases h
  | v :: l, [], h => by unfold eqU32 at h; split at h <;> simp_all
  | v :: l, n :: ns, h => by
    unfold eqU32 at h
    split at h
    · simp_all
    · rename_i a l' n' ns' e1 e2
      cases e1; cases e2
      rw [Bool.and_eq_true] at h
      rw [Nat.eq_of_beq_eq_true h.1, eqU32_eq h.2]
      rfl
    · cases h
def isRow : Value → AHeap → List Nat → Option Bool
  | .agg a, _, _ => some (eqU32 a.toList rowNats)
  | _, _, _ => none
theorem isRow_eq {v : Value} {h : AHeap} {wr : List Nat} (e : isRow v h wr = some true) : v = rowVal := by
  unfold isRow at e
  split at e
  · rename_i a
    simp only [Option.some.injEq] at e
    show Value.agg a = .agg (u32s rowNats).toArray
    rw [← eqU32_eq e]
  · cases e
theorem CallRun.const {P : Program} {W : Nat → Prop} {f : FuncId} {v : Value} {h' : AHeap} (hg : P.globals.size = 0) (hc : CallRun P W f #[] emptyH v h') (hv : flatB v = true) (h : AHeap) : CallRun P (fun _ => False) f #[] h v h := by
  refine ⟨.refl _ _, fun m w args' hm hf ha hh => ?_⟩
  obtain rfl : args' = #[] := Array.eq_empty_of_size_eq_zero ha.1.symm
  refine (hc.run (fun _ => none) w #[] (fun g hlt => by omega) (fun i _ _ => rfl) (ARel.empty _) (hrel_empty P Ev w)).mono ?_
  rintro e w' ⟨v', m', rfl, hF, hV, _⟩
  have keep : ∀ b, b < w.heap.size → w'.heap[b]? = w.heap[b]? := fun b hb => hF.keep b hb fun j k hj => absurd hj (Nat.not_lt_zero j)
  refine ⟨v', m, rfl, ⟨fun _ _ => rfl, fun i l a b _ => by omega, fun b hb _ => keep b hb, hF.size, hF.os, hF.tape, hF.output⟩, ?_, ?_⟩
  · rw [VRel.eq_of_flat hV hv]; exact VRel.flat m hv
  · exact { lt := fun i l e => Nat.lt_of_lt_of_le (hh.lt i l e) hF.size
            typ := hh.typ
            inj := hh.inj
            roS := hh.roS
            obj := fun i l o hd e g => by
              obtain ⟨o', a, b⟩ := hh.obj i l o hd e g
              exact ⟨o', by rw [keep l.b (hh.lt i l e)]; exact a, b⟩ }
theorem rowRun : callK (A := Bool) Try.prog noS (fev Try.prog noS 5000) 82 [] emptyH isRow = some true := by kernel_rfl
theorem rowFlat : flatB rowVal = true := by kernel_rfl
theorem row_const (h : AHeap) : CallRun Try.prog (fun _ => False) 82 #[] h rowVal h := by
  obtain ⟨v, h', wr, hc, he⟩ := callRun_of (noS_ok _) rowRun
  obtain rfl := isRow_eq he
  exact CallRun.const (by kernel_rfl) hc rowFlat h
noncomputable def rowS : Summ := fun f args h => Bool.rec none (List.rec (some (rowVal, h, [])) (fun _ _ _ => none) args) (Nat.beq f 82)
theorem rowS_ok : SOk Try.prog rowS := fun f args h v h' wr e => by
  unfold rowS at e
  cases hb : Nat.beq f 82 with
  | false => rw [hb] at e; cases e
  | true =>
    rw [hb] at e
    cases args with
    | cons a l => cases e
    | nil =>
      cases e
      obtain rfl := Nat.eq_of_beq_eq_true hb
      exact (row_const h).weak fun i hi => hi.elim
end Go.Proofs.Ytjpegoigipbmiaa
namespace Go.Proofs.Ytjpegoigipbmiaa
set_option maxRecDepth 100000
attribute [local irreducible] Go GoR GoL
theorem rowNats_eq : rowNats = (List.range 256).map (Crc.it 8) := by decide +kernel
def IsRow (l : List Value) : Prop := l.length = 256 ∧ l.all Value.oneCell' = true ∧ ∀ j, j < 256 → l[j]? = some (.int .u32 (Crc.it 8 j : Nat))
theorem row_spec (h : AHeap) : CallS Try.prog [] 82 [] h fun v h' => (∃ l, v = .agg l.toArray ∧ IsRow l) ∧ h' = h := by
  obtain ⟨v, h', wr, hc, he⟩ := callRun_of (noS_ok _) rowRun
  obtain rfl := isRow_eq he
  refine (CallS.known noGlobals hc rowFlat h).mono ?_
  rintro _ h' ⟨rfl, rfl⟩
  refine ⟨⟨u32s rowNats, rfl, by decide +kernel, by decide +kernel, fun j hj => ?_⟩, rfl⟩
  rw [rowNats_eq]
  simp [u32s, hj]
theorem com_u32 {x : Nat} (hx : x < 4294967296) : iBin .xor .u32 (if IntKind.u32.signed then -1 else IntKind.u32.max) (x : Int) = some (.int .u32 ((4294967295 - x : Nat) : Int)) := by
  have e := iXor_nat (k := .u32) (x := 4294967295) (y := x) (show 4294967295 < 4294967296 by decide) hx
  rw [Crc.not_eq x hx] at e
  exact e
def zrow : List Value := List.replicate 256 (.int .u32 0)
theorem al_row : AL Try.prog 117 zrow := ⟨by kernel_rfl⟩
theorem setL_all {c l : List Value} (e : l.length = c.length) : setL c 0 l = l := by
  simp [setL, e]
theorem zrow_len : zrow.length = 256 := by simp [zrow]
theorem byte_at {zs : List UInt8} {k : Nat} (hk : k < zs.length) : (zs.map bv)[k]? = some (.int .u8 (zs[k].toNat : Int)) := by simp [hk, bv]
set_option maxHeartbeats 4000000 in
theorem crcMore_spec (s : Nat) (hs : s < 4294967296) (a : Option Addr) (cap : Nat) (zs : List UInt8) (hl : zs.length ≤ 1000000000) (h : AHeap) (hz : Rv Try.prog h 1 a zs.length cap (zs.map bv)) : CallS Try.prog [] 76 [.int .u32 s, .slice a zs.length cap] h fun v h' => v = .int .u32 (Crc.more s zs : Nat) := by
  generalize hlen : zs.length = len at *
  rcases Nat.eq_zero_or_pos len with h0 | h0
  · subst h0
    obtain rfl : zs = [] := List.eq_nil_of_length_eq_zero hlen
    (refine CallS.of2 Try.func76 rfl Try.ntmps76 Try.results76 rfl ?_)
    (refine Go.run (g:=?_))
    (first|refine Go.finT (by first|exact .inr rfl|exact .inl rfl) rfl ?_|refine Go.fin1 (by first|exact .inr rfl|exact .inl rfl) rfl (hq:=?_))
    show Value.int .u32 _ = _
    rw [Crc.more_nil s hs]
  · (refine CallS.of2 Try.func76 rfl Try.ntmps76 Try.results76 rfl ?_)
    (refine Go.run (g:=?_))
    refine GoR.call rfl rfl rfl rfl rfl rfl rfl (((row_spec _).argA).mono ?_)
    rintro _ h1 ⟨⟨l, rfl, hl1, hl2, hl3⟩, rfl⟩ s1
    refine GoR.alloc (ha := al_row) rfl rfl rfl rfl ?_
    refine GoR.store (c' := l) rfl rfl rfl rfl rfl (AHeap.get_push_same _ _) rfl hl1 (by rw [zrow_len]; decide) hl2 (setL_all (hl1.trans zrow_len.symm)) (.inr (Nat.le_refl _)) ?_
    (refine Go.run (g:=?_))
    refine GoR.com rfl rfl rfl rfl rfl (com_u32 hs) ?_
    (refine Go.run (g:=?_))
    have hg : ((h1.push (.cells zrow 117)).put h1.n (some (.cells l 117))).get h1.n = some (.cells l 117) := get_put_self (AHeap.get_push_same _ _)
    have S1 : Same h1 ((h1.push (.cells zrow 117)).put h1.n (some (.cells l 117))) := ((Same.refl h1).push _).put (Nat.le_refl _) _
    generalize ((h1.push (.cells zrow 117)).put h1.n (some (.cells l 117))) = H at *
    have hz2 := hz.same S1
    refine Go.loop (α := Nat) (fun k => [(18, .int .i64 k), (6, .int .u32 (Crc.fold (4294967295 - s) (zs.take k) : Nat)), (17, .int .i64 len), (16, .slice a len cap), (5, .pointer (some ⟨h1.n, 0, none⟩))]) (fun _ => []) (fun _ => H) (fun k => k ≤ len) (fun k => len - k) 0 (Nat.zero_le _) ⟨rfl, rfl, rfl, rfl, rfl, trivial⟩ rfl rfl ?_
    rintro k hk
    rcases Nat.lt_or_ge k len with hlt | hge
    · have hcell := byte_at (zs := zs) (k := k) (by omega)
      have hst := Crc.fold_snoc (4294967295 - s) (zs.take k) (zs[k]'(by omega))
      rw [← List.take_succ_eq_append_getElem (by omega)] at hst
      have hr := Crc.fold_lt (4294967295 - s) (zs.take k) (by omega)
      have hcb := (zs[k]'(by omega)).toNat_lt
      generalize Crc.fold (4294967295 - s) (zs.take k) = r at *
      generalize (zs[k]'(by omega)).toNat = c at *
      have hj : (r % 256) ^^^ c < 2 ^ 8 := Nat.xor_lt_two_pow (by omega) hcb
      have hlj := hl3 _ hj
      have hv := Crc.it_lt 8 ((r % 256) ^^^ c) (Nat.lt_trans hj (by decide))
      rw [← Crc.beh_row] at hst
      have hrow : (r % 2 ^ 8) ^^^ c = (r % 256) ^^^ c := rfl
      rw [hrow] at hst
      (refine Go.run (g:=?_))
      refine GoR.xorN rfl rfl rfl rfl rfl rfl (show r % 256 < 2 ^ 8 by omega) hcb ?_
      generalize (r % 256) ^^^ c = j at *
      generalize Crc.it 8 j = v at *
      (refine Go.run (g:=?_))
      refine GoR.xorN rfl rfl rfl rfl rfl rfl hv (show r / 2 ^ 8 < 2 ^ 32 by omega) ?_
      (refine Go.run (g:=?_))
      refine Go.again (k + 1) hlt (by omega) ⟨rfl, ?_, rfl, rfl, rfl, trivial⟩ rfl rfl
      rw [hst]
      rfl
    · obtain rfl : k = len := by omega
      have hr := Crc.fold_lt (4294967295 - s) (zs.take k) (by omega)
      have ht : zs.take k = zs := List.take_of_length_le (by omega)
      rw [ht] at hr ⊢
      have hm : Crc.more s zs = 4294967295 - Crc.fold (4294967295 - s) zs := rfl
      rw [hm]
      generalize Crc.fold (4294967295 - s) zs = r at *
      (refine Go.run (g:=?_))
      refine GoR.com rfl rfl rfl rfl rfl (com_u32 hr) ?_
      (refine Go.run (g:=?_))
      (first|refine Go.finT (by first|exact .inr rfl|exact .inl rfl) rfl ?_|refine Go.fin1 (by first|exact .inr rfl|exact .inl rfl) rfl (hq:=?_))
      rfl
theorem crcSum_spec (a : Option Addr) (cap : Nat) (zs : List UInt8) (hl : zs.length ≤ 1000000000) (h : AHeap) (hz : Rv Try.prog h 1 a zs.length cap (zs.map bv)) : CallS Try.prog [] 77 [.slice a zs.length cap] h fun v h' => v = .int .u32 (Crc.sum zs : Nat) := by
  (refine CallS.of1 Try.func77 rfl Try.ntmps77 Try.results77 rfl ?_)
  (refine Go.run (g:=?_))
  refine GoR.call rfl rfl rfl rfl rfl rfl rfl (((crcMore_spec 0 (by decide) a cap zs hl _ hz).argA).mono ?_)
  rintro _ h1 rfl s1
  (refine Go.run (g:=?_))
  (first|refine Go.finT (by first|exact .inr rfl|exact .inl rfl) rfl ?_|refine Go.fin1 (by first|exact .inr rfl|exact .inl rfl) rfl (hq:=?_))
  rfl
end Go.Proofs.Ytjpegoigipbmiaa
namespace Go.Proofs.Ytjpegoigipbmiaa
def beNum (l : List UInt8) : Nat := l.foldl (fun n c => n * 256 + c.toNat) 0
theorem beNum_snoc (l : List UInt8) (c : UInt8) : beNum (l ++ [c]) = beNum l * 256 + c.toNat := by simp [beNum]
theorem beNum_lt (l : List UInt8) : beNum l < 256 ^ l.length := by
  have h : ∀ (r : List UInt8), beNum r.reverse < 256 ^ r.length := by
    intro r
    induction r with
    | nil => decide
    | cons c r ih =>
      rw [List.reverse_cons, beNum_snoc, List.length_cons, Nat.pow_succ]
      have := c.toNat_lt
      omega
  have := h l.reverse
  simpa using this
theorem or_byte (n c : Nat) (hc : c < 256) : n * 2 ^ 8 ||| c = n * 256 + c := or_of_lt (n := 8) hc
theorem beNum_lt_of {l : List UInt8} {k n : Nat} (h : l.length ≤ k) (hn : 256 ^ k = n) : beNum l < n := by
  subst hn
  exact Nat.lt_of_lt_of_le (beNum_lt l) (Nat.pow_le_pow_right (by decide) h)
theorem beB4 (x : Nat) : beB 4 x = [UInt8.ofNat (x / 16777216), UInt8.ofNat (x / 65536), UInt8.ofNat (x / 256), UInt8.ofNat x] := by simp [beB, List.range_succ]
theorem beB4_split (f t : Nat) (ht : t < 65536) : beB 4 (f * 65536 + t) = beB 2 f ++ beB 2 t := by
  rw [beB4, beB2, beB2]
  have e : ∀ a b : Nat, a % 256 = b % 256 → UInt8.ofNat a = UInt8.ofNat b := fun a b h => by
    apply UInt8.toNat_inj.1
    simp only [UInt8.toNat_ofNat']
    exact h
  simp only [List.cons_append, List.nil_append]
  rw [e ((f * 65536 + t) / 16777216) (f / 256) (by omega), e ((f * 65536 + t) / 65536) f (by omega), e ((f * 65536 + t) / 256) (t / 256) (by omega), e (f * 65536 + t) t (by omega)]
def headSum (l : List UInt8) : Nat := Crc.sum (l.take 8 ++ [0, 0, 0, 0] ++ l.drop 12)
theorem headSum_eq (l : List UInt8) : Crc.more (Crc.more (Crc.sum (l.take 8)) [0, 0, 0, 0]) (l.drop 12) = headSum l := by
  unfold headSum Crc.sum
  rw [Crc.more_append 0 _ _ (by decide), Crc.more_append 0 _ _ (by decide)]
def hbytes (f t g s : Nat) (v : List UInt8) : List UInt8 := beB 2 f ++ beB 2 t ++ beB 4 g ++ beB 4 s ++ v
theorem hbytes_length (f t g s : Nat) (v : List UInt8) : (hbytes f t g s v).length = 12 + v.length := by simp [hbytes, beB_length]; omega
def hput (f t g : Nat) (v : List UInt8) : List UInt8 := hbytes f t g (Crc.sum (hbytes f t g 0 v)) v
end Go.Proofs.Ytjpegoigipbmiaa
namespace Go.Proofs.Ytjpegoigipbmiaa
set_option maxRecDepth 100000
attribute [local irreducible] Go GoR GoL
abbrev CP := Ck × CD
def kcs (l : List CP) : List Value := (l.map fun x => x.1.cs).flatten
theorem kcs_len (l : List CP) : (kcs l).length = l.length * 15 := by
  induction l with
  | nil => rfl
  | cons x l ih => simp only [kcs, List.map_cons, List.flatten_cons, List.length_append] at ih ⊢; rw [ih]; simp only [List.length_cons, List.length_nil]; omega
theorem kcs_get {l : List CP} {i : Nat} (hi : i < l.length) : ((kcs l).drop (i * 15)).take 15 = l[i].1.cs := by
  induction l generalizing i with
  | nil => simp at hi
  | cons x l ih =>
    have e : kcs (x :: l) = x.1.cs ++ kcs l := rfl
    cases i with
    | zero => rw [e, Nat.zero_mul, List.drop_zero]; exact List.take_left' rfl
    | succ i =>
      rw [e, show (i + 1) * 15 = x.1.cs.length + i * 15 from by simp only [List.length_cons, List.length_nil]; omega, ← List.drop_drop, List.drop_left' rfl]
      simpa using ih (by simpa using hi)
theorem kcs_at {l : List CP} {i j : Nat} (hi : i < l.length) (hj : j < 15) : (kcs l)[i * 15 + j]? = l[i].1.cs[j]? := by
  rw [← kcs_get hi, List.getElem?_take_of_lt hj, List.getElem?_drop]
structure KS (h : AHeap) (a : Option Addr) (n cap : Nat) (l : List CP) : Prop where
  len : l.length = n
  rv : Rv Try.prog h 15 a n cap (kcs l)
  ok : ∀ x ∈ l, COk h x.1 x.2
theorem KS.same {h h' : AHeap} {a : Option Addr} {n cap : Nat} {l : List CP} (k : KS h a n cap l) (s : Same h h') : KS h' a n cap l := ⟨k.len, k.rv.same s, fun x hx => (k.ok x hx).same s⟩
def aloneB (k : Nat) : Bool := decide (k = 1) || decide (k = 2) || decide (k = 14)
def startB (k : Nat) : Bool := decide (k = 1)
theorem alone_spec (c : Ck) (h : AHeap) : CallS Try.prog [] 27 [.int .u8 c.k] h fun v h' => v = .bool (aloneB c.k) := by
  (refine CallS.of1 Try.func27 rfl Try.ntmps27 Try.results27 rfl ?_)
  by_cases c1 : c.k = 1
  · have c1' : (c.k : Int) = 1 := by omega
    (refine Go.run (g:=?_))
    (first|refine Go.finT (by first|exact .inr rfl|exact .inl rfl) rfl ?_|refine Go.fin1 (by first|exact .inr rfl|exact .inl rfl) rfl (hq:=?_))
    simp [retV, aloneB, c1, c1']
  have c1' : ¬ (c.k : Int) = 1 := by omega
  by_cases c2 : c.k = 2
  · have c2' : (c.k : Int) = 2 := by omega
    (refine Go.run (g:=?_))
    (first|refine Go.finT (by first|exact .inr rfl|exact .inl rfl) rfl ?_|refine Go.fin1 (by first|exact .inr rfl|exact .inl rfl) rfl (hq:=?_))
    simp [retV, aloneB, c1, c2, c1', c2']
  have c2' : ¬ (c.k : Int) = 2 := by omega
  by_cases c3 : c.k = 14
  · have c3' : (c.k : Int) = 14 := by omega
    (refine Go.run (g:=?_))
    (first|refine Go.finT (by first|exact .inr rfl|exact .inl rfl) rfl ?_|refine Go.fin1 (by first|exact .inr rfl|exact .inl rfl) rfl (hq:=?_))
    simp [retV, aloneB, c1, c2, c3, c1', c2', c3']
  have c3' : ¬ (c.k : Int) = 14 := by omega
  (refine Go.run (g:=?_))
  (first|refine Go.finT (by first|exact .inr rfl|exact .inl rfl) rfl ?_|refine Go.fin1 (by first|exact .inr rfl|exact .inl rfl) rfl (hq:=?_))
  simp [retV, aloneB, c1, c2, c3, c1', c2', c3']
theorem starts_spec (c : Ck) (h : AHeap) : CallS Try.prog [] 28 [.int .u8 c.k] h fun v h' => v = .bool (startB c.k) := by
  (refine CallS.of1 Try.func28 rfl Try.ntmps28 Try.results28 rfl ?_)
  by_cases c1 : c.k = 1
  · have c1' : (c.k : Int) = 1 := by omega
    (refine Go.run (g:=?_))
    (first|refine Go.finT (by first|exact .inr rfl|exact .inl rfl) rfl ?_|refine Go.fin1 (by first|exact .inr rfl|exact .inl rfl) rfl (hq:=?_))
    simp [retV, startB, c1, c1']
  have c1' : ¬ (c.k : Int) = 1 := by omega
  (refine Go.run (g:=?_))
  (first|refine Go.finT (by first|exact .inr rfl|exact .inl rfl) rfl ?_|refine Go.fin1 (by first|exact .inr rfl|exact .inl rfl) rfl (hq:=?_))
  simp [retV, startB, c1, c1']
theorem some1_alone (c : Ck) (b : Nat) (h : AHeap) (hg : h.get b = some (.cells [.func (.func 27) #[] #[]] 53)) : CallS Try.prog [] 52 [c.v, .pointer (some ⟨b, 0, none⟩)] h fun v h' => v = .bool (aloneB c.k) := by
  unfold Ck.v
  (refine CallS.of2 Try.func52 rfl Try.ntmps52 Try.results52 rfl ?_)
  (iterate 4 (first|(refine Go.kk 0 rfl ?_;refine Go.seq ?_)|(refine Go.kk 1 rfl ?_;refine Go.region (by kernel_rfl) rfl ?_)|(refine GoR.kk 0 rfl ?_;first|refine GoR.move rfl rfl rfl rfl rfl ?_|refine GoR.assign rfl rfl rfl rfl rfl ?_)|(refine GoR.kk 8 rfl ?_;first|refine GoR.boxA rfl rfl rfl rfl rfl ?_|refine GoR.boxS rfl rfl rfl rfl rfl rfl ?_|refine GoR.alloc rfl rfl rfl rfl ?_)|refine GoR.end ?_))
  refine GoR.name ?_
  intro h3 e3
  have G0 : h3.get h.n = some (.cells c.cs 43) := by subst e3; exact AHeap.get_push_same h _
  have n3 : h3.n = h.n + 1 := by subst e3; rfl
  have S3 : Same h h3 := by subst e3; exact (Same.refl h).push _
  clear e3
  have gb := S3.get hg
  unfold Ck.cs at G0
  (refine Go.run (g:=?_))
  refine GoR.call rfl rfl rfl rfl rfl rfl rfl (((alone_spec c _).argA).mono ?_)
  rintro _ h4 rfl s4
  (refine Go.run (g:=?_))
  (first|refine Go.finT (by first|exact .inr rfl|exact .inl rfl) rfl ?_|refine Go.fin1 (by first|exact .inr rfl|exact .inl rfl) rfl (hq:=?_))
  rfl
theorem some1_starts (c : Ck) (b : Nat) (h : AHeap) (hg : h.get b = some (.cells [.func (.func 28) #[] #[]] 53)) : CallS Try.prog [] 52 [c.v, .pointer (some ⟨b, 0, none⟩)] h fun v h' => v = .bool (startB c.k) := by
  unfold Ck.v
  (refine CallS.of2 Try.func52 rfl Try.ntmps52 Try.results52 rfl ?_)
  (iterate 4 (first|(refine Go.kk 0 rfl ?_;refine Go.seq ?_)|(refine Go.kk 1 rfl ?_;refine Go.region (by kernel_rfl) rfl ?_)|(refine GoR.kk 0 rfl ?_;first|refine GoR.move rfl rfl rfl rfl rfl ?_|refine GoR.assign rfl rfl rfl rfl rfl ?_)|(refine GoR.kk 8 rfl ?_;first|refine GoR.boxA rfl rfl rfl rfl rfl ?_|refine GoR.boxS rfl rfl rfl rfl rfl rfl ?_|refine GoR.alloc rfl rfl rfl rfl ?_)|refine GoR.end ?_))
  refine GoR.name ?_
  intro h3 e3
  have G0 : h3.get h.n = some (.cells c.cs 43) := by subst e3; exact AHeap.get_push_same h _
  have n3 : h3.n = h.n + 1 := by subst e3; rfl
  have S3 : Same h h3 := by subst e3; exact (Same.refl h).push _
  clear e3
  have gb := S3.get hg
  unfold Ck.cs at G0
  (refine Go.run (g:=?_))
  refine GoR.call rfl rfl rfl rfl rfl rfl rfl (((starts_spec c _).argA).mono ?_)
  rintro _ h4 rfl s4
  (refine Go.run (g:=?_))
  (first|refine Go.finT (by first|exact .inr rfl|exact .inl rfl) rfl ?_|refine Go.fin1 (by first|exact .inr rfl|exact .inl rfl) rfl (hq:=?_))
  rfl
theorem any_snoc {α : Type} (p : α → Bool) {l : List α} {i : Nat} (hi : i < l.length) : (l.take (i + 1)).any p = ((l.take i).any p || p l[i]) := by
  rw [List.take_succ_eq_append_getElem hi, List.any_append]; simp
set_option maxHeartbeats 2000000 in
theorem indexFunc_spec (p : Nat → Bool) (b : Nat) (a : Option Addr) (n cap : Nat) (l : List CP) (h : AHeap) (k : KS h a n cap l) (hn : n ≤ 140737488355328) (hf : ∀ h1, Same h h1 → ∀ c : Ck, CallS Try.prog [] 52 [c.v, .pointer (some ⟨b, 0, none⟩)] h1 fun v h' => v = .bool (p c.k)) : CallS Try.prog [] 79 [.slice a n cap, .func (.func 52) #[] #[.pointer (some ⟨b, 0, none⟩)]] h fun v h' => (v = .int .i64 (-1) ∧ (l.any fun x => p x.1.k) = false) ∨ (∃ i : Nat, v = .int .i64 i ∧ (l.any fun x => p x.1.k) = true) := by
  (refine CallS.of2 Try.func79 rfl Try.ntmps79 Try.results79 rfl ?_)
  (refine Go.run (g:=?_))
  refine Go.loop (α := Nat × AHeap) (fun x => [(8, .int .i64 x.1), (7, .int .i64 n), (0, .slice a n cap), (1, .func (.func 52) #[] #[.pointer (some ⟨b, 0, none⟩)])]) (fun _ => []) (fun x => x.2) (fun x => Same h x.2 ∧ x.1 ≤ n ∧ ((l.take x.1).any fun x => p x.1.k) = false) (fun x => n - x.1) (0, h) ?_ ?_ rfl rfl ?_
  · exact ⟨Same.refl h, Nat.zero_le _, rfl⟩
  · exact ⟨rfl, rfl, rfl, rfl, trivial⟩
  rintro ⟨i, h4⟩ ⟨s4, hi, hp⟩
  simp only at s4 hi hp ⊢
  have k4 := k.same s4
  rcases Nat.lt_or_ge i n with i0 | i0
  · have i1 : i < l.length := by rw [k.len]; exact i0
    have c0 := kcs_get i1
    have hbe : i * 15 + 15 ≤ (kcs l).length := by rw [kcs_len]; omega
    have hA4 := k4.rv
    have hs := any_snoc (fun x : CP => p x.1.k) i1
    rw [hp, Bool.false_or] at hs
    have hmem : l[i] ∈ l := List.getElem_mem i1
    generalize l[i] = x at *
    (refine Go.run (g:=?_))
    refine GoR.call rfl rfl rfl rfl rfl rfl rfl (((hf _ s4 x.1).argA).mono ?_)
    rintro _ h5 rfl s5
    cases hx : p x.1.k
    · rw [hx] at hs
      (refine Go.run (g:=?_))
      exact Go.again (i + 1, h5) ⟨s4.trans s5, by simp only; omega, hs⟩ (by simp only; omega) ⟨rfl, rfl, rfl, rfl, trivial⟩ rfl rfl
    · (refine Go.run (g:=?_))
      (first|refine Go.finT (by first|exact .inr rfl|exact .inl rfl) rfl ?_|refine Go.fin1 (by first|exact .inr rfl|exact .inl rfl) rfl (hq:=?_))
      exact .inr ⟨i, rfl, List.any_eq_true.2 ⟨x, hmem, hx⟩⟩
  · have hie : i = n := by omega
    subst hie
    rw [← k.len, List.take_length] at hp
    (refine Go.run (g:=?_))
    (first|refine Go.finT (by first|exact .inr rfl|exact .inl rfl) rfl ?_|refine Go.fin1 (by first|exact .inr rfl|exact .inl rfl) rfl (hq:=?_))
    exact .inl ⟨rfl, hp⟩
theorem containsFunc_spec (p : Nat → Bool) (b : Nat) (a : Option Addr) (n cap : Nat) (l : List CP) (h : AHeap) (k : KS h a n cap l) (hn : n ≤ 140737488355328) (hf : ∀ h1, Same h h1 → ∀ c : Ck, CallS Try.prog [] 52 [c.v, .pointer (some ⟨b, 0, none⟩)] h1 fun v h' => v = .bool (p c.k)) : CallS Try.prog [] 51 [.slice a n cap, .func (.func 52) #[] #[.pointer (some ⟨b, 0, none⟩)]] h fun v h' => v = .bool (l.any fun x => p x.1.k) := by
  (refine CallS.of2 Try.func51 rfl Try.ntmps51 Try.results51 rfl ?_)
  (refine Go.run (g:=?_))
  refine GoR.call rfl rfl rfl rfl rfl rfl rfl (((indexFunc_spec p b a n cap l _ k hn hf).argA).mono ?_)
  rintro _ h4 (⟨rfl, e⟩ | ⟨i, rfl, e⟩) s4
  · rw [e]
    (refine Go.run (g:=?_))
    (first|refine Go.finT (by first|exact .inr rfl|exact .inl rfl) rfl ?_|refine Go.fin1 (by first|exact .inr rfl|exact .inl rfl) rfl (hq:=?_))
    rfl
  · rw [e]
    have i0 : (0 : Int) ≤ i := by omega
    (refine Go.run (g:=?_))
    (first|refine Go.finT (by first|exact .inr rfl|exact .inl rfl) rfl ?_|refine Go.fin1 (by first|exact .inr rfl|exact .inl rfl) rfl (hq:=?_))
    rfl
theorem someAlone_spec (a : Option Addr) (n cap : Nat) (l : List CP) (h : AHeap) (k : KS h a n cap l) (hn : n ≤ 140737488355328) : CallS Try.prog [] 26 [.slice a n cap, .func (.func 27) #[] #[]] h fun v h' => v = .bool (l.any fun x => aloneB x.1.k) := by
  (refine CallS.of2 Try.func26 rfl Try.ntmps26 Try.results26 rfl ?_)
  (iterate 4 (first|(refine Go.kk 0 rfl ?_;refine Go.seq ?_)|(refine Go.kk 1 rfl ?_;refine Go.region (by kernel_rfl) rfl ?_)|(refine GoR.kk 0 rfl ?_;first|refine GoR.move rfl rfl rfl rfl rfl ?_|refine GoR.assign rfl rfl rfl rfl rfl ?_)|(refine GoR.kk 8 rfl ?_;first|refine GoR.boxA rfl rfl rfl rfl rfl ?_|refine GoR.boxS rfl rfl rfl rfl rfl rfl ?_|refine GoR.alloc rfl rfl rfl rfl ?_)|refine GoR.end ?_))
  refine GoR.name ?_
  intro h3 e3
  have S3 : Same h h3 := by subst e3; exact (Same.refl h).push _
  have n3 : h3.n = h.n + 1 := by subst e3; rfl
  have G0 : h3.get h.n = some (.cells [.func (.func 27) #[] #[]] 53) := by subst e3; exact AHeap.get_push_same h _
  clear e3
  (refine Go.run (g:=?_))
  refine GoR.call rfl rfl rfl rfl rfl rfl rfl (((containsFunc_spec aloneB _ a n cap l _ (k.same S3) hn (fun h1 s1 c => some1_alone c _ h1 (s1.get G0))).argA).mono ?_)
  rintro _ h4 rfl s4
  (refine Go.run (g:=?_))
  (first|refine Go.finT (by first|exact .inr rfl|exact .inl rfl) rfl ?_|refine Go.fin1 (by first|exact .inr rfl|exact .inl rfl) rfl (hq:=?_))
  rfl
theorem someStarts_spec (a : Option Addr) (n cap : Nat) (l : List CP) (h : AHeap) (k : KS h a n cap l) (hn : n ≤ 140737488355328) : CallS Try.prog [] 26 [.slice a n cap, .func (.func 28) #[] #[]] h fun v h' => v = .bool (l.any fun x => startB x.1.k) := by
  (refine CallS.of2 Try.func26 rfl Try.ntmps26 Try.results26 rfl ?_)
  (iterate 4 (first|(refine Go.kk 0 rfl ?_;refine Go.seq ?_)|(refine Go.kk 1 rfl ?_;refine Go.region (by kernel_rfl) rfl ?_)|(refine GoR.kk 0 rfl ?_;first|refine GoR.move rfl rfl rfl rfl rfl ?_|refine GoR.assign rfl rfl rfl rfl rfl ?_)|(refine GoR.kk 8 rfl ?_;first|refine GoR.boxA rfl rfl rfl rfl rfl ?_|refine GoR.boxS rfl rfl rfl rfl rfl rfl ?_|refine GoR.alloc rfl rfl rfl rfl ?_)|refine GoR.end ?_))
  refine GoR.name ?_
  intro h3 e3
  have S3 : Same h h3 := by subst e3; exact (Same.refl h).push _
  have n3 : h3.n = h.n + 1 := by subst e3; rfl
  have G0 : h3.get h.n = some (.cells [.func (.func 28) #[] #[]] 53) := by subst e3; exact AHeap.get_push_same h _
  clear e3
  (refine Go.run (g:=?_))
  refine GoR.call rfl rfl rfl rfl rfl rfl rfl (((containsFunc_spec startB _ a n cap l _ (k.same S3) hn (fun h1 s1 c => some1_starts c _ h1 (s1.get G0))).argA).mono ?_)
  rintro _ h4 rfl s4
  (refine Go.run (g:=?_))
  (first|refine Go.finT (by first|exact .inr rfl|exact .inl rfl) rfl ?_|refine Go.fin1 (by first|exact .inr rfl|exact .inl rfl) rfl (hq:=?_))
  rfl
end Go.Proofs.Ytjpegoigipbmiaa
namespace Go.Proofs.Ytjpegoigipbmiaa
set_option maxRecDepth 100000
attribute [local irreducible] Go GoR GoL
set_option maxHeartbeats 4000000 in
theorem number_spec (a : Option Addr) (cap : Nat) (zs : List UInt8) (hl : zs.length ≤ 4) (h : AHeap) (hz : Rv Try.prog h 1 a zs.length cap (zs.map bv)) : CallS Try.prog [] 53 [.slice a zs.length cap] h fun v h' => v = .int .u32 (beNum zs : Nat) := by
  generalize hlen : zs.length = len at *
  (refine CallS.of1 Try.func53 rfl Try.ntmps53 Try.results53 rfl ?_)
  (refine Go.run (g:=?_))
  refine Go.loop (α := Nat) (fun k => [(8, .int .i64 k), (3, .int .u32 (beNum (zs.take k) : Nat)), (7, .int .i64 len), (6, .slice a len cap)]) (fun _ => []) (fun _ => h) (fun k => k ≤ len) (fun k => len - k) 0 (Nat.zero_le _) ⟨rfl, rfl, rfl, rfl, trivial⟩ rfl rfl ?_
  rintro k hk
  rcases Nat.lt_or_ge k len with hlt | hge
  · have hcell := byte_at (zs := zs) (k := k) (by omega)
    have hst := beNum_snoc (zs.take k) (zs[k]'(by omega))
    rw [← List.take_succ_eq_append_getElem (by omega)] at hst
    have hr : beNum (zs.take k) < 16777216 := beNum_lt_of (k := 3) (by simp; omega) rfl
    have hcb := (zs[k]'(by omega)).toNat_lt
    generalize beNum (zs.take k) = r at *
    generalize (zs[k]'(by omega)).toNat = c at *
    (refine Go.run (g:=?_))
    refine Go.again (k + 1) hlt (by omega) ⟨rfl, ?_, rfl, rfl, trivial⟩ rfl rfl
    rw [hst, ← or_byte r c hcb]
    rfl
  · obtain rfl : k = len := by omega
    have ht : zs.take k = zs := List.take_of_length_le (by omega)
    rw [ht]
    (refine Go.run (g:=?_))
    (first|refine Go.finT (by first|exact .inr rfl|exact .inl rfl) rfl ?_|refine Go.fin1 (by first|exact .inr rfl|exact .inl rfl) rfl (hq:=?_))
    rfl
theorem four_spec (x : Nat) (hx : x < 4294967296) (h : AHeap) : CallS Try.prog [] 47 [.int .u32 x] h fun v h' => OwnS h h' v (beB 4 x) := by
  (refine CallS.of1 Try.func47 rfl Try.ntmps47 Try.results47 rfl ?_)
  (refine Go.run (g:=?_))
  refine GoR.buildO (c := (beB 4 x).map bv) rfl rfl rfl rfl rfl (by decide) ?_ (by rfl) ?_
  · rw [beB4]
    simp only [List.map_cons, List.map_nil, bv_ofNat]
    rfl
  intro b h1 hb ob s1 n1
  (refine Go.run (g:=?_))
  (first|refine Go.finT (by first|exact .inr rfl|exact .inl rfl) rfl ?_|refine Go.fin1 (by first|exact .inr rfl|exact .inl rfl) rfl (hq:=?_))
  exact ⟨b, 4, rfl, hb, ob⟩
theorem aEq_nil {P : Program} {h : AHeap} {t e : TypeId} (hu : P.underlying t = some (.slice e)) (a : Option Addr) (len cap : Nat) : aEq P h t (.slice a len cap) (.slice none 0 0) = some (a.isNone, []) := by
  unfold aEq
  rw [hu]
  cases a <;> rfl
theorem bytesU : Try.prog.underlying 31 = some (.slice 5) := by kernel_rfl
theorem clone_spec (a : Option Addr) (cap : Nat) (zs : List UInt8) (hl : zs.length ≤ 1000000000) (h : AHeap) (hz : Rv Try.prog h 1 a zs.length cap (zs.map bv)) : CallS Try.prog [] 54 [.slice a zs.length cap] h fun v h' => OwnS h h' v zs := by
  have hone : (zs.map bv).all Value.oneCell' = true := by simp [bv, Value.oneCell']
  generalize hlen : zs.length = len at *
  cases a with
  | none =>
    obtain ⟨rfl, rfl⟩ : len = 0 ∧ cap = 0 := by
      generalize zs.map bv = cs at hz
      cases hz
      exact ⟨rfl, rfl⟩
    obtain rfl : zs = [] := List.eq_nil_of_length_eq_zero hlen
    (refine CallS.of1 Try.func54 rfl Try.ntmps54 Try.results54 rfl ?_)
    (refine Go.run (g:=?_))
    refine GoR.eqRef rfl rfl rfl rfl (.inl rfl) rfl rfl (aEq_nil bytesU _ _ _) ?_
    (refine Go.run (g:=?_))
    (first|refine Go.finT (by first|exact .inr rfl|exact .inl rfl) rfl ?_|refine Go.fin1 (by first|exact .inr rfl|exact .inl rfl) rfl (hq:=?_))
    exact ⟨none, 0, rfl, .nil, Own.nil _⟩
  | some a =>
    (refine CallS.of1 Try.func54 rfl Try.ntmps54 Try.results54 rfl ?_)
    (refine Go.run (g:=?_))
    refine GoR.eqRef rfl rfl rfl rfl (.inl rfl) rfl rfl (aEq_nil bytesU _ _ _) ?_
    (refine Go.run (g:=?_))
    refine GoR.buildO (c := []) rfl rfl rfl rfl rfl (by decide) (by rfl) (by rfl) ?_
    intro b h1 hb ob s1 n1
    (refine Go.run (g:=?_))
    refine GoR.appendV rfl rfl rfl rfl rfl rfl hb (hz.same s1) (Own.ok ob (by omega)) (by omega) (by omega) hone ?_
    intro b2 c2 h2 hb2 k2 o2
    (refine Go.run (g:=?_))
    (first|refine Go.finT (by first|exact .inr rfl|exact .inl rfl) rfl ?_|refine Go.fin1 (by first|exact .inr rfl|exact .inl rfl) rfl (hq:=?_))
    subst hlen
    rw [Nat.zero_add] at hb2 ⊢
    exact ⟨b2, c2, rfl, hb2, ob.app (by omega) o2⟩
def OwnC (h h' : AHeap) (v : Value) (n : Nat) : Prop := ∃ b cap, v = .slice b 0 cap ∧ Sv h' 5 1 b 0 cap [] ∧ Own h.n b
theorem intU : Try.prog.underlying 3 = some (.int .i64) := by kernel_rfl
theorem aAppend_zeros {P : Program} {h : AHeap} {t t₂ e : TypeId} {bytes sz by2 : Nat} {z : Value} [hM : MK P t e bytes z] [hA : AP P t t e sz by2] {kd : IntKind} (hu2 : P.underlying t₂ = some (.int kd)) {n : Nat} (h0 : 0 < n) (h1 : n ≤ 1000000000) (h2 : n * bytes ≤ 140737488355328) : aAppend P h t t₂ (.slice none 0 0) (.int kd n) = some (.slice (some ⟨h.n, 0, none⟩) n n, h.push (.cells (List.replicate n z) e), [], []) := by
  obtain ⟨inf, hi, hs, rfl⟩ := hM.i
  obtain ⟨inf', z', hi', _, _, hz, hsz, hzf, hzl⟩ := hA.i
  rw [hi] at hi'
  cases hi'
  have hzl' : z.cells.toList = [z] := by rw [cellsL_eq]; exact hM.f.2
  have hzer : aZeros P e inf.size n = some (List.replicate n z) := by
    unfold aZeros
    rw [if_neg (by rw [hs]; omega)]
    simp only [hM.hz]
    rw [if_pos ⟨hM.f.1, by rw [hzl', hs]; rfl⟩, hzl', zeros_one]
  simp only [aAppend, hM.u, hi, hz]
  rw [if_pos ⟨by omega, hzf, by omega⟩]
  have hnew : aNew P h e inf t₂ (.int kd n) = some (n, List.replicate n z, []) := by
    simp only [aNew, hu2]
    rw [if_pos ⟨by omega, by omega, by have : (n : Int) * inf.bytes = ((n * inf.bytes : Nat) : Int) := (by simp); omega⟩, Int.toNat_natCast, hzer]
    rfl
  simp only [hnew, aGrow]
  rw [if_neg (by omega), if_pos ⟨by omega, h2⟩]
theorem grow_spec (n : Nat) (hn : n ≤ 1000000000) (h : AHeap) : CallS Try.prog [] 75 [.slice none 0 0, .int .i64 n] h fun v h' => OwnC h h' v n := by
  rcases Nat.eq_zero_or_pos n with h0 | h0
  · subst h0
    (refine CallS.of2 Try.func75 rfl Try.ntmps75 Try.results75 rfl ?_)
    (refine Go.run (g:=?_))
    (first|refine Go.finT (by first|exact .inr rfl|exact .inl rfl) rfl ?_|refine Go.fin1 (by first|exact .inr rfl|exact .inl rfl) rfl (hq:=?_))
    exact ⟨none, 0, rfl, .nil, Own.nil _⟩
  · (refine CallS.of2 Try.func75 rfl Try.ntmps75 Try.results75 rfl ?_)
    (refine Go.run (g:=?_))
    simp only [Nat.sub_zero]
    refine GoR.sliceV (lo' := none) (hi' := some (.int .i64 (0 : Nat))) (l := 0) (r := 0) rfl rfl rfl rfl rfl rfl rfl Rv.nil rfl rfl (by omega) (by omega) ?_
    (refine Go.run (g:=?_))
    refine GoR.append rfl rfl rfl rfl rfl rfl (aAppend_zeros intU (by omega) (by omega) (by omega)) (fun i hi => by cases hi) ?_
    have hb := Sv.new h (List.replicate n (Value.int .u8 0)) 5 (sz := 1) (len := n) (by simp)
    (refine Go.run (g:=?_))
    refine GoR.sliceV (lo' := none) (hi' := some (.int .i64 (0 : Nat))) (l := 0) (r := 0) rfl rfl rfl rfl rfl rfl rfl (Sv.rv hb) rfl rfl (by omega) (by omega) ?_
    (refine Go.run (g:=?_))
    (first|refine Go.finT (by first|exact .inr rfl|exact .inl rfl) rfl ?_|refine Go.fin1 (by first|exact .inr rfl|exact .inl rfl) rfl (hq:=?_))
    exact ⟨some ⟨h.n, 0, none⟩, n, rfl, hb.sub (l := 0) (r := 0) (by omega) (by omega), Own.mk (Nat.le_refl _)⟩
def SlAll (P : Program) (h : AHeap) (vs : List Value) (ls : List (List UInt8)) : Prop := vs.length = ls.length ∧ ∀ (i : Nat) (zs : List UInt8), ls[i]? = some zs → ∃ a cap, vs[i]? = some (Value.slice a zs.length cap) ∧ Rv P h 1 a zs.length cap (zs.map bv)
theorem flat_take {ls : List (List UInt8)} {k : Nat} {zs : List UInt8} (e : ls[k]? = some zs) : (ls.take (k + 1)).flatten = (ls.take k).flatten ++ zs := by
  rw [List.take_add_one, e]
  simp
theorem flat_le (ls : List (List UInt8)) (k : Nat) : (ls.take k).flatten.length ≤ ls.flatten.length := by
  have e : ls.flatten = (ls.take k).flatten ++ (ls.drop k).flatten := by rw [← List.flatten_append, List.take_append_drop]
  rw [e, List.length_append]
  omega
set_option maxHeartbeats 4000000 in
theorem concat_spec (a : Option Addr) (cap : Nat) (vs : List Value) (ls : List (List UInt8)) (hsm : vs.length ≤ 1000) (htot : ls.flatten.length ≤ 1000000) (h : AHeap) (hA : SlAll Try.prog h vs ls) (hv : Rv Try.prog h 1 a vs.length cap vs) : CallS Try.prog [] 46 [.slice a vs.length cap] h fun v h' => OwnS h h' v ls.flatten := by
  have hone : ∀ l : List UInt8, (l.map bv).all Value.oneCell' = true := fun l => by simp [bv, Value.oneCell']
  obtain ⟨hll, hA⟩ := hA
  generalize hlen : vs.length = len at *
  (refine CallS.of1 Try.func46 rfl Try.ntmps46 Try.results46 rfl ?_)
  (refine Go.run (g:=?_))
  refine Go.loop (α := Nat) (fun k => [(11, .int .i64 k), (3, .int .i64 ((ls.take k).flatten.length : Nat)), (10, .int .i64 len), (9, .slice a len cap), (0, .slice a len cap)]) (fun _ => []) (fun _ => h) (fun k => k ≤ len) (fun k => len - k) 0 (Nat.zero_le _) ⟨rfl, rfl, rfl, rfl, rfl, trivial⟩ rfl rfl ?_
  rintro k hk
  rcases Nat.lt_or_ge k len with hlt | hge
  · obtain ⟨zs, hzs⟩ : ∃ zs, ls[k]? = some zs := ⟨_, List.getElem?_eq_getElem (by omega)⟩
    obtain ⟨a1, c1, hcell, hz⟩ := hA k zs hzs
    have hst := congrArg List.length (flat_take hzs)
    rw [List.length_append] at hst
    have hle := flat_le ls (k + 1)
    generalize (ls.take k).flatten.length = r at *
    (refine Go.run (g:=?_))
    refine Go.again (k + 1) hlt (by omega) ⟨rfl, ?_, rfl, rfl, rfl, trivial⟩ rfl rfl
    rw [hst]
    rfl
  · obtain rfl : k = len := by omega
    have ht : ls.take k = ls := List.take_of_length_le (by omega)
    rw [ht]
    (refine Go.run (g:=?_))
    refine GoR.call rfl rfl rfl rfl rfl rfl rfl (((grow_spec ls.flatten.length (by omega) _).argA).mono ?_)
    rintro _ h1 ⟨b, c1, rfl, hb, ob⟩ s1
    (refine Go.run (g:=?_))
    refine Go.loop (α := Nat × Option Addr × Nat × AHeap) (fun x => [(27, .int .i64 x.1), (6, .slice x.2.1 (ls.take x.1).flatten.length x.2.2.1), (26, .int .i64 k), (25, .slice a k cap)]) (fun _ => []) (fun x => x.2.2.2)
      (fun x => x.1 ≤ k ∧ Same h x.2.2.2 ∧ Own h.n x.2.1 ∧ Sv x.2.2.2 5 1 x.2.1 (ls.take x.1).flatten.length x.2.2.1 ((ls.take x.1).flatten.map bv)) (fun x => k - x.1) (0, b, c1, h1) ?_ ?_ rfl rfl ?_
    · exact ⟨Nat.zero_le _, s1, ob, hb⟩
    · exact ⟨rfl, rfl, rfl, rfl, trivial⟩
    · clear hb ob s1
      rintro ⟨j, b, c2, h2⟩ ⟨hj, s2, ob, hb⟩
      simp only at hj s2 ob hb ⊢
      rcases Nat.lt_or_ge j k with hlt | hge2
      · obtain ⟨zs, hzs⟩ : ∃ zs, ls[j]? = some zs := ⟨_, List.getElem?_eq_getElem (by omega)⟩
        obtain ⟨a1, c1, hcell, hz⟩ := hA j zs hzs
        have hst := flat_take hzs
        have hle := flat_le ls (j + 1)
        have hv2 := hv.same s2
        have hz2 := hz.same s2
        rw [hst, List.length_append] at hle
        (refine Go.run (g:=?_))
        refine GoR.appendV rfl rfl rfl rfl rfl rfl hb hz2 (Own.ok ob (by omega)) (by omega) (by omega) (hone _) ?_
        intro b3 c3 h3 hb3 k3 o3
        (refine Go.run (g:=?_))
        refine Go.again (j + 1, b3, c3, h3) ⟨hlt, s2.ownO k3 ob (by omega), ob.app s2.1 o3, ?_⟩ (by simp only; omega) ⟨rfl, ?_, rfl, rfl, trivial⟩ rfl rfl
        · simp only [hst, List.length_append, List.map_append]
          exact hb3
        · simp only [hst, List.length_append]
          rfl
      · obtain rfl : j = k := by omega
        rw [ht] at hb ⊢
        (refine Go.run (g:=?_))
        (first|refine Go.finT (by first|exact .inr rfl|exact .inl rfl) rfl ?_|refine Go.fin1 (by first|exact .inr rfl|exact .inl rfl) rfl (hq:=?_))
        exact ⟨b, c2, rfl, hb, ob⟩
end Go.Proofs.Ytjpegoigipbmiaa
namespace Go.Proofs.Ytjpegoigipbmiaa
set_option maxRecDepth 100000
attribute [local irreducible] Go GoR GoL
theorem crcSum_n (a : Option Addr) (cap : Nat) (zs : List UInt8) (n : Nat) (hn : zs.length = n) (hl : n ≤ 1000000000) (h : AHeap) (hz : Rv Try.prog h 1 a n cap (zs.map bv)) : CallS Try.prog [] 77 [.slice a n cap] h fun v h' => v = .int .u32 (Crc.sum zs : Nat) := by
  subst hn
  exact crcSum_spec a cap zs hl h hz
theorem crcMore_n (s : Nat) (hs : s < 4294967296) (a : Option Addr) (cap : Nat) (zs : List UInt8) (n : Nat) (hn : zs.length = n) (hl : n ≤ 1000000000) (h : AHeap) (hz : Rv Try.prog h 1 a n cap (zs.map bv)) : CallS Try.prog [] 76 [.int .u32 s, .slice a n cap] h fun v h' => v = .int .u32 (Crc.more s zs : Nat) := by
  subst hn
  exact crcMore_spec s hs a cap zs hl h hz
theorem number_n (a : Option Addr) (cap : Nat) (zs : List UInt8) (n : Nat) (hn : zs.length = n) (hl : n ≤ 4) (h : AHeap) (hz : Rv Try.prog h 1 a n cap (zs.map bv)) : CallS Try.prog [] 53 [.slice a n cap] h fun v h' => v = .int .u32 (beNum zs : Nat) := by
  subst hn
  exact number_spec a cap zs hl h hz
theorem clone_n (a : Option Addr) (cap : Nat) (zs : List UInt8) (n : Nat) (hn : zs.length = n) (hl : n ≤ 1000000000) (h : AHeap) (hz : Rv Try.prog h 1 a n cap (zs.map bv)) : CallS Try.prog [] 54 [.slice a n cap] h fun v h' => OwnS h h' v zs := by
  subst hn
  exact clone_spec a cap zs hl h hz
set_option maxHeartbeats 4000000 in
theorem sum_spec (a : Option Addr) (cap : Nat) (zs : List UInt8) (h12 : 12 ≤ zs.length) (hl : zs.length ≤ 1000000) (h : AHeap) (hz : Rv Try.prog h 1 a zs.length cap (zs.map bv)) : CallS Try.prog [] 48 [.slice a zs.length cap] h fun v h' => v = .int .u32 (headSum zs : Nat) := by
  generalize hlen : zs.length = len at *
  (refine CallS.of1 Try.func48 rfl Try.ntmps48 Try.results48 rfl ?_)
  (refine Go.run (g:=?_))
  refine GoR.bHi (r := 8) rfl rfl rfl rfl rfl rfl hz (by omega) ?_
  intro a1 hz1 _
  (refine Go.run (g:=?_))
  refine GoR.call rfl rfl rfl rfl rfl rfl rfl (((crcSum_n a1 cap (zs.take 8) 8 (by simp; omega) (by omega) _ hz1).argA).mono ?_)
  rintro _ h1 rfl s1
  (refine Go.run (g:=?_))
  refine GoR.makeO (l := 4) (c := 4) rfl rfl rfl rfl rfl rfl rfl (by decide) (by decide) ?_
  intro b h2 hb ob s2 n2
  (refine Go.run (g:=?_))
  refine GoR.call rfl rfl rfl rfl rfl rfl rfl (((crcMore_n (Crc.sum (zs.take 8)) (Crc.more_lt _ _) b 4 [0, 0, 0, 0] 4 rfl (by omega) _ (Sv.rv hb)).argA).mono ?_)
  rintro _ h3 rfl s3
  (refine Go.run (g:=?_))
  have hz3 := ((hz.same s1).same s2).same s3
  refine GoR.bLo (l := 12) rfl rfl rfl rfl rfl rfl hz3 (by omega) ?_
  intro a4 hz4 _
  (refine Go.run (g:=?_))
  have e4 : ((zs.drop 12).take (len - 12)) = zs.drop 12 := List.take_of_length_le (by simp; omega)
  rw [e4] at hz4
  refine GoR.call rfl rfl rfl rfl rfl rfl rfl (((crcMore_n (Crc.more (Crc.sum (zs.take 8)) [0, 0, 0, 0]) (Crc.more_lt _ _) a4 (cap - 12) (zs.drop 12) (len - 12) (by simp; omega) (by omega) _ hz4).argA).mono ?_)
  rintro _ h5 rfl s5
  (refine Go.run (g:=?_))
  (first|refine Go.finT (by first|exact .inr rfl|exact .inl rfl) rfl ?_|refine Go.fin1 (by first|exact .inr rfl|exact .inl rfl) rfl (hq:=?_))
  rw [← headSum_eq]
  rfl
theorem GoL.callS {P : Program} {W : Nat → Prop} {q : Bool} {N : Nat} {k : List It} {ov : Ov} {df : List Nat} {h : AHeap} {Q : PQ} {ops : Array Oper} {os : List Oper} {o : Oper} {d : Nat} {tr : List (Option LE)} {f : Operand} {xs : Array Operand} {ts : Array TypeId} {g : FuncId} {first cap : Array Value} {us : List Value} (ho : o.op = .call ⟨.value f, xs, ts⟩) (hd : o.dst = some d) (hN : dOk d N = true) (hgd : o.guard = none) (hf : evO ov f = some (.func (.func g) first cap)) (hx : evOs ov xs.toList = some us) (hc : calls P g = true)
    (hk : CallS P [] g (first.toList ++ us ++ cap.toList) h fun v h' => Same h h' → GoL P W q N ops (tr ++ [some ⟨h.n, h'.n, [], [], true, false⟩]) os k ((d, v) :: ov) df h' Q) : GoL P W q N ops tr (o :: os) k ov df h Q :=
  GoL.call (wr := []) ho hd hN hgd hf hx hc (hk.mono fun v h' g kp => ⟨fun i hi => absurd hi List.not_mem_nil, g ⟨kp.1, fun i hi => kp.2 i hi List.not_mem_nil⟩⟩)
abbrev hdV (f t g : Nat) : Value := .agg #[.int .u16 f, .int .u16 t, .int .u32 g]
theorem headPut_err2 (f t g : Nat) (a : Option Addr) (n cap : Nat) (hb : n % 4 = 0) (hn : 1488 < n) (h : AHeap) : CallS Try.prog [] 24 [hdV f t g, .slice a n cap] h fun v h' => v = .tuple #[.slice none 0 0, .int .i64 3] := by
  (refine CallS.of2 Try.func24 rfl Try.ntmps24 Try.results24 rfl ?_)
  (refine Go.run (g:=?_))
  (first|refine Go.finT (by first|exact .inr rfl|exact .inl rfl) rfl ?_|refine Go.fin1 (by first|exact .inr rfl|exact .inl rfl) rfl (hq:=?_))
  rfl
theorem hbytes_take (f t g s : Nat) (v : List UInt8) : (hbytes f t g s v).take 8 = beB 2 f ++ beB 2 t ++ beB 4 g := by
  unfold hbytes
  rw [List.append_assoc (beB 2 f ++ beB 2 t ++ beB 4 g), List.take_append_of_le_length (by simp [beB_length]), List.take_of_length_le (by simp [beB_length])]
theorem hbytes_drop (f t g s : Nat) (v : List UInt8) : (hbytes f t g s v).drop 12 = v := by
  unfold hbytes
  rw [List.drop_append]
  simp [beB_length]
theorem headSum_hbytes (f t g s : Nat) (v : List UInt8) : headSum (hbytes f t g s v) = Crc.sum (hbytes f t g 0 v) := by
  unfold headSum
  rw [hbytes_take, hbytes_drop]
  rfl
theorem hbytes_set (f t g s : Nat) (v : List UInt8) : setL ((hbytes f t g 0 v).map bv) (8 * 1) (((beB 4 s).map bv).take (min 4 (12 - 8))) = (hbytes f t g s v).map bv := by
  unfold hbytes
  rw [List.append_assoc (beB 2 f ++ beB 2 t ++ beB 4 g), List.map_append, setL_tail _ _ _ (by simp [beB_length]), List.take_of_length_le (by simp [beB_length]), List.map_append (l₁ := beB 4 0), List.drop_append_of_le_length (by simp [beB_length]), List.drop_of_length_le (by simp [beB_length])]
  simp
set_option maxHeartbeats 4000000 in
theorem headPut_ok (f t g : Nat) (hf : f < 65536) (ht : t < 65536) (hg : g < 4294967296) (a : Option Addr) (n cap : Nat) (zs : List UInt8) (hlen : zs.length = n) (hb : n % 4 = 0) (hn : n ≤ 1488) (h : AHeap) (hz : Rv Try.prog h 1 a n cap (zs.map bv)) : CallS Try.prog [] 24 [hdV f t g, .slice a n cap] h fun v h' => OwnE h h' v (hput f t g zs) := by
  have e := or_of_lt (a := f) (n := 16) ht
  (refine CallS.of2 Try.func24 rfl Try.ntmps24 Try.results24 rfl ?_)
  (refine Go.run (g:=?_))
  rw [e]
  refine GoR.call rfl rfl rfl rfl rfl rfl rfl (((four_spec (f * 2 ^ 16 + t) (by omega) _).argA).mono ?_)
  rintro _ h1 ⟨b1, c1, rfl, hb1, ob1⟩ s1
  simp only [beB_length] at hb1 ⊢
  (refine Go.run (g:=?_))
  refine GoR.call rfl rfl rfl rfl rfl rfl rfl (((four_spec g hg _).argA).mono ?_)
  rintro _ h2 ⟨b2, c2, rfl, hb2, ob2⟩ s2
  simp only [beB_length] at hb2 ⊢
  (refine Go.run (g:=?_))
  refine GoR.makeO (l := 4) (c := 4) rfl rfl rfl rfl rfl rfl rfl (by decide) (by decide) ?_
  intro b3 h3 hb3 ob3 s3 n3
  (refine Go.run (g:=?_))
  refine GoR.buildO (c := [.slice b1 4 c1, .slice b2 4 c2, .slice b3 4 4, .slice a n cap]) rfl rfl rfl rfl rfl (by decide) (by rfl) (by rfl) ?_
  intro b4 h4 hb4 ob4 s4 n4
  have S4 : True → Same h h4 := fun _ => (((((Same.refl h).push _).trans s1).trans s2).trans s3).trans s4
  have hA : SlAll Try.prog h4 [.slice b1 4 c1, .slice b2 4 c2, .slice b3 4 4, .slice a n cap] [beB 4 (f * 2 ^ 16 + t), beB 4 g, [0, 0, 0, 0], zs] := by
    refine ⟨rfl, fun i l hi => ?_⟩
    match i, hi with
    | 0, hi => cases hi; exact ⟨b1, c1, rfl, (((hb1.same s2).same s3).same s4).rv⟩
    | 1, hi => cases hi; exact ⟨b2, c2, rfl, ((hb2.same s3).same s4).rv⟩
    | 2, hi => cases hi; exact ⟨b3, 4, rfl, (hb3.same s4).rv⟩
    | 3, hi => cases hi; exact ⟨a, cap, by rw [hlen]; rfl, by rw [hlen]; exact hz.same (S4 trivial)⟩
  have hfl : [beB 4 (f * 2 ^ 16 + t), beB 4 g, [0, 0, 0, 0], zs].flatten = hbytes f t g 0 zs := by
    have e0 : beB 4 0 = [0, 0, 0, 0] := rfl
    have e1 := beB4_split f t ht
    rw [show f * 2 ^ 16 = f * 65536 from rfl, e1]
    simp [hbytes, e0]
  refine GoR.call rfl rfl rfl rfl rfl rfl rfl (((concat_spec b4 4 [.slice b1 4 c1, .slice b2 4 c2, .slice b3 4 4, .slice a n cap] _ (show 4 ≤ 1000 by decide) (by rw [hfl, hbytes_length]; omega) _ hA (Sv.rv hb4)).argA).mono ?_)
  rintro _ h5 ⟨b6, c6, rfl, hb6, ob6⟩ s5
  rw [hfl, hbytes_length, hlen] at hb6 ⊢
  clear hA hb1 hb2 hb3 hb4 ob1 ob2 ob3 ob4
  have S5 : True → Same h h5 := fun _ => (S4 trivial).trans s5
  have hn4 := (S4 trivial).1
  have hn5 := s5.1
  clear s1 s2 s3 s4 s5 S4 n3 n4
  (refine Go.run (g:=?_))
  refine Go.loud (by kernel_rfl) rfl ?_
  (refine Go.runL (g:=?_))
  refine GoL.sliceV (lo' := some (.int .i64 8)) (hi' := some (.int .i64 12)) (l := 8) (r := 12) rfl rfl rfl rfl rfl rfl rfl (Sv.rv hb6) rfl rfl (by omega) (by have := hb6.le; omega) ?_
  (refine Go.runL (g:=?_))
  have hbl := hbytes_length f t g 0 zs
  have hsum := sum_spec b6 c6 (hbytes f t g 0 zs) (by omega) (by omega) h5 (by rw [hbl, hlen]; exact Sv.rv hb6)
  rw [hbl, hlen] at hsum
  refine GoL.callS rfl rfl rfl rfl rfl rfl rfl (((hsum).argA).mono ?_)
  rintro _ h7 rfl s7
  (refine Go.runL (g:=?_))
  rw [headSum_hbytes]
  have hsl : Crc.sum (hbytes f t g 0 zs) < 4294967296 := Crc.more_lt _ _
  refine GoL.callS rfl rfl rfl rfl rfl rfl rfl (((four_spec (Crc.sum (hbytes f t g 0 zs)) hsl _).argA).mono ?_)
  rintro _ h8 ⟨b8, c8, rfl, hb8, ob8⟩ s8
  simp only [beB_length] at hb8 ⊢
  (refine Go.runL (g:=?_))
  have hb6' := (hb6.same s7).same s8
  have hn7 := s7.1
  have hn8 := s8.1
  refine GoL.copySub (kk := 8 * 1) (len' := 12 - 8) (cap₂ := c6 - 8) rfl rfl rfl rfl rfl rfl hb6' (by omega) (Sv.rv hb8) (Own.ok ob6 (by omega)) (by simp [bv, Value.oneCell']) ?_
  intro h9 rd wr hwr hrd hb9 k9 n9
  clear hb6 hsum
  (refine GoL.end_ (g:=?_))
  (refine Go.run (g:=?_))
  (first|refine Go.finT (by first|exact .inr rfl|exact .inl rfl) rfl ?_|refine Go.fin1 (by first|exact .inr rfl|exact .inl rfl) rfl (hq:=?_))
  have hL : (hput f t g zs).length = 12 + n := by rw [hput, hbytes_length, hlen]
  refine ⟨b6, c6, by rw [hL]; rfl, ?_, ob6.mono (by omega)⟩
  rw [hL]
  rw [hbytes_set] at hb9
  exact hb9
end Go.Proofs.Ytjpegoigipbmiaa
namespace Go.Proofs.Ytjpegoigipbmiaa
set_option maxRecDepth 100000
attribute [local irreducible] Go GoR GoL
theorem WS.wr {h0 h : AHeap} {zs : List UInt8} {e n : Nat} {b : Option Addr} {cap : Nat} (w : WS h0 h zs e b cap) (hle : n ≤ h0.n) : ∀ i ∈ h0.n :: blk b, i ∈ ([] : List Nat) ∨ n ≤ i := fun i hi => .inr (by
  rcases List.mem_cons.1 hi with rfl | x
  · exact hle
  · have := w.own _ x; omega)
theorem WS.fresh {h0 h : AHeap} {zs : List UInt8} {e : Nat} {b : Option Addr} {cap : Nat} (w : WS h0 h zs e b cap) {la : Option Addr} (o : Own h.n la) : ∀ i ∈ blk la, i ∉ h0.n :: blk b := fun i hi hm => by
  have h1 := o i hi
  have := w.n
  rcases List.mem_cons.1 hm with rfl | x
  · omega
  · have := w.sv.lt _ x; omega
theorem WS.old {h0 h : AHeap} {zs : List UInt8} {e : Nat} {b : Option Addr} {cap : Nat} (w : WS h0 h zs e b cap) {la : Option Addr} (o : ∀ i ∈ blk la, i < h0.n) : ∀ i ∈ blk la, i ∉ h0.n :: blk b := fun i hi hm => by
  have h1 := o i hi
  rcases List.mem_cons.1 hm with rfl | x
  · omega
  · have := w.own _ x; omega
set_option maxHeartbeats 8000000 in
theorem cput_spec (c : Ck) (d : CD) (h : AHeap) (ok : COk h c d) (hD : c.D.n ≤ 1000000000) (hC : c.C.n ≤ 2000000) : CallS Try.prog [] 23 [c.v] h fun v h' => PutR h h' v c d := by
  have hmay := may_spec c ok.f d.gaps ok.gl ok.gb
  unfold PutR
  unfold Ck.v
  (refine CallS.of1 Try.func23 rfl Try.ntmps23 Try.results23 rfl ?_)
  (iterate 4 (first|(refine Go.kk 0 rfl ?_;refine Go.seq ?_)|(refine Go.kk 1 rfl ?_;refine Go.region (by kernel_rfl) rfl ?_)|(refine GoR.kk 0 rfl ?_;first|refine GoR.move rfl rfl rfl rfl rfl ?_|refine GoR.assign rfl rfl rfl rfl rfl ?_)|(refine GoR.kk 8 rfl ?_;first|refine GoR.boxA rfl rfl rfl rfl rfl ?_|refine GoR.boxS rfl rfl rfl rfl rfl rfl ?_|refine GoR.alloc rfl rfl rfl rfl ?_)|refine GoR.end ?_))
  refine GoR.name ?_
  intro h3 e3
  have G0 : h3.get h.n = some (.cells c.cs 43) := by
    subst e3
    exact AHeap.get_push_same h _
  have n3 : h3.n = h.n + 1 := by subst e3; rfl
  have S3 : Same h h3 := by subst e3; exact (Same.refl h).push _
  clear e3
  unfold Ck.cs at G0
  (refine Go.run (g:=?_))
  have hmay3 := hmay h3 (ok.gv.same S3)
  clear hmay
  cases hm : may c d.gaps
  · rw [hm] at hmay3
    simp only [Bool.false_eq_true, if_false]
    refine GoR.call rfl rfl rfl rfl rfl rfl rfl (((hmay3).argA).mono ?_)
    rintro _ h4 rfl s4
    (refine Go.run (g:=?_))
    (first|refine Go.finT (by first|exact .inr rfl|exact .inl rfl) rfl ?_|refine Go.fin1 (by first|exact .inr rfl|exact .inl rfl) rfl (hq:=?_))
    rfl
  rw [hm] at hmay3
  simp only [if_true]
  have hmf : MayF c := by
    unfold may at hm
    simp only [Bool.and_eq_true, decide_eq_true_eq] at hm
    exact hm.1
  refine GoR.call rfl rfl rfl rfl rfl rfl rfl (((hmay3).argA).mono ?_)
  rintro _ h4 rfl s4
  (have nn := (s4).1; try simp only [AHeap.n_push, AHeap.n_put] at nn)
  have ok4 := (ok.same S3).same s4
  have S4 := S3.trans s4
  have G4 := s4.get G0
  clear s4 S3 G0 hmay3
  (iterate 16 (first|refine GoR.end ?_|(refine GoR.gd rfl ?_;first|refine GoR.wanted' rfl rfl rfl rfl (g:=?_)|refine GoR.unwanted' rfl rfl rfl rfl (hd:=rfl) (hN:=rfl) (g:=?_)|refine GoR.unwantedU rfl rfl rfl rfl rfl rfl ?_)|(refine GoR.kk 0 rfl ?_;first|refine GoR.move rfl rfl rfl rfl rfl ?_|refine GoR.assign rfl rfl rfl rfl rfl ?_)|(refine GoR.kk 1 rfl ?_;first|refine GoR.load' rfl rfl rfl rfl rfl (g:=?_)|refine GoR.loadA' rfl rfl rfl rfl rfl (hv:=rfl) (g:=?_)|refine GoR.loadV' rfl rfl rfl rfl rfl (g:=?_)|refine GoR.loadVN' rfl rfl rfl rfl rfl (g:=?_))|(refine GoR.kk 2 rfl ?_;first|refine GoR.store' rfl rfl rfl rfl rfl (hl:=rfl) (h1:=rfl) (h3:=rfl) (g:=?_))|(refine GoR.kk 3 rfl ?_;first|refine GoR.fieldAddr rfl rfl rfl rfl rfl ?_|refine GoR.indexN' rfl rfl rfl rfl rfl rfl (g:=?_)|refine GoR.indexNs' rfl rfl rfl rfl rfl rfl (g:=?_)|refine GoR.indexV' rfl rfl rfl rfl rfl rfl (g:=?_)|refine GoR.indexA' rfl rfl rfl rfl rfl rfl (g:=?_)|refine GoR.fieldV' rfl rfl rfl rfl rfl (g:=?_))|(refine GoR.kk 4 rfl ?_;first|refine GoR.eq rfl rfl rfl rfl rfl rfl ?_|refine GoR.ne rfl rfl rfl rfl rfl rfl ?_|refine GoR.lt rfl rfl rfl rfl rfl rfl ?_|refine GoR.le rfl rfl rfl rfl rfl rfl ?_|refine GoR.gt rfl rfl rfl rfl rfl rfl ?_|refine GoR.ge rfl rfl rfl rfl rfl rfl ?_|refine GoR.addN' rfl rfl rfl rfl rfl rfl (g:=?_)|refine GoR.subN' rfl rfl rfl rfl rfl rfl (g:=?_)|refine GoR.add' rfl rfl rfl rfl rfl rfl (g:=?_)|refine GoR.sub' rfl rfl rfl rfl rfl rfl (g:=?_)|refine GoR.addM' rfl rfl rfl rfl rfl rfl (g:=?_)|refine GoR.subM' rfl rfl rfl rfl rfl rfl (g:=?_)|refine GoR.mulM' rfl rfl rfl rfl rfl rfl (g:=?_)|refine GoR.shrN rfl rfl rfl rfl rfl rfl rfl ?_|refine GoR.structEq rfl rfl rfl rfl rfl rfl (by rfl) (by rfl) ?_|refine GoR.structNe rfl rfl rfl rfl rfl rfl (by rfl) (by rfl) ?_|refine GoR.strEq rfl rfl rfl rfl rfl rfl ?_|refine GoR.strNe rfl rfl rfl rfl rfl rfl ?_|refine GoR.remN' rfl rfl rfl rfl rfl rfl (g:=?_)|refine GoR.quoN' rfl rfl rfl rfl rfl rfl (g:=?_)|refine GoR.shlN' rfl rfl rfl rfl rfl rfl rfl (g:=?_)|refine GoR.orN' rfl rfl rfl rfl rfl rfl (g:=?_))|(refine GoR.kk 5 rfl ?_;first|refine GoR.len rfl rfl rfl rfl rfl ?_|refine GoR.lenStr rfl rfl rfl rfl rfl ?_|refine GoR.capB rfl rfl rfl rfl rfl ?_)|(refine GoR.kk 7 rfl ?_;first|refine GoR.pickE' rfl rfl rfl rfl rfl (hx:=rfl) (hy:=rfl) (g:=?_)|refine GoR.pickN' rfl rfl rfl rfl rfl (hx:=rfl) (hy:=rfl) (g:=?_)|refine GoR.pickB rfl rfl rfl rfl rfl rfl rfl ?_)|(refine GoR.kk 8 rfl ?_;first|refine GoR.boxA rfl rfl rfl rfl rfl ?_|refine GoR.boxS rfl rfl rfl rfl rfl rfl ?_|refine GoR.alloc rfl rfl rfl rfl ?_)|(refine GoR.kk 9 rfl ?_;first|refine GoR.strV' rfl rfl rfl rfl rfl (g:=?_)|refine GoR.conv_u8 rfl rfl rfl rfl rfl ?_|refine GoR.convW' rfl rfl rfl rfl rfl (g:=?_)|refine GoR.conv_u16 rfl rfl rfl rfl rfl ?_|refine GoR.conv_u32 rfl rfl rfl rfl rfl ?_)|(refine GoR.kk 10 rfl ?_;first|refine GoR.build' rfl rfl rfl rfl rfl rfl (g:=?_))|(refine GoR.kk 11 rfl ?_;first|refine GoR.extract rfl rfl rfl rfl rfl rfl ?_|refine GoR.not rfl rfl rfl rfl rfl ?_|refine GoR.nilCheck rfl rfl rfl rfl rfl ?_|refine GoR.nilCheckF rfl rfl rfl rfl rfl ?_|refine GoR.makeFunc rfl rfl rfl rfl rfl rfl ?_)|(refine Go.kk 0 rfl ?_;refine Go.seq ?_)|(refine Go.kk 1 rfl ?_;refine Go.region (by kernel_rfl) rfl ?_)|(refine Go.kk 2 rfl ?_;refine Go.drawnQ rfl (by kernel_rfl) rfl ?_)|(refine Go.kk 3 rfl ?_;first|refine Go.cond_t' rfl (g:=?_)|refine Go.cond_f' rfl (g:=?_))|(refine Go.kk 4 rfl ?_;refine Go.block ?_)|(refine Go.kk 5 rfl ?_;first|refine Go.skip ?_|refine Go.ret ?_|refine Go.exit ?_|refine Go.scope ?_)|refine Go.leave_normal ?_|refine Go.leave_same ?_|refine Go.leave_ret ?_|refine Go.ret_code ?_|refine Go.exit_code ?_|refine Go.leave_other rfl ?_|refine Go.sc_normal ?_|refine Go.sc_ret ?_|refine Go.sc_exit ?_|refine Go.exit_back ?_|refine Go.ret_back ?_))
  refine Go.name ?_
  intro h5 e5
  have w0 : WS h4 h5 [] 0 none 0 := by
    subst e5
    exact ⟨(Same.refl h4).push _, by simp, AHeap.get_push_same h4 _, .nil, Own.nil _⟩
  clear e5
  have nn0 := w0.n
  have G5 := w0.same.get G4
  have tsn := ok.tsn
  have tag := ok.tag
  have rwnd := ok.rwnd
  have ppid := ok.ppid
  have hout := ok.out
  have hinn := ok.inn
  have hsid := ok.sid
  have hssn := ok.ssn
  have hm4 := S4.1
  obtain ⟨-, mA, mG, mU, -⟩ := hmf
  refine Go.join1 (α := Option Addr × Nat × AHeap × List UInt8 × Nat) (fun x => [(1, .pointer (some ⟨h.n, 0, none⟩)), (4, .pointer (some ⟨h4.n, 0, none⟩))]) (fun _ => []) (fun x => x.2.2.1)
    (fun x => WS h4 x.2.2.1 x.2.2.2.1 x.2.2.2.2 x.1 x.2.1 ∧ x.2.2.2.1.length ≤ 140737488355328 ∧ ((x.2.2.2.2 = 0 ∧ cval c d = some x.2.2.2.1) ∨ (x.2.2.2.2 = 3 ∧ cval c d = none))) ?_ ?_
  · rcases (show c.k = 0 ∨ c.k = 1 ∨ c.k = 2 ∨ c.k = 3 ∨ c.k = 6 ∨ c.k = 9 ∨ c.k = 7 ∨ (c.k ≠ 0 ∧ c.k ≠ 1 ∧ c.k ≠ 2 ∧ c.k ≠ 3 ∧ c.k ≠ 6 ∧ c.k ≠ 9 ∧ c.k ≠ 7) by omega) with hk | hk | hk | hk | hk | hk | hk | ⟨k0, k1, k2, k3, k6, k9, k7⟩
    · have hcv : cval c d = some (beB 4 c.tsn ++ beB 2 c.sid ++ beB 2 c.ssn ++ beB 4 c.ppid ++ d.data) := by unfold cval; rw [hk]; rfl
      (refine Go.run (g:=?_))
      refine GoR.buildRo (c := w32s [c.tsn]) rfl rfl rfl rfl rfl (by decide) (by rfl) (by rfl) ?_
      intro bl1 hl1 hbl1 rbl1 obl1 sl1 nl1
      (refine Go.run (g:=?_))
      refine GoR.callW rfl rfl rfl rfl rfl rfl rfl (((wu32_spec _ _ _ _ _ _ (w0.to sl1) [c.tsn] (by simp; omega) (by simp [beB_length, be4s_len, be2s_len]) bl1 1 hbl1 (w0.fresh obl1)).argA).mono ?_)
      rintro _ hh1 ⟨bb1, cc1, w1, -⟩ -
      refine ⟨w0.wr (by omega), ?_⟩
      have nn1 := w1.n
      have G1 := w1.same.get G4
      (refine Go.run (g:=?_))
      refine GoR.buildRo (c := w16s [c.sid, c.ssn]) rfl rfl rfl rfl rfl (by decide) (by rfl) (by rfl) ?_
      intro bl2 hl2 hbl2 rbl2 obl2 sl2 nl2
      (refine Go.run (g:=?_))
      refine GoR.callW rfl rfl rfl rfl rfl rfl rfl (((wu16_spec _ _ _ _ _ _ (w1.to sl2) [c.sid, c.ssn] (by simp; omega) (by simp [beB_length, be4s_len, be2s_len]) bl2 2 hbl2 (w1.fresh obl2)).argA).mono ?_)
      rintro _ hh2 ⟨bb2, cc2, w2, -⟩ -
      refine ⟨w1.wr (by omega), ?_⟩
      have nn2 := w2.n
      have G2 := w2.same.get G4
      (refine Go.run (g:=?_))
      refine GoR.buildRo (c := w32s [c.ppid]) rfl rfl rfl rfl rfl (by decide) (by rfl) (by rfl) ?_
      intro bl3 hl3 hbl3 rbl3 obl3 sl3 nl3
      (refine Go.run (g:=?_))
      refine GoR.callW rfl rfl rfl rfl rfl rfl rfl (((wu32_spec _ _ _ _ _ _ (w2.to sl3) [c.ppid] (by simp; omega) (by simp [beB_length, be4s_len, be2s_len]) bl3 1 hbl3 (w2.fresh obl3)).argA).mono ?_)
      rintro _ hh3 ⟨bb3, cc3, w3, -⟩ -
      refine ⟨w2.wr (by omega), ?_⟩
      have nn3 := w3.n
      have G3 := w3.same.get G4
      (refine Go.run (g:=?_))
      refine Go.loud (by kernel_rfl) rfl ?_
      have gw4 := w3.w
      (refine Go.runL (g:=?_))
      refine GoL.appendV rfl rfl rfl rfl rfl rfl w3.sv (ok4.dv.same w3.same) (fun i hi => w3.wr (n := h.n) (by omega) i (List.mem_cons_of_mem _ hi)) (by simp [beB_length, be4s_len, be2s_len]; omega) (by simp [beB_length, be4s_len, be2s_len]; omega) (by simp [bv, Value.oneCell']) ?_
      intro bb4 cc4 hh4 rd wr hwr hrd hs4 k4 o4
      have nk4 := k4.1
      have g4 := k4.get gw4 (fun hi => by have := w3.own _ hi; omega)
      (refine Go.runL (g:=?_))
      refine GoL.store' rfl rfl rfl rfl rfl (hl:=rfl) (h1:=rfl) (h3:=rfl) (g:=?_)
      refine GoL.end_ (hl := by (simp only [List.nil_append, List.cons_append]); repeat (first | exact loudP.nil | refine loudP.none ?_ | refine loudP.new (fun _ hb => absurd hb List.not_mem_nil) ?_ | refine loudP.row (by repeat (first | exact loudRowP.nil | refine loudRowP.none ?_ | refine loudRowP.bef (by decide +kernel) ?_)) ?_)) ?_
      have w4 := w3.append (Same.refl _) hs4 k4 o4 (by rw [ok.dl])
      (refine Go.run (g:=?_))
      exact Go.joined (bb4, cc4, _, _, 0) ⟨w4, by simp only [List.length_append]; simp [beB_length, be4s_len, be2s_len]; have := ok.dl; omega, .inl ⟨rfl, by rw [hcv]; simp [be4s, be2s]⟩⟩ ⟨rfl, rfl, trivial⟩ rfl rfl
    · (refine Go.run (g:=?_))
      refine GoR.buildRo (c := w32s [c.tag, c.rwnd]) rfl rfl rfl rfl rfl (by decide) (by rfl) (by rfl) ?_
      intro bl1 hl1 hbl1 rbl1 obl1 sl1 nl1
      (refine Go.run (g:=?_))
      refine GoR.callW rfl rfl rfl rfl rfl rfl rfl (((wu32_spec _ _ _ _ _ _ (w0.to sl1) [c.tag, c.rwnd] (by simp; omega) (by simp [beB_length, be4s_len, be2s_len]) bl1 2 hbl1 (w0.fresh obl1)).argA).mono ?_)
      rintro _ hh1 ⟨bb1, cc1, w1, -⟩ -
      refine ⟨w0.wr (by omega), ?_⟩
      have nn1 := w1.n
      have G1 := w1.same.get G4
      (refine Go.run (g:=?_))
      refine GoR.buildRo (c := w16s [c.out, c.inn]) rfl rfl rfl rfl rfl (by decide) (by rfl) (by rfl) ?_
      intro bl2 hl2 hbl2 rbl2 obl2 sl2 nl2
      (refine Go.run (g:=?_))
      refine GoR.callW rfl rfl rfl rfl rfl rfl rfl (((wu16_spec _ _ _ _ _ _ (w1.to sl2) [c.out, c.inn] (by simp; omega) (by simp [beB_length, be4s_len, be2s_len]) bl2 2 hbl2 (w1.fresh obl2)).argA).mono ?_)
      rintro _ hh2 ⟨bb2, cc2, w2, -⟩ -
      refine ⟨w1.wr (by omega), ?_⟩
      have nn2 := w2.n
      have G2 := w2.same.get G4
      (refine Go.run (g:=?_))
      refine GoR.buildRo (c := w32s [c.tsn]) rfl rfl rfl rfl rfl (by decide) (by rfl) (by rfl) ?_
      intro bl3 hl3 hbl3 rbl3 obl3 sl3 nl3
      (refine Go.run (g:=?_))
      refine GoR.callW rfl rfl rfl rfl rfl rfl rfl (((wu32_spec _ _ _ _ _ _ (w2.to sl3) [c.tsn] (by simp; omega) (by simp [beB_length, be4s_len, be2s_len]) bl3 1 hbl3 (w2.fresh obl3)).argA).mono ?_)
      rintro _ hh3 ⟨bb3, cc3, w3, -⟩ -
      refine ⟨w2.wr (by omega), ?_⟩
      have nn3 := w3.n
      have G3 := w3.same.get G4
      have hz3 : ([] ++ be4s [c.tag, c.rwnd] ++ be2s [c.out, c.inn] ++ be4s [c.tsn]) = beB 4 c.tag ++ beB 4 c.rwnd ++ beB 2 c.out ++ beB 2 c.inn ++ beB 4 c.tsn := by simp [be4s, be2s]
      rw [hz3] at w3
      have hz3l : (beB 4 c.tag ++ beB 4 c.rwnd ++ beB 2 c.out ++ beB 2 c.inn ++ beB 4 c.tsn).length = 16 := by simp [beB_length]
      have hib : initB c d = (beB 4 c.tag ++ beB 4 c.rwnd ++ beB 2 c.out ++ beB 2 c.inn ++ beB 4 c.tsn) ++ addrsB d.addrs := rfl
      generalize (beB 4 c.tag ++ beB 4 c.rwnd ++ beB 2 c.out ++ beB 2 c.inn ++ beB 4 c.tsn) = hdr at w3 hz3l hib
      (refine Go.run (g:=?_))
      refine Go.loop (α := Nat × Option Addr × Nat × AHeap) (fun x => [(83, .int .i64 x.1), (82, .int .i64 c.A.n), (81, .slice c.A.a c.A.n c.A.cap), (1, .pointer (some ⟨h.n, 0, none⟩)), (4, .pointer (some ⟨h4.n, 0, none⟩))]) (fun _ => []) (fun x => x.2.2.2)
        (fun x => x.1 ≤ c.A.n ∧ WS h4 x.2.2.2 (hdr ++ addrsB (d.addrs.take x.1)) 0 x.2.1 x.2.2.1) (fun x => c.A.n - x.1) (0, bb3, cc3, hh3) ?_ ?_ rfl rfl ?_
      · exact ⟨Nat.zero_le _, by simpa [addrsB] using w3⟩
      · exact ⟨rfl, rfl, rfl, rfl, rfl, trivial⟩
      clear w0 w1 w2 w3 G1 G2 G3 G5
      rintro ⟨i, b6, c6, h6⟩ ⟨hi, w6⟩
      simp only at hi w6 ⊢
      have nn6 := w6.n
      have G6 := w6.same.get G4
      rcases Nat.lt_or_ge i c.A.n with i0 | i0
      · have i1 : i < d.addrs.length := by rw [ok.al]; exact i0
        have c0 := w32s_get i1
        have hx := ok.ab _ (List.getElem_mem i1)
        have hbe : i < (w32s d.addrs).length := by rw [w32s_len]; exact i1
        have hA6 := ok4.av.same w6.same
        have e1 : addrsB (d.addrs.take (i + 1)) = addrsB (d.addrs.take i) ++ pB 5 (beB 4 d.addrs[i]) := by
          unfold addrsB
          rw [flat_snoc _ i1, show pB 5 (beB 4 d.addrs[i]) = tlvB false 5 0 (beB 4 d.addrs[i]) from by unfold pB; rw [if_pos (by rw [beB_length]; decide)]]
        have hl6 : (hdr ++ addrsB (d.addrs.take i)).length ≤ 1000 := by rw [List.length_append, addrsB_len, hz3l, List.length_take]; omega
        generalize d.addrs[i] = x at *
        (refine Go.run (g:=?_))
        refine GoR.name ?_
        intro h7 e7
        have w7 : WS h6 h7 [] 0 none 0 := by
          subst e7
          exact ⟨(Same.refl h6).push _, by simp, AHeap.get_push_same h6 _, .nil, Own.nil _⟩
        clear e7
        have nn7 := w7.n
        (refine Go.run (g:=?_))
        refine GoR.buildRo (c := w32s [x]) rfl rfl rfl rfl rfl (by decide) (by rfl) (by rfl) ?_
        intro bl8 hl8 hbl8 rbl8 obl8 sl8 nl8
        (refine Go.run (g:=?_))
        refine GoR.callW rfl rfl rfl rfl rfl rfl rfl (((wu32_spec _ _ _ _ _ _ (w7.to sl8) [x] (by simp; omega) (by simp [beB_length, be4s_len, be2s_len]) bl8 1 hbl8 (w7.fresh obl8)).argA).mono ?_)
        rintro _ hh8 ⟨bb8, cc8, w8, -⟩ -
        refine ⟨w7.wr (by omega), ?_⟩
        have nn8 := w8.n
        have gv8 := w8.w
        have hv8 := w8.sv
        have hb8 : [] ++ be4s [x] = beB 4 x := by simp [be4s]
        rw [hb8] at gv8 hv8
        have gw8 := (w6.to w8.same).w
        (refine Go.run (g:=?_))
        refine GoR.callW rfl rfl rfl rfl rfl rfl rfl (((wparam_spec _ _ _ _ _ _ (w6.to w8.same) 5 (by decide) (beB 4 x) (by rw [beB_length]; decide) (by omega) _ _ (Sv.rv hv8)).argA).mono ?_)
        rintro _ hh9 ⟨bb9, cc9, w9, -⟩ -
        refine ⟨(w6.to w8.same).wr (by omega), ?_⟩
        rw [if_pos (by rw [beB_length]; decide)] at w9
        have nn9 := w9.n
        (refine Go.run (g:=?_))
        exact Go.again (i + 1, bb9, cc9, hh9) ⟨by simp only; omega, by simp only; rw [e1, ← List.append_assoc]; exact w9⟩ (by simp only; omega) ⟨rfl, rfl, rfl, rfl, rfl, trivial⟩ rfl rfl
      have hie : i = c.A.n := by omega
      subst hie
      rw [← ok.al, List.take_length, ← hib] at w6
      have hil : (initB c d).length = 16 + c.A.n * 8 := by rw [hib, List.length_append, addrsB_len, hz3l, ok.al]
      have hcv : cval c d = some (initB c d) := by unfold cval; rw [hk]; rfl
      (refine Go.run (g:=?_))
      exact Go.joined (b6, c6, _, _, 0) ⟨w6, by show (initB c d).length ≤ _; omega, .inl ⟨rfl, hcv⟩⟩ ⟨rfl, rfl, trivial⟩ rfl rfl
    · (refine Go.run (g:=?_))
      refine GoR.buildRo (c := w32s [c.tag, c.rwnd]) rfl rfl rfl rfl rfl (by decide) (by rfl) (by rfl) ?_
      intro bl1 hl1 hbl1 rbl1 obl1 sl1 nl1
      (refine Go.run (g:=?_))
      refine GoR.callW rfl rfl rfl rfl rfl rfl rfl (((wu32_spec _ _ _ _ _ _ (w0.to sl1) [c.tag, c.rwnd] (by simp; omega) (by simp [beB_length, be4s_len, be2s_len]) bl1 2 hbl1 (w0.fresh obl1)).argA).mono ?_)
      rintro _ hh1 ⟨bb1, cc1, w1, -⟩ -
      refine ⟨w0.wr (by omega), ?_⟩
      have nn1 := w1.n
      have G1 := w1.same.get G4
      (refine Go.run (g:=?_))
      refine GoR.buildRo (c := w16s [c.out, c.inn]) rfl rfl rfl rfl rfl (by decide) (by rfl) (by rfl) ?_
      intro bl2 hl2 hbl2 rbl2 obl2 sl2 nl2
      (refine Go.run (g:=?_))
      refine GoR.callW rfl rfl rfl rfl rfl rfl rfl (((wu16_spec _ _ _ _ _ _ (w1.to sl2) [c.out, c.inn] (by simp; omega) (by simp [beB_length, be4s_len, be2s_len]) bl2 2 hbl2 (w1.fresh obl2)).argA).mono ?_)
      rintro _ hh2 ⟨bb2, cc2, w2, -⟩ -
      refine ⟨w1.wr (by omega), ?_⟩
      have nn2 := w2.n
      have G2 := w2.same.get G4
      (refine Go.run (g:=?_))
      refine GoR.buildRo (c := w32s [c.tsn]) rfl rfl rfl rfl rfl (by decide) (by rfl) (by rfl) ?_
      intro bl3 hl3 hbl3 rbl3 obl3 sl3 nl3
      (refine Go.run (g:=?_))
      refine GoR.callW rfl rfl rfl rfl rfl rfl rfl (((wu32_spec _ _ _ _ _ _ (w2.to sl3) [c.tsn] (by simp; omega) (by simp [beB_length, be4s_len, be2s_len]) bl3 1 hbl3 (w2.fresh obl3)).argA).mono ?_)
      rintro _ hh3 ⟨bb3, cc3, w3, -⟩ -
      refine ⟨w2.wr (by omega), ?_⟩
      have nn3 := w3.n
      have G3 := w3.same.get G4
      have hz3 : ([] ++ be4s [c.tag, c.rwnd] ++ be2s [c.out, c.inn] ++ be4s [c.tsn]) = beB 4 c.tag ++ beB 4 c.rwnd ++ beB 2 c.out ++ beB 2 c.inn ++ beB 4 c.tsn := by simp [be4s, be2s]
      rw [hz3] at w3
      have hz3l : (beB 4 c.tag ++ beB 4 c.rwnd ++ beB 2 c.out ++ beB 2 c.inn ++ beB 4 c.tsn).length = 16 := by simp [beB_length]
      have hib : initB c d = (beB 4 c.tag ++ beB 4 c.rwnd ++ beB 2 c.out ++ beB 2 c.inn ++ beB 4 c.tsn) ++ addrsB d.addrs := rfl
      generalize (beB 4 c.tag ++ beB 4 c.rwnd ++ beB 2 c.out ++ beB 2 c.inn ++ beB 4 c.tsn) = hdr at w3 hz3l hib
      (refine Go.run (g:=?_))
      refine Go.loop (α := Nat × Option Addr × Nat × AHeap) (fun x => [(83, .int .i64 x.1), (82, .int .i64 c.A.n), (81, .slice c.A.a c.A.n c.A.cap), (1, .pointer (some ⟨h.n, 0, none⟩)), (4, .pointer (some ⟨h4.n, 0, none⟩))]) (fun _ => []) (fun x => x.2.2.2)
        (fun x => x.1 ≤ c.A.n ∧ WS h4 x.2.2.2 (hdr ++ addrsB (d.addrs.take x.1)) 0 x.2.1 x.2.2.1) (fun x => c.A.n - x.1) (0, bb3, cc3, hh3) ?_ ?_ rfl rfl ?_
      · exact ⟨Nat.zero_le _, by simpa [addrsB] using w3⟩
      · exact ⟨rfl, rfl, rfl, rfl, rfl, trivial⟩
      clear w0 w1 w2 w3 G1 G2 G3 G5
      rintro ⟨i, b6, c6, h6⟩ ⟨hi, w6⟩
      simp only at hi w6 ⊢
      have nn6 := w6.n
      have G6 := w6.same.get G4
      rcases Nat.lt_or_ge i c.A.n with i0 | i0
      · have i1 : i < d.addrs.length := by rw [ok.al]; exact i0
        have c0 := w32s_get i1
        have hx := ok.ab _ (List.getElem_mem i1)
        have hbe : i < (w32s d.addrs).length := by rw [w32s_len]; exact i1
        have hA6 := ok4.av.same w6.same
        have e1 : addrsB (d.addrs.take (i + 1)) = addrsB (d.addrs.take i) ++ pB 5 (beB 4 d.addrs[i]) := by
          unfold addrsB
          rw [flat_snoc _ i1, show pB 5 (beB 4 d.addrs[i]) = tlvB false 5 0 (beB 4 d.addrs[i]) from by unfold pB; rw [if_pos (by rw [beB_length]; decide)]]
        have hl6 : (hdr ++ addrsB (d.addrs.take i)).length ≤ 1000 := by rw [List.length_append, addrsB_len, hz3l, List.length_take]; omega
        generalize d.addrs[i] = x at *
        (refine Go.run (g:=?_))
        refine GoR.name ?_
        intro h7 e7
        have w7 : WS h6 h7 [] 0 none 0 := by
          subst e7
          exact ⟨(Same.refl h6).push _, by simp, AHeap.get_push_same h6 _, .nil, Own.nil _⟩
        clear e7
        have nn7 := w7.n
        (refine Go.run (g:=?_))
        refine GoR.buildRo (c := w32s [x]) rfl rfl rfl rfl rfl (by decide) (by rfl) (by rfl) ?_
        intro bl8 hl8 hbl8 rbl8 obl8 sl8 nl8
        (refine Go.run (g:=?_))
        refine GoR.callW rfl rfl rfl rfl rfl rfl rfl (((wu32_spec _ _ _ _ _ _ (w7.to sl8) [x] (by simp; omega) (by simp [beB_length, be4s_len, be2s_len]) bl8 1 hbl8 (w7.fresh obl8)).argA).mono ?_)
        rintro _ hh8 ⟨bb8, cc8, w8, -⟩ -
        refine ⟨w7.wr (by omega), ?_⟩
        have nn8 := w8.n
        have gv8 := w8.w
        have hv8 := w8.sv
        have hb8 : [] ++ be4s [x] = beB 4 x := by simp [be4s]
        rw [hb8] at gv8 hv8
        have gw8 := (w6.to w8.same).w
        (refine Go.run (g:=?_))
        refine GoR.callW rfl rfl rfl rfl rfl rfl rfl (((wparam_spec _ _ _ _ _ _ (w6.to w8.same) 5 (by decide) (beB 4 x) (by rw [beB_length]; decide) (by omega) _ _ (Sv.rv hv8)).argA).mono ?_)
        rintro _ hh9 ⟨bb9, cc9, w9, -⟩ -
        refine ⟨(w6.to w8.same).wr (by omega), ?_⟩
        rw [if_pos (by rw [beB_length]; decide)] at w9
        have nn9 := w9.n
        (refine Go.run (g:=?_))
        exact Go.again (i + 1, bb9, cc9, hh9) ⟨by simp only; omega, by simp only; rw [e1, ← List.append_assoc]; exact w9⟩ (by simp only; omega) ⟨rfl, rfl, rfl, rfl, rfl, trivial⟩ rfl rfl
      have hie : i = c.A.n := by omega
      subst hie
      rw [← ok.al, List.take_length, ← hib] at w6
      have hil : (initB c d).length = 16 + c.A.n * 8 := by rw [hib, List.length_append, addrsB_len, hz3l, ok.al]
      (refine Go.run (g:=?_))
      refine GoR.callW rfl rfl rfl rfl rfl rfl rfl (((wparam_spec _ _ _ _ _ _ w6 7 (by decide) d.data (by rw [ok.dl]; omega) (by omega) c.D.a c.D.cap (by rw [ok.dl]; exact ok4.dv.same w6.same)).args (by first | (rw [ok.dl]; done) | (rw [ok.dl]; rfl))).mono ?_)
      rintro _ hh9 ⟨bb9, cc9, w9, -⟩ -
      refine ⟨w6.wr (by omega), ?_⟩
      have hpl := pB_le 7 d.data
      rcases Nat.lt_or_ge 65531 d.data.length with g | g
      · rw [if_neg (by omega)] at w9
        have hcv : cval c d = none := by unfold cval; rw [hk]; exact if_neg (by omega)
        (refine Go.run (g:=?_))
        exact Go.joined (bb9, cc9, _, _, 3) ⟨w9, by simp only [List.length_append]; omega, .inr ⟨rfl, hcv⟩⟩ ⟨rfl, rfl, trivial⟩ rfl rfl
      · rw [if_pos g] at w9
        have hcv : cval c d = some (initB c d ++ pB 7 d.data) := by unfold cval; rw [hk]; exact if_pos g
        (refine Go.run (g:=?_))
        exact Go.joined (bb9, cc9, _, _, 0) ⟨w9, by simp only [List.length_append]; omega, .inl ⟨rfl, hcv⟩⟩ ⟨rfl, rfl, trivial⟩ rfl rfl
    · (refine Go.run (g:=?_))
      refine GoR.buildRo (c := w32s [c.tsn, c.rwnd]) rfl rfl rfl rfl rfl (by decide) (by rfl) (by rfl) ?_
      intro bl1 hl1 hbl1 rbl1 obl1 sl1 nl1
      (refine Go.run (g:=?_))
      refine GoR.callW rfl rfl rfl rfl rfl rfl rfl (((wu32_spec _ _ _ _ _ _ (w0.to sl1) [c.tsn, c.rwnd] (by simp; omega) (by simp [beB_length, be4s_len, be2s_len]) bl1 2 hbl1 (w0.fresh obl1)).argA).mono ?_)
      rintro _ hh1 ⟨bb1, cc1, w1, -⟩ -
      refine ⟨w0.wr (by omega), ?_⟩
      have nn1 := w1.n
      have G1 := w1.same.get G4
      (refine Go.run (g:=?_))
      refine GoR.buildRo (c := w16s [c.G.n, c.U.n]) rfl rfl rfl rfl rfl (by decide) (by rfl) (by rfl) ?_
      intro bl2 hl2 hbl2 rbl2 obl2 sl2 nl2
      (refine Go.run (g:=?_))
      refine GoR.callW rfl rfl rfl rfl rfl rfl rfl (((wu16_spec _ _ _ _ _ _ (w1.to sl2) [c.G.n, c.U.n] (by simp; omega) (by simp [beB_length, be4s_len, be2s_len]) bl2 2 hbl2 (w1.fresh obl2)).argA).mono ?_)
      rintro _ hh2 ⟨bb2, cc2, w2, -⟩ -
      refine ⟨w1.wr (by omega), ?_⟩
      have nn2 := w2.n
      have G2 := w2.same.get G4
      have hz2 : ([] ++ be4s [c.tsn, c.rwnd] ++ be2s [c.G.n, c.U.n]) = beB 4 c.tsn ++ beB 4 c.rwnd ++ beB 2 c.G.n ++ beB 2 c.U.n := by simp [be4s, be2s]
      rw [hz2] at w2
      have hz2l : (beB 4 c.tsn ++ beB 4 c.rwnd ++ beB 2 c.G.n ++ beB 2 c.U.n).length = 12 := by simp [beB_length]
      have hcv : cval c d = some (beB 4 c.tsn ++ beB 4 c.rwnd ++ beB 2 c.G.n ++ beB 2 c.U.n ++ gapsBy d.gaps ++ be4s d.dups) := by unfold cval; rw [hk]; rfl
      generalize (beB 4 c.tsn ++ beB 4 c.rwnd ++ beB 2 c.G.n ++ beB 2 c.U.n) = hdr at w2 hz2l hcv
      (refine Go.run (g:=?_))
      refine Go.loop (α := Nat × Option Addr × Nat × AHeap) (fun x => [(130, .int .i64 x.1), (129, .int .i64 c.G.n), (128, .slice c.G.a c.G.n c.G.cap), (1, .pointer (some ⟨h.n, 0, none⟩)), (4, .pointer (some ⟨h4.n, 0, none⟩))]) (fun _ => []) (fun x => x.2.2.2)
        (fun x => x.1 ≤ c.G.n ∧ WS h4 x.2.2.2 (hdr ++ gapsBy (d.gaps.take x.1)) 0 x.2.1 x.2.2.1) (fun x => c.G.n - x.1) (0, bb2, cc2, hh2) ?_ ?_ rfl rfl ?_
      · exact ⟨Nat.zero_le _, by simpa [gapsBy] using w2⟩
      · exact ⟨rfl, rfl, rfl, rfl, rfl, trivial⟩
      clear w0 w1 w2 G1 G2 G5
      rintro ⟨i, b6, c6, h6⟩ ⟨hi, w6⟩
      simp only at hi w6 ⊢
      have nn6 := w6.n
      have G6 := w6.same.get G4
      rcases Nat.lt_or_ge i c.G.n with i0 | i0
      · have i1 : i < d.gaps.length := by rw [ok.gl]; exact i0
        have c0 := gcs_get i1
        have hx := ok.gb _ (List.getElem_mem i1)
        have hbe : i * 2 + 2 ≤ (gcs d.gaps).length := by rw [gcs_len]; omega
        have hA6 := ok4.gv.same w6.same
        have e1 : gapsBy (d.gaps.take (i + 1)) = gapsBy (d.gaps.take i) ++ be2s [d.gaps[i].1, d.gaps[i].2] := by
          unfold gapsBy
          rw [flat_snoc _ i1]
          simp [be2s]
        have hl6 : (hdr ++ gapsBy (d.gaps.take i)).length ≤ 1000 := by rw [List.length_append, gapsBy_len, hz2l, List.length_take]; omega
        generalize d.gaps[i].1 = gs1 at *
        generalize d.gaps[i].2 = gs2 at *
        (refine Go.run (g:=?_))
        refine GoR.name ?_
        intro h7 e7
        have s7 : Same h6 h7 := by subst e7; exact ((Same.refl h6).push _).put (Nat.le_refl _) _
        have nn7 := s7.1
        clear e7
        have w7 := w6.to s7
        refine GoR.buildRo (c := w16s [gs1, gs2]) rfl rfl rfl rfl rfl (by decide) (by rfl) (by rfl) ?_
        intro bl8 hl8 hbl8 rbl8 obl8 sl8 nl8
        (refine Go.run (g:=?_))
        refine GoR.callW rfl rfl rfl rfl rfl rfl rfl (((wu16_spec _ _ _ _ _ _ (w7.to sl8) [gs1, gs2] (by simp; omega) (by have := hl6; simp only [List.length_append] at this; simp; omega) bl8 2 hbl8 (w7.fresh obl8)).argA).mono ?_)
        rintro _ hh8 ⟨bb8, cc8, w8, -⟩ -
        refine ⟨w7.wr (by omega), ?_⟩
        have nn8 := w8.n
        (refine Go.run (g:=?_))
        exact Go.again (i + 1, bb8, cc8, hh8) ⟨by simp only; omega, by simp only; rw [e1, ← List.append_assoc]; exact w8⟩ (by simp only; omega) ⟨rfl, rfl, rfl, rfl, rfl, trivial⟩ rfl rfl
      have hie : i = c.G.n := by omega
      subst hie
      rw [← ok.gl, List.take_length] at w6
      have hil : (hdr ++ gapsBy d.gaps).length = 12 + c.G.n * 4 := by rw [List.length_append, gapsBy_len, hz2l, ok.gl]
      (refine Go.run (g:=?_))
      refine GoR.callW rfl rfl rfl rfl rfl rfl rfl (((wu32_spec _ _ _ _ _ _ w6 d.dups ok.ub (by rw [ok.ul]; omega) c.U.a c.U.cap (by rw [ok.ul]; exact ok4.uv.same w6.same) (w6.old ok4.uv.lt)).args (by first | (rw [ok.ul]; done) | (rw [ok.ul]; rfl))).mono ?_)
      rintro _ hh9 ⟨bb9, cc9, w9, -⟩ -
      refine ⟨w6.wr (by omega), ?_⟩
      have hul := be4s_len d.dups
      have hull := ok.ul
      (refine Go.run (g:=?_))
      exact Go.joined (bb9, cc9, _, _, 0) ⟨w9, by simp only [List.length_append]; rw [List.length_append] at hil; omega, .inl ⟨rfl, hcv⟩⟩ ⟨rfl, rfl, trivial⟩ rfl rfl
    · (refine Go.run (g:=?_))
      refine Go.loop (α := Nat × Option Addr × Nat × AHeap × Nat) (fun x => [(152, .int .i64 x.1), (151, .int .i64 c.C.n), (150, .slice c.C.a c.C.n c.C.cap), (1, .pointer (some ⟨h.n, 0, none⟩)), (4, .pointer (some ⟨h4.n, 0, none⟩))]) (fun _ => []) (fun x => x.2.2.2.1)
        (fun x => x.1 ≤ c.C.n ∧ WS h4 x.2.2.2.1 (causesB (d.causes.take x.1)) x.2.2.2.2 x.2.1 x.2.2.1 ∧ x.2.2.2.2 = if allShort (d.causes.take x.1) = true then 0 else 3) (fun x => c.C.n - x.1) (0, none, 0, h5, 0) ?_ ?_ rfl rfl ?_
      · exact ⟨Nat.zero_le _, by simpa [causesB] using w0, rfl⟩
      · exact ⟨rfl, rfl, rfl, rfl, rfl, trivial⟩
      clear w0 G5
      rintro ⟨i, b6, c6, h6, e6⟩ ⟨hi, w6, he⟩
      simp only at hi w6 he ⊢
      have nn6 := w6.n
      have G6 := w6.same.get G4
      rcases Nat.lt_or_ge i c.C.n with i0 | i0
      · have i1 : i < d.causes.length := by rw [ok.cl]; exact i0
        have c0 := ccs_get i1
        obtain ⟨hx1, hx2, -⟩ := ok.cb _ (List.getElem_mem i1)
        obtain ⟨-, -, hx3⟩ := ok4.cb _ (List.getElem_mem i1)
        have hbe : i * 2 + 2 ≤ (ccs d.causes).length := by rw [ccs_len]; omega
        have hA6 := ok4.cv.same w6.same
        have e1 : causesB (d.causes.take (i + 1)) = causesB (d.causes.take i) ++ pB d.causes[i].k d.causes[i].z := by
          unfold causesB
          rw [flat_snoc _ i1]
        have e2 : (if d.causes[i].z.length ≤ 65531 then e6 else 3) = if allShort (d.causes.take (i + 1)) = true then 0 else 3 := by
          rw [he, allShort_snoc i1]
          by_cases g2 : d.causes[i].z.length ≤ 65531
          · rw [if_pos g2, decide_eq_true g2, Bool.and_true]
          · rw [if_neg g2, decide_eq_false g2, Bool.and_false]; rfl
        have hl6 : (causesB (d.causes.take i)).length ≤ 1000000000000 := by
          have := causesB_len (d.causes.take i)
          rw [List.length_take] at this
          omega
        generalize d.causes[i].k = xk at *
        generalize d.causes[i].z = xz at *
        generalize d.causes[i].a = xa at *
        generalize d.causes[i].cap = xc at *
        (refine Go.run (g:=?_))
        refine GoR.name ?_
        intro h7 e7
        have s7 : Same h6 h7 := by subst e7; exact ((Same.refl h6).push _).put (Nat.le_refl _) _
        have nn7 := s7.1
        clear e7
        have w7 := w6.to s7
        refine GoR.callW rfl rfl rfl rfl rfl rfl rfl (((wparam_spec _ _ _ _ _ _ w7 xk hx1 xz hx2 (by omega) xa xc (hx3.same w7.same)).argA).mono ?_)
        rintro _ hh9 ⟨bb9, cc9, w9, -⟩ -
        refine ⟨w7.wr (by omega), ?_⟩
        have nn9 := w9.n
        (refine Go.run (g:=?_))
        exact Go.again (i + 1, bb9, cc9, hh9, _) ⟨by simp only; omega, by simp only; rw [e1]; exact w9, e2⟩ (by simp only; omega) ⟨rfl, rfl, rfl, rfl, rfl, trivial⟩ rfl rfl
      have hie : i = c.C.n := by omega
      subst hie
      rw [← ok.cl, List.take_length] at w6 he
      have hil := causesB_len d.causes
      have hcl := ok.cl
      have hcv : cval c d = if allShort d.causes = true then some (causesB d.causes) else none := by unfold cval; rw [hk]; rfl
      by_cases g : allShort d.causes = true
      · rw [if_pos g] at he hcv
        subst he
        (refine Go.run (g:=?_))
        exact Go.joined (b6, c6, _, _, 0) ⟨w6, by show (causesB d.causes).length ≤ _; omega, .inl ⟨rfl, hcv⟩⟩ ⟨rfl, rfl, trivial⟩ rfl rfl
      · rw [if_neg g] at he hcv
        subst he
        (refine Go.run (g:=?_))
        exact Go.joined (b6, c6, _, _, 3) ⟨w6, by show (causesB d.causes).length ≤ _; omega, .inr ⟨rfl, hcv⟩⟩ ⟨rfl, rfl, trivial⟩ rfl rfl
    · (refine Go.run (g:=?_))
      refine Go.loop (α := Nat × Option Addr × Nat × AHeap × Nat) (fun x => [(152, .int .i64 x.1), (151, .int .i64 c.C.n), (150, .slice c.C.a c.C.n c.C.cap), (1, .pointer (some ⟨h.n, 0, none⟩)), (4, .pointer (some ⟨h4.n, 0, none⟩))]) (fun _ => []) (fun x => x.2.2.2.1)
        (fun x => x.1 ≤ c.C.n ∧ WS h4 x.2.2.2.1 (causesB (d.causes.take x.1)) x.2.2.2.2 x.2.1 x.2.2.1 ∧ x.2.2.2.2 = if allShort (d.causes.take x.1) = true then 0 else 3) (fun x => c.C.n - x.1) (0, none, 0, h5, 0) ?_ ?_ rfl rfl ?_
      · exact ⟨Nat.zero_le _, by simpa [causesB] using w0, rfl⟩
      · exact ⟨rfl, rfl, rfl, rfl, rfl, trivial⟩
      clear w0 G5
      rintro ⟨i, b6, c6, h6, e6⟩ ⟨hi, w6, he⟩
      simp only at hi w6 he ⊢
      have nn6 := w6.n
      have G6 := w6.same.get G4
      rcases Nat.lt_or_ge i c.C.n with i0 | i0
      · have i1 : i < d.causes.length := by rw [ok.cl]; exact i0
        have c0 := ccs_get i1
        obtain ⟨hx1, hx2, -⟩ := ok.cb _ (List.getElem_mem i1)
        obtain ⟨-, -, hx3⟩ := ok4.cb _ (List.getElem_mem i1)
        have hbe : i * 2 + 2 ≤ (ccs d.causes).length := by rw [ccs_len]; omega
        have hA6 := ok4.cv.same w6.same
        have e1 : causesB (d.causes.take (i + 1)) = causesB (d.causes.take i) ++ pB d.causes[i].k d.causes[i].z := by
          unfold causesB
          rw [flat_snoc _ i1]
        have e2 : (if d.causes[i].z.length ≤ 65531 then e6 else 3) = if allShort (d.causes.take (i + 1)) = true then 0 else 3 := by
          rw [he, allShort_snoc i1]
          by_cases g2 : d.causes[i].z.length ≤ 65531
          · rw [if_pos g2, decide_eq_true g2, Bool.and_true]
          · rw [if_neg g2, decide_eq_false g2, Bool.and_false]; rfl
        have hl6 : (causesB (d.causes.take i)).length ≤ 1000000000000 := by
          have := causesB_len (d.causes.take i)
          rw [List.length_take] at this
          omega
        generalize d.causes[i].k = xk at *
        generalize d.causes[i].z = xz at *
        generalize d.causes[i].a = xa at *
        generalize d.causes[i].cap = xc at *
        (refine Go.run (g:=?_))
        refine GoR.name ?_
        intro h7 e7
        have s7 : Same h6 h7 := by subst e7; exact ((Same.refl h6).push _).put (Nat.le_refl _) _
        have nn7 := s7.1
        clear e7
        have w7 := w6.to s7
        refine GoR.callW rfl rfl rfl rfl rfl rfl rfl (((wparam_spec _ _ _ _ _ _ w7 xk hx1 xz hx2 (by omega) xa xc (hx3.same w7.same)).argA).mono ?_)
        rintro _ hh9 ⟨bb9, cc9, w9, -⟩ -
        refine ⟨w7.wr (by omega), ?_⟩
        have nn9 := w9.n
        (refine Go.run (g:=?_))
        exact Go.again (i + 1, bb9, cc9, hh9, _) ⟨by simp only; omega, by simp only; rw [e1]; exact w9, e2⟩ (by simp only; omega) ⟨rfl, rfl, rfl, rfl, rfl, trivial⟩ rfl rfl
      have hie : i = c.C.n := by omega
      subst hie
      rw [← ok.cl, List.take_length] at w6 he
      have hil := causesB_len d.causes
      have hcl := ok.cl
      have hcv : cval c d = if allShort d.causes = true then some (causesB d.causes) else none := by unfold cval; rw [hk]; rfl
      by_cases g : allShort d.causes = true
      · rw [if_pos g] at he hcv
        subst he
        (refine Go.run (g:=?_))
        exact Go.joined (b6, c6, _, _, 0) ⟨w6, by show (causesB d.causes).length ≤ _; omega, .inl ⟨rfl, hcv⟩⟩ ⟨rfl, rfl, trivial⟩ rfl rfl
      · rw [if_neg g] at he hcv
        subst he
        (refine Go.run (g:=?_))
        exact Go.joined (b6, c6, _, _, 3) ⟨w6, by show (causesB d.causes).length ≤ _; omega, .inr ⟨rfl, hcv⟩⟩ ⟨rfl, rfl, trivial⟩ rfl rfl
    · have hcv : cval c d = some (beB 4 c.tsn) := by unfold cval; rw [hk]; rfl
      (refine Go.run (g:=?_))
      refine GoR.buildRo (c := w32s [c.tsn]) rfl rfl rfl rfl rfl (by decide) (by rfl) (by rfl) ?_
      intro bl1 hl1 hbl1 rbl1 obl1 sl1 nl1
      (refine Go.run (g:=?_))
      refine GoR.callW rfl rfl rfl rfl rfl rfl rfl (((wu32_spec _ _ _ _ _ _ (w0.to sl1) [c.tsn] (by simp; omega) (by simp [beB_length, be4s_len, be2s_len]) bl1 1 hbl1 (w0.fresh obl1)).argA).mono ?_)
      rintro _ hh1 ⟨bb1, cc1, w1, -⟩ -
      refine ⟨w0.wr (by omega), ?_⟩
      have nn1 := w1.n
      have G1 := w1.same.get G4
      (refine Go.run (g:=?_))
      exact Go.joined (bb1, cc1, _, _, 0) ⟨w1, by simp [beB_length, be4s_len, be2s_len], .inl ⟨rfl, by rw [hcv]; simp [be4s]⟩⟩ ⟨rfl, rfl, trivial⟩ rfl rfl
    · have hcv : cval c d = some d.data := by
        unfold cval
        split <;> first | rfl | omega
      (refine Go.run (g:=?_))
      refine Go.loud (by kernel_rfl) rfl ?_
      have gw1 := w0.w
      (refine Go.runL (g:=?_))
      refine GoL.appendV rfl rfl rfl rfl rfl rfl w0.sv (ok4.dv.same w0.same) (fun i hi => w0.wr (n := h.n) (by omega) i (List.mem_cons_of_mem _ hi)) (by simp [beB_length, be4s_len, be2s_len]; omega) (by simp [beB_length, be4s_len, be2s_len]; omega) (by simp [bv, Value.oneCell']) ?_
      intro bb1 cc1 hh1 rd wr hwr hrd hs1 k1 o1
      have nk1 := k1.1
      have g1 := k1.get gw1 (fun hi => by have := w0.own _ hi; omega)
      (refine Go.runL (g:=?_))
      refine GoL.store' rfl rfl rfl rfl rfl (hl:=rfl) (h1:=rfl) (h3:=rfl) (g:=?_)
      refine GoL.end_ (hl := by (simp only [List.nil_append, List.cons_append]); repeat (first | exact loudP.nil | refine loudP.none ?_ | refine loudP.new (fun _ hb => absurd hb List.not_mem_nil) ?_ | refine loudP.row (by repeat (first | exact loudRowP.nil | refine loudRowP.none ?_ | refine loudRowP.bef (by decide +kernel) ?_)) ?_)) ?_
      simp only [List.length_nil, Nat.zero_add] at hs1
      have w1 := w0.append (Same.refl _) hs1 k1 o1 (by rw [ok.dl]; simp)
      (refine Go.run (g:=?_))
      exact Go.joined (bb1, cc1, _, _, 0) ⟨w1, by have := ok.dl; simp; omega, .inl ⟨rfl, by rw [hcv]; simp⟩⟩ ⟨rfl, rfl, trivial⟩ rfl rfl
  rintro ⟨b6, c6, h6, x, e⟩ ⟨w6, hx, hv⟩
  simp only at w6 hx hv ⊢
  have gw6 := w6.w
  have G6 := w6.same.get G4
  have nn6 := w6.n
  have hkk := ok.k
  have hff := ok.f
  rcases hv with ⟨rfl, hcv⟩ | ⟨rfl, hcv⟩
  · rw [hcv]
    simp only [PutV]
    rcases Nat.lt_or_ge 65531 x.length with g | g
    · simp only [if_neg (show ¬ x.length ≤ 65531 by omega)]
      (refine Go.run (g:=?_))
      refine GoR.call rfl rfl rfl rfl rfl rfl rfl (((wput_err3 true c.k c.f b6 x.length c6 hx (fun _ => by omega) (by simp) g _).argA).mono ?_)
      rintro _ h7 rfl s7
      (refine Go.run (g:=?_))
      (first|refine Go.finT (by first|exact .inr rfl|exact .inl rfl) rfl ?_|refine Go.fin1 (by first|exact .inr rfl|exact .inl rfl) rfl (hq:=?_))
      rfl
    · simp only [if_pos g]
      (refine Go.run (g:=?_))
      refine GoR.call rfl rfl rfl rfl rfl rfl rfl (((put_ok true c.k c.f b6 c6 (fun _ => by omega) (by simp) hff x g _ (Sv.rv w6.sv)).argA).mono ?_)
      rintro _ h7 ⟨b7, rfl, hb7, ob7⟩ s7
      (refine Go.run (g:=?_))
      (first|refine Go.finT (by first|exact .inr rfl|exact .inl rfl) rfl ?_|refine Go.fin1 (by first|exact .inr rfl|exact .inl rfl) rfl (hq:=?_))
      exact ⟨b7, _, rfl, hb7, ob7.mono (by omega)⟩
  · rw [hcv]
    simp only [PutV]
    (refine Go.run (g:=?_))
    (first|refine Go.finT (by first|exact .inr rfl|exact .inl rfl) rfl ?_|refine Go.fin1 (by first|exact .inr rfl|exact .inl rfl) rfl (hq:=?_))
    rfl
end Go.Proofs.Ytjpegoigipbmiaa
namespace Go.Proofs.Ytjpegoigipbmiaa
set_option maxRecDepth 100000
attribute [local irreducible] Go GoR GoL
theorem boolU6 : Try.prog.underlying 4 = some .bool := by kernel_rfl
def anyA (l : List CP) : Bool := l.any fun x => aloneB x.1.k
def anyS (l : List CP) : Bool := l.any fun x => startB x.1.k
def pmay (g : Nat) (l : List CP) : Bool := decide (0 < l.length) && (decide (l.length ≤ 1) || !anyA l) && (anyS l == decide (g = 0))
abbrev pkV (f t g : Nat) (a : Option Addr) (n cap : Nat) : Value := .agg #[.int .u16 f, .int .u16 t, .int .u32 g, .slice a n cap]
set_option maxHeartbeats 2000000 in
theorem pmay_spec (f t g : Nat) (a : Option Addr) (n cap : Nat) (l : List CP) (h : AHeap) (k : KS h a n cap l) (hn : n ≤ 140737488355328) : CallS Try.prog [] 12 [pkV f t g a n cap] h fun v h' => v = .bool (pmay g l) := by
  have hlen := k.len
  (refine CallS.of1 Try.func12 rfl Try.ntmps12 Try.results12 rfl ?_)
  (iterate 4 (first|(refine Go.kk 0 rfl ?_;refine Go.seq ?_)|(refine Go.kk 1 rfl ?_;refine Go.region (by kernel_rfl) rfl ?_)|(refine GoR.kk 0 rfl ?_;first|refine GoR.move rfl rfl rfl rfl rfl ?_|refine GoR.assign rfl rfl rfl rfl rfl ?_)|(refine GoR.kk 8 rfl ?_;first|refine GoR.boxA rfl rfl rfl rfl rfl ?_|refine GoR.boxS rfl rfl rfl rfl rfl rfl ?_|refine GoR.alloc rfl rfl rfl rfl ?_)|refine GoR.end ?_))
  refine GoR.name ?_
  intro h3 e3
  have G0 : h3.get h.n = some (.cells [.int .u16 f, .int .u16 t, .int .u32 g, .slice a n cap] 28) := by subst e3; exact AHeap.get_push_same h _
  have n3 : h3.n = h.n + 1 := by subst e3; rfl
  have S3 : Same h h3 := by subst e3; exact (Same.refl h).push _
  clear e3
  by_cases z0 : n = 0
  · subst z0
    (refine Go.run (g:=?_))
    (first|refine Go.finT (by first|exact .inr rfl|exact .inl rfl) rfl ?_|refine Go.fin1 (by first|exact .inr rfl|exact .inl rfl) rfl (hq:=?_))
    simp [retV, pmay, hlen]
  have z0' : ¬ (n : Int) = 0 := by omega
  rcases Nat.lt_or_ge 1 n with z1 | z1
  · have z1' : (1 : Int) < n := by omega
    (refine Go.run (g:=?_))
    refine GoR.call rfl rfl rfl rfl rfl rfl rfl (((someAlone_spec a n cap l _ (k.same S3) hn).argA).mono ?_)
    rintro _ h4 rfl s4
    have GX := s4.get G0
    have SX := S3.trans s4
    rw [show (l.any fun x => aloneB x.1.k) = anyA l from rfl]
    have q1 : 0 < n := by omega
    have q2 : ¬ n ≤ 1 := by omega
    cases ha : anyA l
    case false =>
      (refine Go.run (g:=?_))
      refine GoR.call rfl rfl rfl rfl rfl rfl rfl (((someStarts_spec a n cap l _ (k.same SX) hn).argA).mono ?_)
      rintro _ h6 rfl s6
      have G6 := s6.get GX
      rw [show (l.any fun x => startB x.1.k) = anyS l from rfl]
      by_cases g0 : g = 0
      · have g0' : (g : Int) = 0 := by omega
        (refine Go.run (g:=?_))
        refine GoR.boolEq rfl rfl rfl rfl rfl rfl boolU6 ?_
        (refine Go.run (g:=?_))
        (first|refine Go.finT (by first|exact .inr rfl|exact .inl rfl) rfl ?_|refine Go.fin1 (by first|exact .inr rfl|exact .inl rfl) rfl (hq:=?_))
        simp [retV, pmay, g0, *]
      · have g0' : ¬ (g : Int) = 0 := by omega
        (refine Go.run (g:=?_))
        refine GoR.boolEq rfl rfl rfl rfl rfl rfl boolU6 ?_
        (refine Go.run (g:=?_))
        (first|refine Go.finT (by first|exact .inr rfl|exact .inl rfl) rfl ?_|refine Go.fin1 (by first|exact .inr rfl|exact .inl rfl) rfl (hq:=?_))
        simp [retV, pmay, g0, *]
    case true =>
      (refine Go.run (g:=?_))
      (first|refine Go.finT (by first|exact .inr rfl|exact .inl rfl) rfl ?_|refine Go.fin1 (by first|exact .inr rfl|exact .inl rfl) rfl (hq:=?_))
      simp [retV, pmay, hlen, ha, q2]
  · have z1' : ¬ (1 : Int) < n := by omega
    have GX := G0
    have SX := S3
    have q1 : 0 < n := by omega
    have q2 : n ≤ 1 := by omega
    (refine Go.run (g:=?_))
    refine GoR.call rfl rfl rfl rfl rfl rfl rfl (((someStarts_spec a n cap l _ (k.same SX) hn).argA).mono ?_)
    rintro _ h6 rfl s6
    have G6 := s6.get GX
    rw [show (l.any fun x => startB x.1.k) = anyS l from rfl]
    by_cases g0 : g = 0
    · have g0' : (g : Int) = 0 := by omega
      (refine Go.run (g:=?_))
      refine GoR.boolEq rfl rfl rfl rfl rfl rfl boolU6 ?_
      (refine Go.run (g:=?_))
      (first|refine Go.finT (by first|exact .inr rfl|exact .inl rfl) rfl ?_|refine Go.fin1 (by first|exact .inr rfl|exact .inl rfl) rfl (hq:=?_))
      simp [retV, pmay, g0, *]
    · have g0' : ¬ (g : Int) = 0 := by omega
      (refine Go.run (g:=?_))
      refine GoR.boolEq rfl rfl rfl rfl rfl rfl boolU6 ?_
      (refine Go.run (g:=?_))
      (first|refine Go.finT (by first|exact .inr rfl|exact .inl rfl) rfl ?_|refine Go.fin1 (by first|exact .inr rfl|exact .inl rfl) rfl (hq:=?_))
      simp [retV, pmay, g0, *]
def cbytes (x : CP) : Except Nat (List UInt8) :=
  if may x.1 x.2.gaps = true then match cval x.1 x.2 with
    | some y => if y.length ≤ 65531 then .ok (tlvB true x.1.k x.1.f y) else .error 3
    | none => .error 3
  else .error 50
def bodyP : List CP → Except Nat (List UInt8)
  | [] => .ok []
  | x :: l => match cbytes x with
    | .error e => .error e
    | .ok y => match bodyP l with
      | .error e => .error e
      | .ok r => .ok (y ++ r)
theorem cbytes_len {x : CP} {y : List UInt8} (e : cbytes x = .ok y) : y.length ≤ 65540 ∧ y.length % 4 = 0 := by
  unfold cbytes at e
  split at e
  · split at e
    · split at e
      · cases e
        rw [tlvB_length]
        simp
        omega
      · cases e
    · cases e
  · cases e
theorem cbytes_err {x : CP} {e : Nat} (h : cbytes x = .error e) : e ≠ 0 := by
  unfold cbytes at h
  split at h
  · split at h
    · split at h
      · cases h
      · cases h; decide
    · cases h; decide
  · cases h; decide
theorem body_snoc (l : List CP) (x : CP) : bodyP (l ++ [x]) = match bodyP l with
    | .error e => .error e
    | .ok z => match cbytes x with
      | .error e => .error e
      | .ok y => .ok (z ++ y) := by
  induction l with
  | nil => simp only [List.nil_append, bodyP]; cases cbytes x <;> simp
  | cons w l ih =>
    simp only [List.cons_append, bodyP, ih]
    cases cbytes w with
    | error e => rfl
    | ok y =>
      simp only
      cases bodyP l with
      | error e => rfl
      | ok z => simp only; cases cbytes x <;> simp
theorem body_err {l : List CP} {i : Nat} {e : Nat} (h : bodyP (l.take i) = .error e) : bodyP l = .error e := by
  induction l generalizing i with
  | nil => simpa using h
  | cons w l ih =>
    cases i with
    | zero => simp [bodyP] at h
    | succ i =>
      simp only [List.take_succ_cons, bodyP] at h ⊢
      cases hw : cbytes w with
      | error e' => rw [hw] at h; exact h
      | ok y =>
        rw [hw] at h
        simp only at h ⊢
        cases hb : bodyP (l.take i) with
        | error e' => rw [hb] at h; simp only at h; cases h; rw [ih hb]
        | ok z => rw [hb] at h; cases h
theorem putR_bytes {h h' : AHeap} {v : Value} {c : Ck} {d : CD} (r : PutR h h' v c d) : (∃ e, cbytes (c, d) = .error e ∧ v = .tuple #[.slice none 0 0, .int .i64 e]) ∨ (∃ y b cap, cbytes (c, d) = .ok y ∧ v = .tuple #[.slice b y.length cap, .int .i64 0] ∧ Rv Try.prog h' 1 b y.length cap (y.map bv)) := by
  unfold PutR at r
  unfold cbytes
  split at r
  · rename_i hm
    rw [if_pos hm]
    unfold PutV at r
    split at r
    · rename_i hx
      exact .inl ⟨3, by rw [hx], r⟩
    · rename_i x hx
      rw [hx]
      simp only
      split at r
      · rename_i hl
        rw [if_pos hl]
        obtain ⟨b, cap, rfl, hb, ob⟩ := r
        exact .inr ⟨_, b, cap, rfl, rfl, hb.rv⟩
      · rename_i hl
        rw [if_neg hl]
        exact .inl ⟨3, rfl, r⟩
  · rename_i hm
    rw [if_neg hm]
    exact .inl ⟨50, rfl, r⟩
def PktR (h h' : AHeap) (v : Value) (f t g : Nat) (l : List CP) : Prop :=
  if pmay g l = true then match bodyP l with
    | .error e => v = .tuple #[.slice none 0 0, .int .i64 e]
    | .ok z => if 1488 < z.length then v = .tuple #[.slice none 0 0, .int .i64 3] else OwnE h h' v (hput f t g z)
  else v = .tuple #[.slice none 0 0, .int .i64 60]
theorem oneB6 (l : List UInt8) : (l.map bv).all Value.oneCell' = true := List.all_eq_true.2 fun x hx => by obtain ⟨y, -, rfl⟩ := List.mem_map.1 hx; rfl
set_option maxHeartbeats 8000000 in
theorem pput_spec (f t g : Nat) (hf : f < 65536) (ht : t < 65536) (hg : g < 4294967296) (a : Option Addr) (n cap : Nat) (l : List CP) (h : AHeap) (k : KS h a n cap l) (hn : n ≤ 2000) (hD : ∀ x ∈ l, x.1.D.n ≤ 1000000000 ∧ x.1.C.n ≤ 2000000) : CallS Try.prog [] 10 [pkV f t g a n cap] h fun v h' => PktR h h' v f t g l := by
  unfold PktR
  (refine CallS.of1 Try.func10 rfl Try.ntmps10 Try.results10 rfl ?_)
  (iterate 4 (first|(refine Go.kk 0 rfl ?_;refine Go.seq ?_)|(refine Go.kk 1 rfl ?_;refine Go.region (by kernel_rfl) rfl ?_)|(refine GoR.kk 0 rfl ?_;first|refine GoR.move rfl rfl rfl rfl rfl ?_|refine GoR.assign rfl rfl rfl rfl rfl ?_)|(refine GoR.kk 8 rfl ?_;first|refine GoR.boxA rfl rfl rfl rfl rfl ?_|refine GoR.boxS rfl rfl rfl rfl rfl rfl ?_|refine GoR.alloc rfl rfl rfl rfl ?_)|refine GoR.end ?_))
  refine GoR.name ?_
  intro h3 e3
  have G0 : h3.get h.n = some (.cells [.int .u16 f, .int .u16 t, .int .u32 g, .slice a n cap] 28) := by subst e3; exact AHeap.get_push_same h _
  have n3 : h3.n = h.n + 1 := by subst e3; rfl
  have S3 : Same h h3 := by subst e3; exact (Same.refl h).push _
  clear e3
  (refine Go.run (g:=?_))
  refine GoR.call rfl rfl rfl rfl rfl rfl rfl (((pmay_spec f t g a n cap l _ (k.same S3) (by omega)).argA).mono ?_)
  rintro _ h4 rfl s4
  have G4 := s4.get G0
  have n4 := s4.1
  have S4 := S3.trans s4
  clear G0
  cases hm : pmay g l
  · simp only [Bool.false_eq_true, if_false]
    (refine Go.run (g:=?_))
    (first|refine Go.finT (by first|exact .inr rfl|exact .inl rfl) rfl ?_|refine Go.fin1 (by first|exact .inr rfl|exact .inl rfl) rfl (hq:=?_))
    rfl
  simp only [if_true]
  (refine Go.run (g:=?_))
  refine Go.loop (α := Nat × Option Addr × Nat × List UInt8 × AHeap) (fun x => [(4, .slice x.2.1 x.2.2.2.1.length x.2.2.1), (15, .int .i64 x.1), (14, .int .i64 n), (13, .slice a n cap), (1, .pointer (some ⟨h.n, 0, none⟩))]) (fun _ => []) (fun x => x.2.2.2.2) (fun x => Same h4 x.2.2.2.2 ∧ x.1 ≤ n ∧ bodyP (l.take x.1) = .ok x.2.2.2.1 ∧ x.2.2.2.1.length ≤ x.1 * 65540 ∧ x.2.2.2.1.length % 4 = 0 ∧ Sv x.2.2.2.2 5 1 x.2.1 x.2.2.2.1.length x.2.2.1 (x.2.2.2.1.map bv) ∧ Own h4.n x.2.1) (fun x => n - x.1) (0, none, 0, [], h4) ?_ ?_ rfl rfl ?_
  · exact ⟨Same.refl _, Nat.zero_le _, rfl, Nat.zero_le _, rfl, .nil, Own.nil _⟩
  · exact ⟨rfl, rfl, rfl, rfl, rfl, trivial⟩
  rintro ⟨i, b5, c5, z, h5⟩ ⟨s5, hi, hb, hl, h4m, v5, o5⟩
  simp only at s5 hi hb hl h4m v5 o5 ⊢
  have k5 := k.same (S4.trans s5)
  have n5 := s5.1
  have G5 := s5.get G4
  rcases Nat.lt_or_ge i n with i0 | i0
  · have i1 : i < l.length := by rw [k.len]; exact i0
    have c0 := kcs_get i1
    have hbe : i * 15 + 15 ≤ (kcs l).length := by rw [kcs_len]; omega
    have hA5 := k5.rv
    have hs := body_snoc (l.take i) l[i]
    rw [← List.take_succ_eq_append_getElem i1, hb] at hs
    have hmem : l[i] ∈ l := List.getElem_mem i1
    generalize l[i] = x at *
    obtain ⟨c, d⟩ := x
    obtain ⟨hD1, hD2⟩ := hD _ hmem
    simp only at c0 hs hD1 hD2
    unfold Ck.cs at c0
    (refine Go.run (g:=?_))
    refine GoR.name ?_
    intro h6 e6
    have s6 : Same h5 h6 := by subst e6; exact ((Same.refl h5).push _).put (Nat.le_refl _) _
    have n6 : h6.n = h5.n + 1 := by subst e6; rfl
    have g6 : h6.get h5.n = some (.cells c.cs 43) := by subst e6; exact AHeap.get_put_same _ (by simp) _
    clear e6
    unfold Ck.cs at g6
    (refine Go.run (g:=?_))
    refine GoR.call rfl rfl rfl rfl rfl rfl rfl (((cput_spec c d _ ((k5.ok _ hmem).same s6) hD1 hD2).argA).mono ?_)
    intro v7 h7 hv7 s7
    have n7 := s7.1
    have S7 := (s5.trans s6).trans s7
    rcases putR_bytes hv7 with ⟨e, he, rfl⟩ | ⟨y, b7, c7, he, rfl, r7⟩
    · have e0 := cbytes_err he
      have e0' : ¬ (e : Int) = 0 := by omega
      rw [he] at hs
      have hs := body_err hs
      rw [hs]
      (refine Go.run (g:=?_))
      (first|refine Go.finT (by first|exact .inr rfl|exact .inl rfl) rfl ?_|refine Go.fin1 (by first|exact .inr rfl|exact .inl rfl) rfl (hq:=?_))
      rfl
    · rw [he] at hs
      obtain ⟨y1, y2⟩ := cbytes_len he
      (refine Go.run (g:=?_))
      refine GoR.appendV rfl rfl rfl rfl rfl rfl ((v5.same s6).same s7) r7 (fun i hi => .inr (by have := o5 i hi; omega)) (by omega) (by omega) (oneB6 _) ?_
      intro b8 c8 h8 v8 k8 o8
      have s8 : Same h4 h8 := S7.ownO k8 o5 (Nat.le_refl _)
      rw [← List.map_append, ← List.length_append] at v8
      rw [← List.length_append]
      (refine Go.run (g:=?_))
      exact Go.again (i + 1, b8, c8, z ++ y, h8) ⟨s8, by simp only; omega, hs, by simp only [List.length_append]; omega, by simp only [List.length_append]; omega, v8, o5.app (by omega) o8⟩ (by simp only; omega) ⟨rfl, rfl, rfl, rfl, rfl, trivial⟩ rfl rfl
  · have hie : i = n := by omega
    subst hie
    rw [← k.len, List.take_length] at hb
    rw [hb]
    simp only
    split
    · rename_i hz
      (refine Go.run (g:=?_))
      refine GoR.call rfl rfl rfl rfl rfl rfl rfl (((headPut_err2 f t g _ _ _ h4m hz _).argA).mono ?_)
      rintro _ h9 rfl s9
      (refine Go.run (g:=?_))
      (first|refine Go.finT (by first|exact .inr rfl|exact .inl rfl) rfl ?_|refine Go.fin1 (by first|exact .inr rfl|exact .inl rfl) rfl (hq:=?_))
      rfl
    · rename_i hz
      (refine Go.run (g:=?_))
      refine GoR.call rfl rfl rfl rfl rfl rfl rfl (((headPut_ok f t g hf ht hg _ _ _ z rfl h4m (by omega) _ v5.rv).argA).mono ?_)
      rintro _ h9 ⟨b9, c9, rfl, v9, o9⟩ s9
      (refine Go.run (g:=?_))
      (first|refine Go.finT (by first|exact .inr rfl|exact .inl rfl) rfl ?_|refine Go.fin1 (by first|exact .inr rfl|exact .inl rfl) rfl (hq:=?_))
      exact ⟨b9, c9, rfl, v9, o9.mono (by omega)⟩
end Go.Proofs.Ytjpegoigipbmiaa
namespace Go.Proofs.Ytjpegoigipbmiaa
theorem Rv.put {P : Program} {h : AHeap} {sz len cap b : Nat} {a : Option Addr} {cs : List Value} (k : Rv P h sz a len cap cs) (hb : b ∉ blk a) (o : Option AObj) : Rv P (h.put b o) sz a len cap cs := by
  cases k with
  | nil => exact .nil
  | mk hg ho hl hc => exact .mk (by rw [AHeap.get_put_ne _ _ (fun e => hb (by simp [blk, e]))]; exact hg) ho hl hc
theorem beB_succ (n x : Nat) : beB (n + 1) x = beB n (x / 256) ++ [UInt8.ofNat x] := by
  unfold beB
  rw [List.range_succ, List.map_append]
  congr 1
  · apply List.map_congr_left
    intro j hj
    simp only [List.mem_range] at hj
    congr 1
    rw [Nat.div_div_eq_div_mul]
    congr 1
    rw [Nat.mul_comm, ← Nat.pow_succ]
    congr 1
    omega
  · simp
theorem beB_beNum (l : List UInt8) : beB l.length (beNum l) = l := by
  have h : ∀ r : List UInt8, beB r.reverse.length (beNum r.reverse) = r.reverse := by
    intro r
    induction r with
    | nil => rfl
    | cons c r ih =>
      rw [List.reverse_cons, beNum_snoc, List.length_append]
      have hc := c.toNat_lt
      show beB (r.reverse.length + 1) _ = _
      rw [beB_succ]
      have e1 : (beNum r.reverse * 256 + c.toNat) / 256 = beNum r.reverse := by omega
      have e2 : UInt8.ofNat (beNum r.reverse * 256 + c.toNat) = c := by
        apply UInt8.toNat_inj.1
        simp only [UInt8.toNat_ofNat']
        omega
      rw [e1, e2, ih]
  have := h l.reverse
  simpa using this
theorem beB_beNum_n {n : Nat} {l : List UInt8} (h : l.length = n) : beB n (beNum l) = l := by subst h; exact beB_beNum l
theorem beNum_beB (n x : Nat) (h : x < 256 ^ n) : beNum (beB n x) = x := by
  induction n generalizing x with
  | zero => simp at h; subst h; rfl
  | succ n ih =>
    rw [beB_succ, beNum_snoc, ih (x / 256) (by rw [Nat.pow_succ] at h; omega)]
    simp only [UInt8.toNat_ofNat']
    omega
theorem beNum_inj {a b : List UInt8} (hl : a.length = b.length) (h : beNum a = beNum b) : a = b := by
  have := beB_beNum a
  rw [h, hl, beB_beNum] at this
  exact this.symm
end Go.Proofs.Ytjpegoigipbmiaa
namespace Go.Proofs.Ytjpegoigipbmiaa
abbrev Thing := Nat × Nat × List UInt8
def up4 (n : Nat) : Nat := (n + 3) / 4 * 4
def tN (z : List UInt8) : Nat := beNum ((z.drop 2).take 2)
def Whole (z : List UInt8) : Prop := 4 ≤ z.length ∧ 4 ≤ tN z ∧ up4 (tN z) ≤ z.length ∧ ((z.drop (tN z)).take (up4 (tN z) - tN z)).all (· == 0) = true
instance (z : List UInt8) : Decidable (Whole z) := by unfold Whole; infer_instance
def thing (chunk : Bool) (z : List UInt8) : Thing := (if chunk then beNum (z.take 1) else beNum (z.take 2), if chunk then beNum ((z.drop 1).take 1) else 0, (z.drop 4).take (tN z - 4))
def parse (chunk : Bool) (z : List UInt8) : List Thing × Bool :=
  if h0 : z = [] then ([], true) else if h : Whole z then (thing chunk z :: (parse chunk (z.drop (up4 (tN z)))).1, (parse chunk (z.drop (up4 (tN z)))).2) else ([], false)
termination_by z.length
decreasing_by all_goals (have := h.2.1; have := h.1; simp [up4]; omega)
theorem parse_nil (chunk : Bool) : parse chunk [] = ([], true) := by rw [parse]; simp
theorem parse_some {chunk : Bool} {z : List UInt8} (h : Whole z) : parse chunk z = (thing chunk z :: (parse chunk (z.drop (up4 (tN z)))).1, (parse chunk (z.drop (up4 (tN z)))).2) := by
  have h0 : z ≠ [] := by intro e; subst e; have := h.1; simp at this
  rw [parse]; simp [h0, h]
theorem parse_none {chunk : Bool} {z : List UInt8} (h0 : z ≠ []) (h : ¬ Whole z) : parse chunk z = ([], false) := by
  rw [parse]; simp [h0, h]
theorem thing_len {chunk : Bool} {z : List UInt8} (h : Whole z) : (thing chunk z).2.2.length = tN z - 4 := by
  have := h.2.2.1
  have : tN z ≤ up4 (tN z) := by unfold up4; omega
  simp [thing]; omega
theorem up4_le (n : Nat) : n ≤ up4 n ∧ up4 n < n + 4 := by unfold up4; omega
theorem thing_bounds {chunk : Bool} {z : List UInt8} : (thing chunk z).1 < 65536 ∧ (thing chunk z).2.1 < 256 := by
  unfold thing
  cases chunk
  · exact ⟨beNum_lt_of (k := 2) (by simp; omega) rfl, by simp⟩
  · exact ⟨Nat.lt_of_lt_of_le (beNum_lt_of (k := 1) (by simp; omega) rfl : _ < 256) (by decide), beNum_lt_of (k := 1) (by simp; omega) rfl⟩
theorem parse_len {chunk : Bool} : ∀ (z : List UInt8), 4 * (parse chunk z).1.length ≤ z.length := by
  intro z
  induction hn : z.length using Nat.strongRecOn generalizing z with
  | _ n ih =>
    by_cases h0 : z = []
    · subst h0; rw [parse_nil]; simp
    · by_cases h : Whole z
      · rw [parse_some h]
        have h1 := h.1
        have h2 := h.2.1
        have h3 := h.2.2.1
        have := up4_le (tN z)
        have ih' := ih (z.drop (up4 (tN z))).length (by simp; omega) (z.drop (up4 (tN z))) rfl
        simp at ih' ⊢
        omega
      · rw [parse_none h0 h]; simp
theorem beNum_one (x : UInt8) : beNum [x] = x.toNat := by simp [beNum]
theorem take_one {z : List UInt8} {i : Nat} (h : i < z.length) : (z.drop i).take 1 = [z[i]] := by
  rw [List.drop_eq_getElem_cons h]; rfl
theorem take_two {z : List UInt8} {i : Nat} (h : i + 1 < z.length) : (z.drop i).take 2 = [z[i], z[i + 1]] := by
  rw [List.drop_eq_getElem_cons (show i < z.length by omega), List.drop_eq_getElem_cons h]; rfl
theorem beNum_two (x y : UInt8) : beNum [x, y] = x.toNat * 256 + y.toNat := by simp [beNum]
theorem up4_def (n : Nat) : (n + 3) / 4 * 4 = up4 n := rfl
end Go.Proofs.Ytjpegoigipbmiaa