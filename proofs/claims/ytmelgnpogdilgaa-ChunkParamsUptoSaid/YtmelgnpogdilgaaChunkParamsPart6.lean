/- What the law leans on, part 6. No conditions. -/
import Derived.Test.YtmelgnpogdilgaaProg
import Derived.KernelRfl
import Derived.Test.YtmelgnpogdilgaaChecked
import Derived.Test.YtmelgnpogdilgaaChunkParamsPart5
set_option linter.unusedVariables false
set_option linter.unusedSimpArgs false
namespace Go.Proofs.Ytmelgnpogdilgaa
instance : CT Try.prog 3 none := ⟨by kernel_rfl⟩
instance : SZ Try.prog 3 1 := ⟨by kernel_rfl⟩
theorem un3 : Try.prog.underlying 3 = some (.int .i64) := by kernel_rfl
instance : AL Try.prog 3 [.int .i64 0] := ⟨by kernel_rfl⟩
instance : CT Try.prog 4 none := ⟨by kernel_rfl⟩
instance : SZ Try.prog 4 1 := ⟨by kernel_rfl⟩
instance : CT Try.prog 5 none := ⟨by kernel_rfl⟩
instance : SZ Try.prog 5 1 := ⟨by kernel_rfl⟩
theorem un5 : Try.prog.underlying 5 = some (.int .u8) := by kernel_rfl
instance : CT Try.prog 22 none := ⟨by kernel_rfl⟩
instance : SZ Try.prog 22 1 := ⟨by kernel_rfl⟩
theorem un22 : Try.prog.underlying 22 = some (.int .u16) := by kernel_rfl
instance : CT Try.prog 23 none := ⟨by kernel_rfl⟩
instance : SZ Try.prog 23 1 := ⟨by kernel_rfl⟩
instance : EL Try.prog 23 (none, 1) := ⟨by kernel_rfl⟩
instance : UN Try.prog 23 (.slice 5) := ⟨by kernel_rfl⟩
instance : BS Try.prog 23 5 1 (.int .u8 0) := .of (by kernel_rfl) (by kernel_rfl) (by kernel_rfl) (by kernel_rfl) (by kernel_rfl)
instance : MK Try.prog 23 5 1 (.int .u8 0) := .of (inf := Try.t5) (by kernel_rfl) (by kernel_rfl) (by kernel_rfl) (by kernel_rfl) (by kernel_rfl) (by kernel_rfl) (by kernel_rfl)
instance : AP Try.prog 23 23 5 1 1 := .of (inf := Try.t5) (z := .int .u8 0) (e₂ := 5) (by kernel_rfl) (by kernel_rfl) (by kernel_rfl) (by kernel_rfl) (by kernel_rfl) (by kernel_rfl) (by decide) (by kernel_rfl) (by kernel_rfl)
instance : CT Try.prog 25 (some 3) := ⟨by kernel_rfl⟩
instance : SZ Try.prog 25 3 := ⟨by kernel_rfl⟩
instance : FO Try.prog 25 0 0 := ⟨by kernel_rfl⟩
instance : FO Try.prog 25 1 1 := ⟨by kernel_rfl⟩
instance : FO Try.prog 25 2 2 := ⟨by kernel_rfl⟩
instance : ST Try.prog 25 [.int .u16 0, .int .u8 0, .slice none 0 0] [(0, 1), (1, 1), (2, 1)] := .of (z := .agg #[.int .u16 0, .int .u8 0, .slice none 0 0]) (fs := (match Try.prog.underlying 25 with | some (.struct fs) => fs | _ => #[])) (by kernel_rfl) (by kernel_rfl) (by kernel_rfl) (by kernel_rfl) (by kernel_rfl)
instance : AL Try.prog 25 [.int .u16 0, .int .u8 0, .slice none 0 0] := ⟨by kernel_rfl⟩
instance : CT Try.prog 27 none := ⟨by kernel_rfl⟩
instance : SZ Try.prog 27 1 := ⟨by kernel_rfl⟩
instance : AL Try.prog 27 [.int .i64 0] := ⟨by kernel_rfl⟩
instance : CT Try.prog 32 none := ⟨by kernel_rfl⟩
instance : SZ Try.prog 32 1 := ⟨by kernel_rfl⟩
instance : EL Try.prog 32 (none, 3) := ⟨by kernel_rfl⟩
instance : UN Try.prog 32 (.slice 25) := ⟨by kernel_rfl⟩
instance : BS Try.prog 32 25 3 (.agg #[.int .u16 0, .int .u8 0, .slice none 0 0]) := .of (by kernel_rfl) (by kernel_rfl) (by kernel_rfl) (by kernel_rfl) (by kernel_rfl)
instance : AP Try.prog 32 32 25 3 32 := .of (inf := Try.t25) (z := .agg #[.int .u16 0, .int .u8 0, .slice none 0 0]) (e₂ := 25) (by kernel_rfl) (by kernel_rfl) (by kernel_rfl) (by kernel_rfl) (by kernel_rfl) (by kernel_rfl) (by decide) (by kernel_rfl) (by kernel_rfl)
instance : AL Try.prog 32 [.slice none 0 0] := ⟨by kernel_rfl⟩
instance : CT Try.prog 44 none := ⟨by kernel_rfl⟩
instance : SZ Try.prog 44 1 := ⟨by kernel_rfl⟩
theorem un44 : Try.prog.underlying 44 = some (.int .u32) := by kernel_rfl
instance : CT Try.prog 53 none := ⟨by kernel_rfl⟩
instance : SZ Try.prog 53 1 := ⟨by kernel_rfl⟩
instance : EL Try.prog 53 (none, 1) := ⟨by kernel_rfl⟩
instance : UN Try.prog 53 (.slice 44) := ⟨by kernel_rfl⟩
instance : BS Try.prog 53 44 1 (.int .u32 0) := .of (by kernel_rfl) (by kernel_rfl) (by kernel_rfl) (by kernel_rfl) (by kernel_rfl)
instance : AP Try.prog 53 53 44 1 4 := .of (inf := Try.t44) (z := .int .u32 0) (e₂ := 44) (by kernel_rfl) (by kernel_rfl) (by kernel_rfl) (by kernel_rfl) (by kernel_rfl) (by kernel_rfl) (by decide) (by kernel_rfl) (by kernel_rfl)
instance : CT Try.prog 54 none := ⟨by kernel_rfl⟩
instance : SZ Try.prog 54 1 := ⟨by kernel_rfl⟩
instance : EL Try.prog 54 (none, 2) := ⟨by kernel_rfl⟩
instance : UN Try.prog 54 (.slice 82) := ⟨by kernel_rfl⟩
instance : BS Try.prog 54 82 2 (.agg #[.int .u16 0, .int .u16 0]) := .of (by kernel_rfl) (by kernel_rfl) (by kernel_rfl) (by kernel_rfl) (by kernel_rfl)
instance : AP Try.prog 54 54 82 2 4 := .of (inf := Try.t82) (z := .agg #[.int .u16 0, .int .u16 0]) (e₂ := 82) (by kernel_rfl) (by kernel_rfl) (by kernel_rfl) (by kernel_rfl) (by kernel_rfl) (by kernel_rfl) (by decide) (by kernel_rfl) (by kernel_rfl)
instance : CT Try.prog 55 none := ⟨by kernel_rfl⟩
instance : SZ Try.prog 55 1 := ⟨by kernel_rfl⟩
instance : EL Try.prog 55 (none, 2) := ⟨by kernel_rfl⟩
instance : UN Try.prog 55 (.slice 84) := ⟨by kernel_rfl⟩
instance : BS Try.prog 55 84 2 (.agg #[.int .u16 0, .slice none 0 0]) := .of (by kernel_rfl) (by kernel_rfl) (by kernel_rfl) (by kernel_rfl) (by kernel_rfl)
instance : AP Try.prog 55 55 84 2 32 := .of (inf := Try.t84) (z := .agg #[.int .u16 0, .slice none 0 0]) (e₂ := 84) (by kernel_rfl) (by kernel_rfl) (by kernel_rfl) (by kernel_rfl) (by kernel_rfl) (by kernel_rfl) (by decide) (by kernel_rfl) (by kernel_rfl)
instance : CT Try.prog 57 (some 15) := ⟨by kernel_rfl⟩
instance : SZ Try.prog 57 15 := ⟨by kernel_rfl⟩
instance : FO Try.prog 57 0 0 := ⟨by kernel_rfl⟩
instance : FO Try.prog 57 1 1 := ⟨by kernel_rfl⟩
instance : FO Try.prog 57 2 2 := ⟨by kernel_rfl⟩
instance : FO Try.prog 57 3 3 := ⟨by kernel_rfl⟩
instance : FO Try.prog 57 4 4 := ⟨by kernel_rfl⟩
instance : FO Try.prog 57 5 5 := ⟨by kernel_rfl⟩
instance : FO Try.prog 57 6 6 := ⟨by kernel_rfl⟩
instance : FO Try.prog 57 7 7 := ⟨by kernel_rfl⟩
instance : FO Try.prog 57 8 8 := ⟨by kernel_rfl⟩
instance : FO Try.prog 57 9 9 := ⟨by kernel_rfl⟩
instance : FO Try.prog 57 10 10 := ⟨by kernel_rfl⟩
instance : FO Try.prog 57 11 11 := ⟨by kernel_rfl⟩
instance : FO Try.prog 57 12 12 := ⟨by kernel_rfl⟩
instance : FO Try.prog 57 13 13 := ⟨by kernel_rfl⟩
instance : FO Try.prog 57 14 14 := ⟨by kernel_rfl⟩
instance : ST Try.prog 57 [.int .u8 0, .int .u8 0, .int .u32 0, .int .u32 0, .int .u32 0, .int .u16 0, .int .u16 0, .int .u16 0, .int .u16 0, .int .u32 0, .slice none 0 0, .slice none 0 0, .slice none 0 0, .slice none 0 0, .slice none 0 0] [(0, 1), (1, 1), (2, 1), (3, 1), (4, 1), (5, 1), (6, 1), (7, 1), (8, 1), (9, 1), (10, 1), (11, 1), (12, 1), (13, 1), (14, 1)] := .of (z := .agg #[.int .u8 0, .int .u8 0, .int .u32 0, .int .u32 0, .int .u32 0, .int .u16 0, .int .u16 0, .int .u16 0, .int .u16 0, .int .u32 0, .slice none 0 0, .slice none 0 0, .slice none 0 0, .slice none 0 0, .slice none 0 0]) (fs := (match Try.prog.underlying 57 with | some (.struct fs) => fs | _ => #[])) (by kernel_rfl) (by kernel_rfl) (by kernel_rfl) (by kernel_rfl) (by kernel_rfl)
instance : AL Try.prog 57 [.int .u8 0, .int .u8 0, .int .u32 0, .int .u32 0, .int .u32 0, .int .u16 0, .int .u16 0, .int .u16 0, .int .u16 0, .int .u32 0, .slice none 0 0, .slice none 0 0, .slice none 0 0, .slice none 0 0, .slice none 0 0] := ⟨by kernel_rfl⟩
instance : CT Try.prog 63 none := ⟨by kernel_rfl⟩
instance : SZ Try.prog 63 1 := ⟨by kernel_rfl⟩
instance : AL Try.prog 63 [.nilFunc] := ⟨by kernel_rfl⟩
instance : CT Try.prog 82 (some 2) := ⟨by kernel_rfl⟩
instance : SZ Try.prog 82 2 := ⟨by kernel_rfl⟩
instance : FO Try.prog 82 0 0 := ⟨by kernel_rfl⟩
instance : FO Try.prog 82 1 1 := ⟨by kernel_rfl⟩
instance : ST Try.prog 82 [.int .u16 0, .int .u16 0] [(0, 1), (1, 1)] := .of (z := .agg #[.int .u16 0, .int .u16 0]) (fs := (match Try.prog.underlying 82 with | some (.struct fs) => fs | _ => #[])) (by kernel_rfl) (by kernel_rfl) (by kernel_rfl) (by kernel_rfl) (by kernel_rfl)
instance : AL Try.prog 82 [.int .u16 0, .int .u16 0] := ⟨by kernel_rfl⟩
instance : CT Try.prog 84 (some 2) := ⟨by kernel_rfl⟩
instance : SZ Try.prog 84 2 := ⟨by kernel_rfl⟩
instance : FO Try.prog 84 0 0 := ⟨by kernel_rfl⟩
instance : FO Try.prog 84 1 1 := ⟨by kernel_rfl⟩
instance : ST Try.prog 84 [.int .u16 0, .slice none 0 0] [(0, 1), (1, 1)] := .of (z := .agg #[.int .u16 0, .slice none 0 0]) (fs := (match Try.prog.underlying 84 with | some (.struct fs) => fs | _ => #[])) (by kernel_rfl) (by kernel_rfl) (by kernel_rfl) (by kernel_rfl) (by kernel_rfl)
instance : AL Try.prog 84 [.int .u16 0, .slice none 0 0] := ⟨by kernel_rfl⟩
instance : SZ Try.prog 87 2 := ⟨by kernel_rfl⟩
instance : FO Try.prog 87 0 0 := ⟨by kernel_rfl⟩
instance : FO Try.prog 87 1 1 := ⟨by kernel_rfl⟩
instance : ST Try.prog 87 [.slice none 0 0, .int .i64 0] [(0, 1), (1, 1)] := .of (z := .agg #[.slice none 0 0, .int .i64 0]) (fs := (match Try.prog.underlying 87 with | some (.struct fs) => fs | _ => #[])) (by kernel_rfl) (by kernel_rfl) (by kernel_rfl) (by kernel_rfl) (by kernel_rfl)
instance : CT Try.prog 94 none := ⟨by kernel_rfl⟩
instance : SZ Try.prog 94 1 := ⟨by kernel_rfl⟩
instance : AL Try.prog 94 [.pointer none] := ⟨by kernel_rfl⟩
instance : SZ Try.prog 96 2 := ⟨by kernel_rfl⟩
instance : FO Try.prog 96 0 0 := ⟨by kernel_rfl⟩
instance : FO Try.prog 96 1 1 := ⟨by kernel_rfl⟩
instance : ST Try.prog 96 [.slice none 0 0, .bool false] [(0, 1), (1, 1)] := .of (z := .agg #[.slice none 0 0, .bool false]) (fs := (match Try.prog.underlying 96 with | some (.struct fs) => fs | _ => #[])) (by kernel_rfl) (by kernel_rfl) (by kernel_rfl) (by kernel_rfl) (by kernel_rfl)
instance : CT Try.prog 101 none := ⟨by kernel_rfl⟩
instance : SZ Try.prog 101 1 := ⟨by kernel_rfl⟩
instance : EL Try.prog 107 (none, 1) := ⟨by kernel_rfl⟩
instance : UN Try.prog 107 (.slice 22) := ⟨by kernel_rfl⟩
instance : BS Try.prog 107 22 1 (.int .u16 0) := .of (by kernel_rfl) (by kernel_rfl) (by kernel_rfl) (by kernel_rfl) (by kernel_rfl)
instance : IC Try.prog 3 5 .u8 := .of un3 un5
instance : IC Try.prog 3 22 .u16 := .of un3 un22
instance : IC Try.prog 5 3 .i64 := .of un5 un3
instance : IC Try.prog 5 22 .u16 := .of un5 un22
instance : IC Try.prog 5 44 .u32 := .of un5 un44
instance : IC Try.prog 22 5 .u8 := .of un22 un5
instance : IC Try.prog 22 44 .u32 := .of un22 un44
instance : IC Try.prog 44 5 .u8 := .of un44 un5
instance : IC Try.prog 44 22 .u16 := .of un44 un22
instance : BY Try.prog 23 9 := ⟨⟨5, by kernel_rfl, by kernel_rfl⟩, by kernel_rfl⟩
theorem noGlobals : Try.prog.globals.size = 0 := by kernel_rfl
end Go.Proofs.Ytmelgnpogdilgaa
namespace Go.Proofs.Ytmelgnpogdilgaa
set_option maxRecDepth 100000
attribute [local irreducible] Go GoR GoL
theorem up_spec (n : Nat) (hn : n ≤ 1000000000) (h : AHeap) : CallS Try.prog [] 42 [.int .i64 n] h fun v h' => v = .int .i64 ((n + 3) / 4 * 4 : Nat) := by
  (refine CallS.of1 Try.func42 rfl Try.ntmps42 Try.results42 rfl ?_)
  (refine Go.run (g:=?_))
  refine GoR.binE _ rfl rfl rfl rfl rfl rfl (iAndNot3 (x := n + 3) (by omega)) ?_
  (refine Go.run (g:=?_))
  (first|refine Go.finT (by first|exact .inr rfl|exact .inl rfl) rfl ?_|refine Go.fin1 (by first|exact .inr rfl|exact .inl rfl) rfl (hq:=?_))
  rfl
abbrev tlvV (kind flags : Nat) (a : Option Addr) (len cap : Nat) : Value := .agg #[.int .u16 kind, .int .u8 flags, .slice a len cap]
theorem size_spec (kind flags : Nat) (a : Option Addr) (len cap : Nat) (hn : len ≤ 100000000) (h : AHeap) : CallS Try.prog [] 17 [tlvV kind flags a len cap] h fun v h' => v = .int .i64 ((len + 4 + 3) / 4 * 4 : Nat) := by
  (refine CallS.of1 Try.func17 rfl Try.ntmps17 Try.results17 rfl ?_)
  (refine Go.run (g:=?_))
  refine GoR.call rfl rfl rfl rfl rfl rfl rfl (((up_spec (len + 4) (by omega) _).args (by first | rfl | (simp; fail_if_success focus skip) | (simp; omega) | (congr 2; omega))).mono ?_)
  rintro _ h1 rfl s1
  (refine Go.run (g:=?_))
  (first|refine Go.finT (by first|exact .inr rfl|exact .inl rfl) rfl ?_|refine Go.fin1 (by first|exact .inr rfl|exact .inl rfl) rfl (hq:=?_))
  rfl
def OwnB (h h' : AHeap) (v : Value) (l : List UInt8) : Prop := ∃ b, v = .tuple #[.slice b l.length l.length, .int .i64 0] ∧ Sv h' 5 1 b l.length l.length (l.map bv) ∧ Own h.n b
set_option maxHeartbeats 4000000 in
theorem put_ok (chunk : Bool) (kind flags : Nat) (a : Option Addr) (cap : Nat) (h1 : chunk = true → kind ≤ 255) (h2 : chunk = false → flags = 0) (hf : flags < 256) (zs : List UInt8) (hk : zs.length ≤ 65531) (h : AHeap) (hz : Rv Try.prog h 1 a zs.length cap (zs.map bv)) : CallS Try.prog [] 15 [.bool chunk, tlvV kind flags a zs.length cap] h fun v h' => OwnB h h' v (tlvB chunk kind flags zs) := by
  generalize hlen : zs.length = len at *
  have hone : (zs.map bv).all Value.oneCell' = true := by simp [bv, Value.oneCell']
  cases chunk
  · have h2 := h2 rfl
    clear h1
    (refine CallS.of2 Try.func15 rfl Try.ntmps15 Try.results15 rfl ?_)
    (refine Go.run (g:=?_))
    refine GoR.call rfl rfl rfl rfl rfl rfl rfl (((size_spec kind flags a len cap (by omega) _).args (by first | rfl | (simp; fail_if_success focus skip) | (simp; omega) | (congr 2; omega))).mono ?_)
    rintro _ h1 rfl s1
    (have nn := (s1).1; try simp only [AHeap.n_push, AHeap.n_put] at nn)
    (refine Go.run (g:=?_))
    refine GoR.makeO rfl rfl rfl rfl rfl rfl rfl (by omega) (by omega) ?_
    intro b h2 hb ob s2 n2
    (refine Go.run (g:=?_))
    refine Go.loud (by kernel_rfl) rfl ?_
    (refine Go.runL (g:=?_))
    refine GoL.store1' rfl rfl rfl rfl rfl rfl (g:=?_)
    intro h3 hb3 k3 n3
    (refine Go.runL (g:=?_))
    refine GoL.store1' rfl rfl rfl rfl rfl rfl (g:=?_)
    intro h4 hb4 k4 n4
    (refine Go.runL (g:=?_))
    refine GoL.store1' rfl rfl rfl rfl rfl rfl (g:=?_)
    intro h5 hb5 k5 n5
    (refine Go.runL (g:=?_))
    refine GoL.store1' rfl rfl rfl rfl rfl rfl (g:=?_)
    intro h6 hb6 k6 n6
    (refine GoL.end_ (g:=?_))
    rw [set4 (by omega)] at hb6
    clear hb3 hb4 hb5
    have S6 : True → Same h h6 := fun _ => ((((((Same.refl h).push _).trans s1).trans s2).ownO k3 ob (by omega)).ownO k4 ob (by omega)).ownO k5 ob (by omega) |>.ownO k6 ob (by omega)
    (refine Go.run (g:=?_))
    refine Go.loud (by kernel_rfl) rfl ?_
    (refine Go.runL (g:=?_))
    refine GoL.sliceV (lo' := some (.int .i64 4)) (hi' := none) (l := 4) (r := (len + 4 + 3) / 4 * 4) rfl rfl rfl rfl rfl rfl rfl (Sv.rv hb6) rfl rfl (by omega) (by omega) ?_
    (refine Go.runL (g:=?_))
    refine GoL.copySub (kk := 4 * 1) (len' := (len + 4 + 3) / 4 * 4 - 4) (cap₂ := (len + 4 + 3) / 4 * 4 - 4) rfl rfl rfl rfl rfl rfl hb6 (by omega) (hz.same (S6 trivial)) (Own.ok ob (by omega)) hone ?_
    intro h7 rd wr hwr hrd hb7 k7 n7
    (refine GoL.end_ (g:=?_))
    (refine Go.run (g:=?_))
    (first|refine Go.finT (by first|exact .inr rfl|exact .inl rfl) rfl ?_|refine Go.fin1 (by first|exact .inr rfl|exact .inl rfl) rfl (hq:=?_))
    have hL : (tlvB false kind flags zs).length = (len + 4 + 3) / 4 * 4 := by rw [tlvB_length, hlen]
    refine ⟨b, by rw [hL]; rfl, ?_, ob.mono (by omega)⟩
    rw [hL]
    have e : min len ((len + 4 + 3) / 4 * 4 - 4) = zs.length := by omega
    rw [e, List.take_of_length_le (by simp)] at hb7
    have e2 := put_bytes (UInt8.ofNat (kind / 256)) (UInt8.ofNat kind) (UInt8.ofNat ((4 + zs.length) / 256)) (UInt8.ofNat (4 + zs.length)) zs (L := (len + 4 + 3) / 4 * 4) (by omega)
    simp only [bv_ofNat] at e2
    rw [hlen] at e2
    have e3 : setL ([Value.int .u8 ((kind / 2 ^ 8 % 256 : Nat) : Int), .int .u8 ((kind % 256 : Nat) : Int), .int .u8 (((4 + len) / 2 ^ 8 % 256 : Nat) : Int), .int .u8 (((4 + len) % 256 : Nat) : Int)] ++ List.replicate ((len + 4 + 3) / 4 * 4 - 4) (Value.int .u8 0)) (4 * 1) (zs.map bv) = (tlvB false kind flags zs).map bv := by
      unfold tlvB
      rw [hlen]
      exact e2
    rw [e3] at hb7
    exact hb7
  · have h1 := h1 rfl
    clear h2
    (refine CallS.of2 Try.func15 rfl Try.ntmps15 Try.results15 rfl ?_)
    (refine Go.run (g:=?_))
    refine GoR.call rfl rfl rfl rfl rfl rfl rfl (((size_spec kind flags a len cap (by omega) _).args (by first | rfl | (simp; fail_if_success focus skip) | (simp; omega) | (congr 2; omega))).mono ?_)
    rintro _ h1 rfl s1
    (have nn := (s1).1; try simp only [AHeap.n_push, AHeap.n_put] at nn)
    (refine Go.run (g:=?_))
    refine GoR.makeO rfl rfl rfl rfl rfl rfl rfl (by omega) (by omega) ?_
    intro b h2 hb ob s2 n2
    (refine Go.run (g:=?_))
    refine Go.loud (by kernel_rfl) rfl ?_
    (refine Go.runL (g:=?_))
    refine GoL.store1' rfl rfl rfl rfl rfl rfl (g:=?_)
    intro h3 hb3 k3 n3
    (refine Go.runL (g:=?_))
    refine GoL.store1' rfl rfl rfl rfl rfl rfl (g:=?_)
    intro h4 hb4 k4 n4
    (refine Go.runL (g:=?_))
    refine GoL.store1' rfl rfl rfl rfl rfl rfl (g:=?_)
    intro h5 hb5 k5 n5
    (refine Go.runL (g:=?_))
    refine GoL.store1' rfl rfl rfl rfl rfl rfl (g:=?_)
    intro h6 hb6 k6 n6
    (refine GoL.end_ (g:=?_))
    rw [set4 (by omega)] at hb6
    clear hb3 hb4 hb5
    have S6 : True → Same h h6 := fun _ => ((((((Same.refl h).push _).trans s1).trans s2).ownO k3 ob (by omega)).ownO k4 ob (by omega)).ownO k5 ob (by omega) |>.ownO k6 ob (by omega)
    (refine Go.run (g:=?_))
    refine Go.loud (by kernel_rfl) rfl ?_
    (refine Go.runL (g:=?_))
    refine GoL.store1' rfl rfl rfl rfl rfl rfl (g:=?_)
    intro h8 hb8 k8 n8
    (refine Go.runL (g:=?_))
    refine GoL.store1' rfl rfl rfl rfl rfl rfl (g:=?_)
    intro h9 hb9 k9 n9
    (refine GoL.end_ (g:=?_))
    have S9 : True → Same h h9 := fun _ => ((S6 trivial).ownO k8 ob (by omega)).ownO k9 ob (by omega)
    clear hb8
    (refine Go.run (g:=?_))
    refine Go.loud (by kernel_rfl) rfl ?_
    (refine Go.runL (g:=?_))
    refine GoL.sliceV (lo' := some (.int .i64 4)) (hi' := none) (l := 4) (r := (len + 4 + 3) / 4 * 4) rfl rfl rfl rfl rfl rfl rfl (Sv.rv hb9) rfl rfl (by omega) (by omega) ?_
    (refine Go.runL (g:=?_))
    refine GoL.copySub (kk := 4 * 1) (len' := (len + 4 + 3) / 4 * 4 - 4) (cap₂ := (len + 4 + 3) / 4 * 4 - 4) rfl rfl rfl rfl rfl rfl hb9 (by omega) (hz.same (S9 trivial)) (Own.ok ob (by omega)) hone ?_
    intro h7 rd wr hwr hrd hb7 k7 n7
    (refine GoL.end_ (g:=?_))
    (refine Go.run (g:=?_))
    (first|refine Go.finT (by first|exact .inr rfl|exact .inl rfl) rfl ?_|refine Go.fin1 (by first|exact .inr rfl|exact .inl rfl) rfl (hq:=?_))
    have hL : (tlvB true kind flags zs).length = (len + 4 + 3) / 4 * 4 := by rw [tlvB_length, hlen]
    refine ⟨b, by rw [hL]; rfl, ?_, ob.mono (by omega)⟩
    rw [hL]
    have e : min len ((len + 4 + 3) / 4 * 4 - 4) = zs.length := by omega
    rw [e, List.take_of_length_le (by simp)] at hb7
    have e2 := put_bytes (UInt8.ofNat kind) (UInt8.ofNat flags) (UInt8.ofNat ((4 + zs.length) / 256)) (UInt8.ofNat (4 + zs.length)) zs (L := (len + 4 + 3) / 4 * 4) (by omega)
    simp only [bv_ofNat] at e2
    rw [hlen, Nat.mod_eq_of_lt hf] at e2
    have e3 : setL ((([Value.int .u8 ((kind / 2 ^ 8 % 256 : Nat) : Int), .int .u8 ((kind % 256 : Nat) : Int), .int .u8 (((4 + len) / 2 ^ 8 % 256 : Nat) : Int), .int .u8 (((4 + len) % 256 : Nat) : Int)] ++ List.replicate ((len + 4 + 3) / 4 * 4 - 4) (Value.int .u8 0)).set 0 (.int .u8 ((kind % 256 : Nat) : Int))).set 1 (.int .u8 (flags : Int))) (4 * 1) (zs.map bv) = (tlvB true kind flags zs).map bv := by
      unfold tlvB
      rw [hlen]
      exact e2
    rw [e3] at hb7
    exact hb7
end Go.Proofs.Ytmelgnpogdilgaa
namespace Go.Proofs.Ytmelgnpogdilgaa
open Go.RowKit
set_option maxRecDepth 100000
attribute [local irreducible] Go GoR GoL
def asB5 : Value → AHeap → List Nat → Option Bool
  | .bool b, _, _ => some b
  | _, _, _ => none
theorem asB5_true {v : Value} {h : AHeap} {wr : List Nat} (e : asB5 v h wr = some true) : v = .bool true := by
  unfold asB5 at e
  split at e
  · cases e; rfl
  · cases e
theorem known05Run : callK (A := Bool) Try.prog noS (fev Try.prog noS 5000) 28 [] emptyH asB5 = some true := by kernel_rfl
theorem known05 (h : AHeap) : CallS Try.prog [] 28 [] h fun u h' => u = .bool true ∧ h' = h := by
  obtain ⟨v, h', wr, hc, he⟩ := callRun_of (noS_ok _) known05Run
  obtain rfl := asB5_true he
  exact CallS.known noGlobals hc rfl h
def kn (k : Nat) : Bool := decide (k ≤ 11) || decide (k = 14)
end Go.Proofs.Ytmelgnpogdilgaa
namespace Go.Proofs.Ytmelgnpogdilgaa
set_option maxRecDepth 100000
attribute [local irreducible] Go GoR GoL
structure Sl where
  a : Option Addr
  n : Nat
  cap : Nat
structure Ck where
  k : Nat
  f : Nat
  tag : Nat
  rwnd : Nat
  tsn : Nat
  out : Nat
  inn : Nat
  sid : Nat
  ssn : Nat
  ppid : Nat
  D : Sl
  A : Sl
  G : Sl
  U : Sl
  C : Sl
abbrev Ck.cs (c : Ck) : List Value := [.int .u8 c.k, .int .u8 c.f, .int .u32 c.tag, .int .u32 c.rwnd, .int .u32 c.tsn, .int .u16 c.out, .int .u16 c.inn, .int .u16 c.sid, .int .u16 c.ssn, .int .u32 c.ppid, .slice c.D.a c.D.n c.D.cap, .slice c.A.a c.A.n c.A.cap, .slice c.G.a c.G.n c.G.cap, .slice c.U.a c.U.n c.U.cap, .slice c.C.a c.C.n c.C.cap]
abbrev Ck.v (c : Ck) : Value := .agg #[.int .u8 c.k, .int .u8 c.f, .int .u32 c.tag, .int .u32 c.rwnd, .int .u32 c.tsn, .int .u16 c.out, .int .u16 c.inn, .int .u16 c.sid, .int .u16 c.ssn, .int .u32 c.ppid, .slice c.D.a c.D.n c.D.cap, .slice c.A.a c.A.n c.A.cap, .slice c.G.a c.G.n c.G.cap, .slice c.U.a c.U.n c.U.cap, .slice c.C.a c.C.n c.C.cap]
def Sl.nil : Sl := ⟨none, 0, 0⟩
def Ck.none (k : Nat) : Ck := ⟨k, 0, 0, 0, 0, 0, 0, 0, 0, 0, .nil, .nil, .nil, .nil, .nil⟩
def cl (c : Ck) : Ck :=
  match c.k with
  | 0 => { Ck.none c.k with f := c.f &&& 7, tsn := c.tsn, sid := c.sid, ssn := c.ssn, ppid := c.ppid, D := c.D }
  | 1 => { Ck.none c.k with tag := c.tag, rwnd := c.rwnd, out := c.out, inn := c.inn, tsn := c.tsn, A := c.A }
  | 2 => { Ck.none c.k with tag := c.tag, rwnd := c.rwnd, out := c.out, inn := c.inn, tsn := c.tsn, A := c.A, D := c.D }
  | 3 => { Ck.none c.k with tsn := c.tsn, rwnd := c.rwnd, G := c.G, U := c.U }
  | 4 => { Ck.none c.k with D := c.D }
  | 5 => { Ck.none c.k with D := c.D }
  | 10 => { Ck.none c.k with D := c.D }
  | 6 => { Ck.none c.k with f := c.f &&& 1, C := c.C }
  | 9 => { Ck.none c.k with C := c.C }
  | 7 => { Ck.none c.k with tsn := c.tsn }
  | 14 => { Ck.none c.k with f := c.f &&& 1 }
  | 8 => Ck.none c.k
  | 11 => Ck.none c.k
  | _ => { Ck.none c.k with f := c.f, D := c.D }
theorem cl_else {c : Ck} (h1 : 11 < c.k) (h2 : c.k ≠ 14) : cl c = { Ck.none c.k with f := c.f, D := c.D } := by
  unfold cl
  split <;> first | rfl | omega
set_option maxHeartbeats 16000000 in
theorem clean_spec (c : Ck) (hf : c.f < 256) (h : AHeap) : CallS Try.prog [] 58 [c.v] h fun v h' => v = (cl c).v := by
  unfold Ck.v
  (refine CallS.of1 Try.func58 rfl Try.ntmps58 Try.results58 rfl ?_)
  (iterate 12 (first|refine GoR.end ?_|(refine GoR.gd rfl ?_;first|refine GoR.wanted' rfl rfl rfl rfl (g:=?_)|refine GoR.unwanted' rfl rfl rfl rfl (hd:=rfl) (hN:=rfl) (g:=?_)|refine GoR.unwantedU rfl rfl rfl rfl rfl rfl ?_)|(refine GoR.kk 0 rfl ?_;first|refine GoR.move rfl rfl rfl rfl rfl ?_|refine GoR.assign rfl rfl rfl rfl rfl ?_)|(refine GoR.kk 1 rfl ?_;first|refine GoR.load' rfl rfl rfl rfl rfl (g:=?_)|refine GoR.loadA' rfl rfl rfl rfl rfl (hv:=rfl) (g:=?_)|refine GoR.loadV' rfl rfl rfl rfl rfl (g:=?_)|refine GoR.loadVN' rfl rfl rfl rfl rfl (g:=?_))|(refine GoR.kk 2 rfl ?_;first|refine GoR.store' rfl rfl rfl rfl rfl (hl:=rfl) (h1:=rfl) (h3:=rfl) (g:=?_))|(refine GoR.kk 3 rfl ?_;first|refine GoR.fieldAddr rfl rfl rfl rfl rfl ?_|refine GoR.indexN' rfl rfl rfl rfl rfl rfl (g:=?_)|refine GoR.indexNs' rfl rfl rfl rfl rfl rfl (g:=?_)|refine GoR.indexV' rfl rfl rfl rfl rfl rfl (g:=?_)|refine GoR.indexA' rfl rfl rfl rfl rfl rfl (g:=?_)|refine GoR.fieldV' rfl rfl rfl rfl rfl (g:=?_))|(refine GoR.kk 4 rfl ?_;first|refine GoR.eq rfl rfl rfl rfl rfl rfl ?_|refine GoR.ne rfl rfl rfl rfl rfl rfl ?_|refine GoR.lt rfl rfl rfl rfl rfl rfl ?_|refine GoR.le rfl rfl rfl rfl rfl rfl ?_|refine GoR.gt rfl rfl rfl rfl rfl rfl ?_|refine GoR.ge rfl rfl rfl rfl rfl rfl ?_|refine GoR.addN' rfl rfl rfl rfl rfl rfl (g:=?_)|refine GoR.subN' rfl rfl rfl rfl rfl rfl (g:=?_)|refine GoR.add' rfl rfl rfl rfl rfl rfl (g:=?_)|refine GoR.sub' rfl rfl rfl rfl rfl rfl (g:=?_)|refine GoR.addM' rfl rfl rfl rfl rfl rfl (g:=?_)|refine GoR.subM' rfl rfl rfl rfl rfl rfl (g:=?_)|refine GoR.mulM' rfl rfl rfl rfl rfl rfl (g:=?_)|refine GoR.shrN rfl rfl rfl rfl rfl rfl rfl ?_|refine GoR.structEq rfl rfl rfl rfl rfl rfl (by rfl) (by rfl) ?_|refine GoR.structNe rfl rfl rfl rfl rfl rfl (by rfl) (by rfl) ?_|refine GoR.strEq rfl rfl rfl rfl rfl rfl ?_|refine GoR.strNe rfl rfl rfl rfl rfl rfl ?_|refine GoR.remN' rfl rfl rfl rfl rfl rfl (g:=?_)|refine GoR.quoN' rfl rfl rfl rfl rfl rfl (g:=?_)|refine GoR.shlN' rfl rfl rfl rfl rfl rfl rfl (g:=?_)|refine GoR.orN' rfl rfl rfl rfl rfl rfl (g:=?_))|(refine GoR.kk 5 rfl ?_;first|refine GoR.len rfl rfl rfl rfl rfl ?_|refine GoR.lenStr rfl rfl rfl rfl rfl ?_|refine GoR.capB rfl rfl rfl rfl rfl ?_)|(refine GoR.kk 7 rfl ?_;first|refine GoR.pickE' rfl rfl rfl rfl rfl (hx:=rfl) (hy:=rfl) (g:=?_)|refine GoR.pickN' rfl rfl rfl rfl rfl (hx:=rfl) (hy:=rfl) (g:=?_)|refine GoR.pickB rfl rfl rfl rfl rfl rfl rfl ?_)|(refine GoR.kk 8 rfl ?_;first|refine GoR.boxA rfl rfl rfl rfl rfl ?_|refine GoR.boxS rfl rfl rfl rfl rfl rfl ?_|refine GoR.alloc rfl rfl rfl rfl ?_)|(refine GoR.kk 9 rfl ?_;first|refine GoR.strV' rfl rfl rfl rfl rfl (g:=?_)|refine GoR.conv_u8 rfl rfl rfl rfl rfl ?_|refine GoR.convW' rfl rfl rfl rfl rfl (g:=?_)|refine GoR.conv_u16 rfl rfl rfl rfl rfl ?_|refine GoR.conv_u32 rfl rfl rfl rfl rfl ?_)|(refine GoR.kk 10 rfl ?_;first|refine GoR.build' rfl rfl rfl rfl rfl rfl (g:=?_))|(refine GoR.kk 11 rfl ?_;first|refine GoR.extract rfl rfl rfl rfl rfl rfl ?_|refine GoR.not rfl rfl rfl rfl rfl ?_|refine GoR.nilCheck rfl rfl rfl rfl rfl ?_|refine GoR.nilCheckF rfl rfl rfl rfl rfl ?_|refine GoR.makeFunc rfl rfl rfl rfl rfl rfl ?_)|(refine Go.kk 0 rfl ?_;refine Go.seq ?_)|(refine Go.kk 1 rfl ?_;refine Go.region (by kernel_rfl) rfl ?_)|(refine Go.kk 2 rfl ?_;refine Go.drawnQ rfl (by kernel_rfl) rfl ?_)|(refine Go.kk 3 rfl ?_;first|refine Go.cond_t' rfl (g:=?_)|refine Go.cond_f' rfl (g:=?_))|(refine Go.kk 4 rfl ?_;refine Go.block ?_)|(refine Go.kk 5 rfl ?_;first|refine Go.skip ?_|refine Go.ret ?_|refine Go.exit ?_|refine Go.scope ?_)|refine Go.leave_normal ?_|refine Go.leave_same ?_|refine Go.leave_ret ?_|refine Go.ret_code ?_|refine Go.exit_code ?_|refine Go.leave_other rfl ?_|refine Go.sc_normal ?_|refine Go.sc_ret ?_|refine Go.sc_exit ?_|refine Go.exit_back ?_|refine Go.ret_back ?_))
  simp only [AHeap.n_push, AHeap.n_put]
  refine GoR.name ?_
  intro h3 e3
  have G0 : h3.get h.n = some (.cells c.cs 57) := by
    subst e3
    rw [AHeap.get_put_ne _ _ (by omega), AHeap.get_push_ne _ _ (by simp; omega), AHeap.get_push_ne _ _ (by simp), AHeap.get_push_same]
  have G2 : h3.get (h.n + 1 + 1) = some (.cells [.int .u8 c.k, .int .u8 0, .int .u32 0, .int .u32 0, .int .u32 0, .int .u16 0, .int .u16 0, .int .u16 0, .int .u16 0, .int .u32 0, .slice none 0 0, .slice none 0 0, .slice none 0 0, .slice none 0 0, .slice none 0 0] 57) := by
    subst e3
    exact AHeap.get_put_same _ (by simp) _
  have G1 : h3.get (h.n + 1) = some (.cells [.int .u8 0, .int .u8 0, .int .u32 0, .int .u32 0, .int .u32 0, .int .u16 0, .int .u16 0, .int .u16 0, .int .u16 0, .int .u32 0, .slice none 0 0, .slice none 0 0, .slice none 0 0, .slice none 0 0, .slice none 0 0] 57) := by
    subst e3
    rw [AHeap.get_put_ne _ _ (by omega), AHeap.get_push_ne _ _ (by simp)]
    exact AHeap.get_push_same (h.push _) _
  have n3 : h3.n = h.n + 3 := by subst e3; rfl
  have S3 : Same h h3 := by subst e3; exact ((((Same.refl h).push _).push _).push _).put (by omega) _
  clear e3
  unfold Ck.cs at G0
  rcases (show c.k = 0 ∨ c.k = 1 ∨ c.k = 2 ∨ c.k = 3 ∨ c.k = 4 ∨ c.k = 5 ∨ c.k = 6 ∨ c.k = 7 ∨ c.k = 8 ∨ c.k = 9 ∨ c.k = 10 ∨ c.k = 11 ∨ c.k = 14 ∨ (11 < c.k ∧ c.k ≠ 14) by omega) with hk | hk | hk | hk | hk | hk | hk | hk | hk | hk | hk | hk | hk | ⟨h1, h2⟩
  · rw [show cl c = { Ck.none c.k with f := c.f &&& 7, tsn := c.tsn, sid := c.sid, ssn := c.ssn, ppid := c.ppid, D := c.D } from by unfold cl; split <;> first | rfl | omega | contradiction | (simp_all; done)]
    unfold Ck.none Sl.nil
    (refine Go.run (g:=?_))
    refine GoR.andN (j := 7) rfl rfl rfl rfl rfl rfl (by simp [IntKind.bits, IntKind.signed]; omega) (by simp [IntKind.bits, IntKind.signed]) ?_
    (refine Go.run (g:=?_))
    refine Go.loud (by kernel_rfl) rfl ?_
    (refine Go.runL (g:=?_))
    refine GoL.store' rfl rfl rfl rfl rfl (hl:=rfl) (h1:=rfl) (h3:=rfl) (g:=?_)
    (refine Go.runL (g:=?_))
    refine GoL.store' rfl rfl rfl rfl rfl (hl:=rfl) (h1:=rfl) (h3:=rfl) (g:=?_)
    (refine Go.runL (g:=?_))
    refine GoL.store' rfl rfl rfl rfl rfl (hl:=rfl) (h1:=rfl) (h3:=rfl) (g:=?_)
    (refine Go.runL (g:=?_))
    refine GoL.store' rfl rfl rfl rfl rfl (hl:=rfl) (h1:=rfl) (h3:=rfl) (g:=?_)
    (refine Go.runL (g:=?_))
    refine GoL.store' rfl rfl rfl rfl rfl (hl:=rfl) (h1:=rfl) (h3:=rfl) (g:=?_)
    refine GoL.end_ (hl := by (simp only [List.nil_append, List.cons_append]); repeat (first | exact loudP.nil | refine loudP.none ?_ | refine loudP.new (fun _ hb => absurd hb List.not_mem_nil) ?_ | refine loudP.row (by repeat (first | exact loudRowP.nil | refine loudRowP.none ?_ | refine loudRowP.bef (by decide +kernel) ?_ | refine loudRowP.apart (by first | exact .inl rfl | exact .inr (by simp)) rfl (by intro i hi; simp only [List.mem_singleton] at hi; subst hi; simp; omega) ?_)) ?_)) ?_
    (refine Go.run (g:=?_))
    refine Go.fin (by first|exact .inr rfl|exact .inl rfl) (.cellN (b := h.n + 1) (off := 0) rfl inferInstance (by (first | assumption | exact AHeap.get_push_same _ _ | ((repeat first | exact AHeap.get_push_same _ _ | assumption | refine get_push_lt ?_ | exact AHeap.get_put_same _ (by first | omega | (simp only [AHeap.n_push, AHeap.n_put]; omega)) _ | exact get_put_self (by assumption) | apply get_put_self | refine get_put_other (by first | omega | (simp only [AHeap.n_push, AHeap.n_put]; omega)) ?_ | refine Same.get (by assumption) ?_ | refine Keeps.get (by assumption) ?_ (fun hi => by have hx := Own.out (by assumption) hi; omega)) ; fail_if_success focus skip) | fail)) (by first | exact Nat.le_refl _ | (simp [setL, cellsL]; fail_if_success focus skip) | (simp; omega)) rfl .nil) ?_
    rfl
  · rw [show cl c = { Ck.none c.k with tag := c.tag, rwnd := c.rwnd, out := c.out, inn := c.inn, tsn := c.tsn, A := c.A } from by unfold cl; split <;> first | rfl | omega | contradiction | (simp_all; done)]
    unfold Ck.none Sl.nil
    (refine Go.run (g:=?_))
    refine Go.loud (by kernel_rfl) rfl ?_
    (refine Go.runL (g:=?_))
    refine GoL.store' rfl rfl rfl rfl rfl (hl:=rfl) (h1:=rfl) (h3:=rfl) (g:=?_)
    (refine Go.runL (g:=?_))
    refine GoL.store' rfl rfl rfl rfl rfl (hl:=rfl) (h1:=rfl) (h3:=rfl) (g:=?_)
    (refine Go.runL (g:=?_))
    refine GoL.store' rfl rfl rfl rfl rfl (hl:=rfl) (h1:=rfl) (h3:=rfl) (g:=?_)
    (refine Go.runL (g:=?_))
    refine GoL.store' rfl rfl rfl rfl rfl (hl:=rfl) (h1:=rfl) (h3:=rfl) (g:=?_)
    (refine Go.runL (g:=?_))
    refine GoL.store' rfl rfl rfl rfl rfl (hl:=rfl) (h1:=rfl) (h3:=rfl) (g:=?_)
    (refine Go.runL (g:=?_))
    refine GoL.store' rfl rfl rfl rfl rfl (hl:=rfl) (h1:=rfl) (h3:=rfl) (g:=?_)
    refine GoL.end_ (hl := by (simp only [List.nil_append, List.cons_append]); repeat (first | exact loudP.nil | refine loudP.none ?_ | refine loudP.new (fun _ hb => absurd hb List.not_mem_nil) ?_ | refine loudP.row (by repeat (first | exact loudRowP.nil | refine loudRowP.none ?_ | refine loudRowP.bef (by decide +kernel) ?_ | refine loudRowP.apart (by first | exact .inl rfl | exact .inr (by simp)) rfl (by intro i hi; simp only [List.mem_singleton] at hi; subst hi; simp; omega) ?_)) ?_)) ?_
    (refine Go.run (g:=?_))
    refine Go.fin (by first|exact .inr rfl|exact .inl rfl) (.cellN (b := h.n + 1) (off := 0) rfl inferInstance (by (first | assumption | exact AHeap.get_push_same _ _ | ((repeat first | exact AHeap.get_push_same _ _ | assumption | refine get_push_lt ?_ | exact AHeap.get_put_same _ (by first | omega | (simp only [AHeap.n_push, AHeap.n_put]; omega)) _ | exact get_put_self (by assumption) | apply get_put_self | refine get_put_other (by first | omega | (simp only [AHeap.n_push, AHeap.n_put]; omega)) ?_ | refine Same.get (by assumption) ?_ | refine Keeps.get (by assumption) ?_ (fun hi => by have hx := Own.out (by assumption) hi; omega)) ; fail_if_success focus skip) | fail)) (by first | exact Nat.le_refl _ | (simp [setL, cellsL]; fail_if_success focus skip) | (simp; omega)) rfl .nil) ?_
    rfl
  · rw [show cl c = { Ck.none c.k with tag := c.tag, rwnd := c.rwnd, out := c.out, inn := c.inn, tsn := c.tsn, A := c.A, D := c.D } from by unfold cl; split <;> first | rfl | omega | contradiction | (simp_all; done)]
    unfold Ck.none Sl.nil
    (refine Go.run (g:=?_))
    refine Go.loud (by kernel_rfl) rfl ?_
    (refine Go.runL (g:=?_))
    refine GoL.store' rfl rfl rfl rfl rfl (hl:=rfl) (h1:=rfl) (h3:=rfl) (g:=?_)
    (refine Go.runL (g:=?_))
    refine GoL.store' rfl rfl rfl rfl rfl (hl:=rfl) (h1:=rfl) (h3:=rfl) (g:=?_)
    (refine Go.runL (g:=?_))
    refine GoL.store' rfl rfl rfl rfl rfl (hl:=rfl) (h1:=rfl) (h3:=rfl) (g:=?_)
    (refine Go.runL (g:=?_))
    refine GoL.store' rfl rfl rfl rfl rfl (hl:=rfl) (h1:=rfl) (h3:=rfl) (g:=?_)
    (refine Go.runL (g:=?_))
    refine GoL.store' rfl rfl rfl rfl rfl (hl:=rfl) (h1:=rfl) (h3:=rfl) (g:=?_)
    (refine Go.runL (g:=?_))
    refine GoL.store' rfl rfl rfl rfl rfl (hl:=rfl) (h1:=rfl) (h3:=rfl) (g:=?_)
    refine GoL.end_ (hl := by (simp only [List.nil_append, List.cons_append]); repeat (first | exact loudP.nil | refine loudP.none ?_ | refine loudP.new (fun _ hb => absurd hb List.not_mem_nil) ?_ | refine loudP.row (by repeat (first | exact loudRowP.nil | refine loudRowP.none ?_ | refine loudRowP.bef (by decide +kernel) ?_ | refine loudRowP.apart (by first | exact .inl rfl | exact .inr (by simp)) rfl (by intro i hi; simp only [List.mem_singleton] at hi; subst hi; simp; omega) ?_)) ?_)) ?_
    (refine Go.run (g:=?_))
    refine Go.fin (by first|exact .inr rfl|exact .inl rfl) (.cellN (b := h.n + 1) (off := 0) rfl inferInstance (by (first | assumption | exact AHeap.get_push_same _ _ | ((repeat first | exact AHeap.get_push_same _ _ | assumption | refine get_push_lt ?_ | exact AHeap.get_put_same _ (by first | omega | (simp only [AHeap.n_push, AHeap.n_put]; omega)) _ | exact get_put_self (by assumption) | apply get_put_self | refine get_put_other (by first | omega | (simp only [AHeap.n_push, AHeap.n_put]; omega)) ?_ | refine Same.get (by assumption) ?_ | refine Keeps.get (by assumption) ?_ (fun hi => by have hx := Own.out (by assumption) hi; omega)) ; fail_if_success focus skip) | fail)) (by first | exact Nat.le_refl _ | (simp [setL, cellsL]; fail_if_success focus skip) | (simp; omega)) rfl .nil) ?_
    rfl
  · rw [show cl c = { Ck.none c.k with tsn := c.tsn, rwnd := c.rwnd, G := c.G, U := c.U } from by unfold cl; split <;> first | rfl | omega | contradiction | (simp_all; done)]
    unfold Ck.none Sl.nil
    (refine Go.run (g:=?_))
    refine Go.loud (by kernel_rfl) rfl ?_
    (refine Go.runL (g:=?_))
    refine GoL.store' rfl rfl rfl rfl rfl (hl:=rfl) (h1:=rfl) (h3:=rfl) (g:=?_)
    (refine Go.runL (g:=?_))
    refine GoL.store' rfl rfl rfl rfl rfl (hl:=rfl) (h1:=rfl) (h3:=rfl) (g:=?_)
    (refine Go.runL (g:=?_))
    refine GoL.store' rfl rfl rfl rfl rfl (hl:=rfl) (h1:=rfl) (h3:=rfl) (g:=?_)
    (refine Go.runL (g:=?_))
    refine GoL.store' rfl rfl rfl rfl rfl (hl:=rfl) (h1:=rfl) (h3:=rfl) (g:=?_)
    refine GoL.end_ (hl := by (simp only [List.nil_append, List.cons_append]); repeat (first | exact loudP.nil | refine loudP.none ?_ | refine loudP.new (fun _ hb => absurd hb List.not_mem_nil) ?_ | refine loudP.row (by repeat (first | exact loudRowP.nil | refine loudRowP.none ?_ | refine loudRowP.bef (by decide +kernel) ?_ | refine loudRowP.apart (by first | exact .inl rfl | exact .inr (by simp)) rfl (by intro i hi; simp only [List.mem_singleton] at hi; subst hi; simp; omega) ?_)) ?_)) ?_
    (refine Go.run (g:=?_))
    refine Go.fin (by first|exact .inr rfl|exact .inl rfl) (.cellN (b := h.n + 1) (off := 0) rfl inferInstance (by (first | assumption | exact AHeap.get_push_same _ _ | ((repeat first | exact AHeap.get_push_same _ _ | assumption | refine get_push_lt ?_ | exact AHeap.get_put_same _ (by first | omega | (simp only [AHeap.n_push, AHeap.n_put]; omega)) _ | exact get_put_self (by assumption) | apply get_put_self | refine get_put_other (by first | omega | (simp only [AHeap.n_push, AHeap.n_put]; omega)) ?_ | refine Same.get (by assumption) ?_ | refine Keeps.get (by assumption) ?_ (fun hi => by have hx := Own.out (by assumption) hi; omega)) ; fail_if_success focus skip) | fail)) (by first | exact Nat.le_refl _ | (simp [setL, cellsL]; fail_if_success focus skip) | (simp; omega)) rfl .nil) ?_
    rfl
  · rw [show cl c = { Ck.none c.k with D := c.D } from by unfold cl; split <;> first | rfl | omega | contradiction | (simp_all; done)]
    unfold Ck.none Sl.nil
    (refine Go.run (g:=?_))
    refine Go.fin (by first|exact .inr rfl|exact .inl rfl) (.cellN (b := h.n + 1) (off := 0) rfl inferInstance (by (first | assumption | exact AHeap.get_push_same _ _ | ((repeat first | exact AHeap.get_push_same _ _ | assumption | refine get_push_lt ?_ | exact AHeap.get_put_same _ (by first | omega | (simp only [AHeap.n_push, AHeap.n_put]; omega)) _ | exact get_put_self (by assumption) | apply get_put_self | refine get_put_other (by first | omega | (simp only [AHeap.n_push, AHeap.n_put]; omega)) ?_ | refine Same.get (by assumption) ?_ | refine Keeps.get (by assumption) ?_ (fun hi => by have hx := Own.out (by assumption) hi; omega)) ; fail_if_success focus skip) | fail)) (by first | exact Nat.le_refl _ | (simp [setL, cellsL]; fail_if_success focus skip) | (simp; omega)) rfl .nil) ?_
    rfl
  · rw [show cl c = { Ck.none c.k with D := c.D } from by unfold cl; split <;> first | rfl | omega | contradiction | (simp_all; done)]
    unfold Ck.none Sl.nil
    (refine Go.run (g:=?_))
    refine Go.fin (by first|exact .inr rfl|exact .inl rfl) (.cellN (b := h.n + 1) (off := 0) rfl inferInstance (by (first | assumption | exact AHeap.get_push_same _ _ | ((repeat first | exact AHeap.get_push_same _ _ | assumption | refine get_push_lt ?_ | exact AHeap.get_put_same _ (by first | omega | (simp only [AHeap.n_push, AHeap.n_put]; omega)) _ | exact get_put_self (by assumption) | apply get_put_self | refine get_put_other (by first | omega | (simp only [AHeap.n_push, AHeap.n_put]; omega)) ?_ | refine Same.get (by assumption) ?_ | refine Keeps.get (by assumption) ?_ (fun hi => by have hx := Own.out (by assumption) hi; omega)) ; fail_if_success focus skip) | fail)) (by first | exact Nat.le_refl _ | (simp [setL, cellsL]; fail_if_success focus skip) | (simp; omega)) rfl .nil) ?_
    rfl
  · rw [show cl c = { Ck.none c.k with f := c.f &&& 1, C := c.C } from by unfold cl; split <;> first | rfl | omega | contradiction | (simp_all; done)]
    unfold Ck.none Sl.nil
    (refine Go.run (g:=?_))
    refine Go.loud (by kernel_rfl) rfl ?_
    (refine Go.runL (g:=?_))
    refine GoL.andN (j := 1) rfl rfl rfl rfl rfl rfl (by simp [IntKind.bits, IntKind.signed]; omega) (by simp [IntKind.bits, IntKind.signed]) ?_
    (refine Go.runL (g:=?_))
    refine GoL.store' rfl rfl rfl rfl rfl (hl:=rfl) (h1:=rfl) (h3:=rfl) (g:=?_)
    (refine Go.runL (g:=?_))
    refine GoL.store' rfl rfl rfl rfl rfl (hl:=rfl) (h1:=rfl) (h3:=rfl) (g:=?_)
    refine GoL.end_ (hl := by (simp only [List.nil_append, List.cons_append]); repeat (first | exact loudP.nil | refine loudP.none ?_ | refine loudP.new (fun _ hb => absurd hb List.not_mem_nil) ?_ | refine loudP.row (by repeat (first | exact loudRowP.nil | refine loudRowP.none ?_ | refine loudRowP.bef (by decide +kernel) ?_ | refine loudRowP.apart (by first | exact .inl rfl | exact .inr (by simp)) rfl (by intro i hi; simp only [List.mem_singleton] at hi; subst hi; simp; omega) ?_)) ?_)) ?_
    (refine Go.run (g:=?_))
    refine Go.fin (by first|exact .inr rfl|exact .inl rfl) (.cellN (b := h.n + 1) (off := 0) rfl inferInstance (by (first | assumption | exact AHeap.get_push_same _ _ | ((repeat first | exact AHeap.get_push_same _ _ | assumption | refine get_push_lt ?_ | exact AHeap.get_put_same _ (by first | omega | (simp only [AHeap.n_push, AHeap.n_put]; omega)) _ | exact get_put_self (by assumption) | apply get_put_self | refine get_put_other (by first | omega | (simp only [AHeap.n_push, AHeap.n_put]; omega)) ?_ | refine Same.get (by assumption) ?_ | refine Keeps.get (by assumption) ?_ (fun hi => by have hx := Own.out (by assumption) hi; omega)) ; fail_if_success focus skip) | fail)) (by first | exact Nat.le_refl _ | (simp [setL, cellsL]; fail_if_success focus skip) | (simp; omega)) rfl .nil) ?_
    rfl
  · rw [show cl c = { Ck.none c.k with tsn := c.tsn } from by unfold cl; split <;> first | rfl | omega | contradiction | (simp_all; done)]
    unfold Ck.none Sl.nil
    (refine Go.run (g:=?_))
    refine Go.fin (by first|exact .inr rfl|exact .inl rfl) (.cellN (b := h.n + 1) (off := 0) rfl inferInstance (by (first | assumption | exact AHeap.get_push_same _ _ | ((repeat first | exact AHeap.get_push_same _ _ | assumption | refine get_push_lt ?_ | exact AHeap.get_put_same _ (by first | omega | (simp only [AHeap.n_push, AHeap.n_put]; omega)) _ | exact get_put_self (by assumption) | apply get_put_self | refine get_put_other (by first | omega | (simp only [AHeap.n_push, AHeap.n_put]; omega)) ?_ | refine Same.get (by assumption) ?_ | refine Keeps.get (by assumption) ?_ (fun hi => by have hx := Own.out (by assumption) hi; omega)) ; fail_if_success focus skip) | fail)) (by first | exact Nat.le_refl _ | (simp [setL, cellsL]; fail_if_success focus skip) | (simp; omega)) rfl .nil) ?_
    rfl
  · rw [show cl c = Ck.none c.k from by unfold cl; split <;> first | rfl | omega | contradiction | (simp_all; done)]
    unfold Ck.none Sl.nil
    (refine Go.run (g:=?_))
    refine Go.fin (by first|exact .inr rfl|exact .inl rfl) (.cellN (b := h.n + 1) (off := 0) rfl inferInstance (by (first | assumption | exact AHeap.get_push_same _ _ | ((repeat first | exact AHeap.get_push_same _ _ | assumption | refine get_push_lt ?_ | exact AHeap.get_put_same _ (by first | omega | (simp only [AHeap.n_push, AHeap.n_put]; omega)) _ | exact get_put_self (by assumption) | apply get_put_self | refine get_put_other (by first | omega | (simp only [AHeap.n_push, AHeap.n_put]; omega)) ?_ | refine Same.get (by assumption) ?_ | refine Keeps.get (by assumption) ?_ (fun hi => by have hx := Own.out (by assumption) hi; omega)) ; fail_if_success focus skip) | fail)) (by first | exact Nat.le_refl _ | (simp [setL, cellsL]; fail_if_success focus skip) | (simp; omega)) rfl .nil) ?_
    rfl
  · rw [show cl c = { Ck.none c.k with C := c.C } from by unfold cl; split <;> first | rfl | omega | contradiction | (simp_all; done)]
    unfold Ck.none Sl.nil
    (refine Go.run (g:=?_))
    refine Go.fin (by first|exact .inr rfl|exact .inl rfl) (.cellN (b := h.n + 1) (off := 0) rfl inferInstance (by (first | assumption | exact AHeap.get_push_same _ _ | ((repeat first | exact AHeap.get_push_same _ _ | assumption | refine get_push_lt ?_ | exact AHeap.get_put_same _ (by first | omega | (simp only [AHeap.n_push, AHeap.n_put]; omega)) _ | exact get_put_self (by assumption) | apply get_put_self | refine get_put_other (by first | omega | (simp only [AHeap.n_push, AHeap.n_put]; omega)) ?_ | refine Same.get (by assumption) ?_ | refine Keeps.get (by assumption) ?_ (fun hi => by have hx := Own.out (by assumption) hi; omega)) ; fail_if_success focus skip) | fail)) (by first | exact Nat.le_refl _ | (simp [setL, cellsL]; fail_if_success focus skip) | (simp; omega)) rfl .nil) ?_
    rfl
  · rw [show cl c = { Ck.none c.k with D := c.D } from by unfold cl; split <;> first | rfl | omega | contradiction | (simp_all; done)]
    unfold Ck.none Sl.nil
    (refine Go.run (g:=?_))
    refine Go.fin (by first|exact .inr rfl|exact .inl rfl) (.cellN (b := h.n + 1) (off := 0) rfl inferInstance (by (first | assumption | exact AHeap.get_push_same _ _ | ((repeat first | exact AHeap.get_push_same _ _ | assumption | refine get_push_lt ?_ | exact AHeap.get_put_same _ (by first | omega | (simp only [AHeap.n_push, AHeap.n_put]; omega)) _ | exact get_put_self (by assumption) | apply get_put_self | refine get_put_other (by first | omega | (simp only [AHeap.n_push, AHeap.n_put]; omega)) ?_ | refine Same.get (by assumption) ?_ | refine Keeps.get (by assumption) ?_ (fun hi => by have hx := Own.out (by assumption) hi; omega)) ; fail_if_success focus skip) | fail)) (by first | exact Nat.le_refl _ | (simp [setL, cellsL]; fail_if_success focus skip) | (simp; omega)) rfl .nil) ?_
    rfl
  · rw [show cl c = Ck.none c.k from by unfold cl; split <;> first | rfl | omega | contradiction | (simp_all; done)]
    unfold Ck.none Sl.nil
    (refine Go.run (g:=?_))
    refine Go.fin (by first|exact .inr rfl|exact .inl rfl) (.cellN (b := h.n + 1) (off := 0) rfl inferInstance (by (first | assumption | exact AHeap.get_push_same _ _ | ((repeat first | exact AHeap.get_push_same _ _ | assumption | refine get_push_lt ?_ | exact AHeap.get_put_same _ (by first | omega | (simp only [AHeap.n_push, AHeap.n_put]; omega)) _ | exact get_put_self (by assumption) | apply get_put_self | refine get_put_other (by first | omega | (simp only [AHeap.n_push, AHeap.n_put]; omega)) ?_ | refine Same.get (by assumption) ?_ | refine Keeps.get (by assumption) ?_ (fun hi => by have hx := Own.out (by assumption) hi; omega)) ; fail_if_success focus skip) | fail)) (by first | exact Nat.le_refl _ | (simp [setL, cellsL]; fail_if_success focus skip) | (simp; omega)) rfl .nil) ?_
    rfl
  · rw [show cl c = { Ck.none c.k with f := c.f &&& 1 } from by unfold cl; split <;> first | rfl | omega | contradiction | (simp_all; done)]
    unfold Ck.none Sl.nil
    (refine Go.run (g:=?_))
    refine GoR.andN (j := 1) rfl rfl rfl rfl rfl rfl (by simp [IntKind.bits, IntKind.signed]; omega) (by simp [IntKind.bits, IntKind.signed]) ?_
    (refine Go.run (g:=?_))
    refine Go.fin (by first|exact .inr rfl|exact .inl rfl) (.cellN (b := h.n + 1) (off := 0) rfl inferInstance (by (first | assumption | exact AHeap.get_push_same _ _ | ((repeat first | exact AHeap.get_push_same _ _ | assumption | refine get_push_lt ?_ | exact AHeap.get_put_same _ (by first | omega | (simp only [AHeap.n_push, AHeap.n_put]; omega)) _ | exact get_put_self (by assumption) | apply get_put_self | refine get_put_other (by first | omega | (simp only [AHeap.n_push, AHeap.n_put]; omega)) ?_ | refine Same.get (by assumption) ?_ | refine Keeps.get (by assumption) ?_ (fun hi => by have hx := Own.out (by assumption) hi; omega)) ; fail_if_success focus skip) | fail)) (by first | exact Nat.le_refl _ | (simp [setL, cellsL]; fail_if_success focus skip) | (simp; omega)) rfl .nil) ?_
    rfl
  · rw [cl_else h1 h2]
    unfold Ck.none Sl.nil
    (refine Go.run (g:=?_))
    refine Go.loud (by kernel_rfl) rfl ?_
    (refine Go.runL (g:=?_))
    refine GoL.store' rfl rfl rfl rfl rfl (hl:=rfl) (h1:=rfl) (h3:=rfl) (g:=?_)
    (refine Go.runL (g:=?_))
    refine GoL.store' rfl rfl rfl rfl rfl (hl:=rfl) (h1:=rfl) (h3:=rfl) (g:=?_)
    refine GoL.end_ (hl := by (simp only [List.nil_append, List.cons_append]); repeat (first | exact loudP.nil | refine loudP.none ?_ | refine loudP.new (fun _ hb => absurd hb List.not_mem_nil) ?_ | refine loudP.row (by repeat (first | exact loudRowP.nil | refine loudRowP.none ?_ | refine loudRowP.bef (by decide +kernel) ?_ | refine loudRowP.apart (by first | exact .inl rfl | exact .inr (by simp)) rfl (by intro i hi; simp only [List.mem_singleton] at hi; subst hi; simp; omega) ?_)) ?_)) ?_
    (refine Go.run (g:=?_))
    refine Go.fin (by first|exact .inr rfl|exact .inl rfl) (.cellN (b := h.n + 1) (off := 0) rfl inferInstance (by (first | assumption | exact AHeap.get_push_same _ _ | ((repeat first | exact AHeap.get_push_same _ _ | assumption | refine get_push_lt ?_ | exact AHeap.get_put_same _ (by first | omega | (simp only [AHeap.n_push, AHeap.n_put]; omega)) _ | exact get_put_self (by assumption) | apply get_put_self | refine get_put_other (by first | omega | (simp only [AHeap.n_push, AHeap.n_put]; omega)) ?_ | refine Same.get (by assumption) ?_ | refine Keeps.get (by assumption) ?_ (fun hi => by have hx := Own.out (by assumption) hi; omega)) ; fail_if_success focus skip) | fail)) (by first | exact Nat.le_refl _ | (simp [setL, cellsL]; fail_if_success focus skip) | (simp; omega)) rfl .nil) ?_
    rfl
end Go.Proofs.Ytmelgnpogdilgaa
namespace Go.Proofs.Ytmelgnpogdilgaa
set_option maxRecDepth 100000
attribute [local irreducible] Go GoR GoL
section
variable {α : Type} {f : α → List Value} (hf : ∀ x, (f x).length = 2)
include hf
theorem two_len (l : List α) : ((l.map f).flatten).length = l.length * 2 := by
  induction l with
  | nil => rfl
  | cons x l ih => simp only [List.map_cons, List.flatten_cons, List.length_append, hf, ih, List.length_cons]; omega
theorem two_get {l : List α} {i : Nat} (hi : i < l.length) : (((l.map f).flatten).drop (i * 2)).take 2 = f l[i] := by
  induction l generalizing i with
  | nil => simp at hi
  | cons x l ih =>
    cases i with
    | zero => simp only [List.map_cons, List.flatten_cons, Nat.zero_mul, List.drop_zero, List.getElem_cons_zero]; exact List.take_left' (hf x)
    | succ i =>
      rw [List.map_cons, List.flatten_cons, show (i + 1) * 2 = (f x).length + i * 2 from by rw [hf]; omega, ← List.drop_drop, List.drop_left' rfl]
      simpa using ih (by simpa using hi)
theorem two_at {l : List α} {i j : Nat} (hi : i < l.length) (hj : j < 2) : ((l.map f).flatten)[i * 2 + j]? = (f l[i])[j]? := by
  rw [← two_get hf hi, List.getElem?_take_of_lt hj, List.getElem?_drop]
end
def gC (x : Nat × Nat) : List Value := [.int .u16 x.1, .int .u16 x.2]
def gcs (l : List (Nat × Nat)) : List Value := (l.map gC).flatten
theorem gcs_len (l : List (Nat × Nat)) : (gcs l).length = l.length * 2 := two_len (fun _ => rfl) l
theorem gcs_get {l : List (Nat × Nat)} {i : Nat} (hi : i < l.length) : ((gcs l).drop (i * 2)).take 2 = [.int .u16 l[i].1, .int .u16 l[i].2] := two_get (f := gC) (fun _ => rfl) hi
theorem gcs_snoc (l : List (Nat × Nat)) (x : Nat × Nat) : gcs (l ++ [x]) = gcs l ++ gC x := by simp [gcs]
def gapsB : List (Nat × Nat) → Nat → Bool
  | [], _ => true
  | (s, e) :: l, p => decide (s ≤ e) && decide (p + 2 ≤ s) && gapsB l e
def SameB (x y : Ck) : Prop := x.f = y.f ∧ x.tag = y.tag ∧ x.rwnd = y.rwnd ∧ x.tsn = y.tsn ∧ x.out = y.out ∧ x.inn = y.inn ∧ x.sid = y.sid ∧ x.ssn = y.ssn ∧ x.ppid = y.ppid ∧ x.D.n = y.D.n ∧ x.A.n = y.A.n ∧ x.G.n = y.G.n ∧ x.U.n = y.U.n ∧ x.C.n = y.C.n
instance (x y : Ck) : Decidable (SameB x y) := inferInstanceAs (Decidable (_ ∧ _))
def MayF (c : Ck) : Prop := SameB c (cl c) ∧ c.A.n ≤ 3 ∧ c.G.n ≤ 64 ∧ c.U.n ≤ 16 ∧ ¬ ((c.k = 0 ∨ c.k = 2) ∧ c.D.n = 0)
instance (c : Ck) : Decidable (MayF c) := inferInstanceAs (Decidable (_ ∧ _))
def may (c : Ck) (gs : List (Nat × Nat)) : Bool := decide (MayF c) && gapsB gs 0
set_option maxHeartbeats 8000000 in
theorem csame_spec (x y : Ck) (h : AHeap) : CallS Try.prog [] 57 [x.v, y.v] h fun v h' => v = .bool (decide (SameB x y)) := by
  unfold Ck.v
  (refine CallS.of2 Try.func57 rfl Try.ntmps57 Try.results57 rfl ?_)
  (iterate 4 (first|refine GoR.end ?_|(refine GoR.gd rfl ?_;first|refine GoR.wanted' rfl rfl rfl rfl (g:=?_)|refine GoR.unwanted' rfl rfl rfl rfl (hd:=rfl) (hN:=rfl) (g:=?_)|refine GoR.unwantedU rfl rfl rfl rfl rfl rfl ?_)|(refine GoR.kk 0 rfl ?_;first|refine GoR.move rfl rfl rfl rfl rfl ?_|refine GoR.assign rfl rfl rfl rfl rfl ?_)|(refine GoR.kk 1 rfl ?_;first|refine GoR.load' rfl rfl rfl rfl rfl (g:=?_)|refine GoR.loadA' rfl rfl rfl rfl rfl (hv:=rfl) (g:=?_)|refine GoR.loadV' rfl rfl rfl rfl rfl (g:=?_)|refine GoR.loadVN' rfl rfl rfl rfl rfl (g:=?_))|(refine GoR.kk 2 rfl ?_;first|refine GoR.store' rfl rfl rfl rfl rfl (hl:=rfl) (h1:=rfl) (h3:=rfl) (g:=?_))|(refine GoR.kk 3 rfl ?_;first|refine GoR.fieldAddr rfl rfl rfl rfl rfl ?_|refine GoR.indexN' rfl rfl rfl rfl rfl rfl (g:=?_)|refine GoR.indexNs' rfl rfl rfl rfl rfl rfl (g:=?_)|refine GoR.indexV' rfl rfl rfl rfl rfl rfl (g:=?_)|refine GoR.indexA' rfl rfl rfl rfl rfl rfl (g:=?_)|refine GoR.fieldV' rfl rfl rfl rfl rfl (g:=?_))|(refine GoR.kk 4 rfl ?_;first|refine GoR.eq rfl rfl rfl rfl rfl rfl ?_|refine GoR.ne rfl rfl rfl rfl rfl rfl ?_|refine GoR.lt rfl rfl rfl rfl rfl rfl ?_|refine GoR.le rfl rfl rfl rfl rfl rfl ?_|refine GoR.gt rfl rfl rfl rfl rfl rfl ?_|refine GoR.ge rfl rfl rfl rfl rfl rfl ?_|refine GoR.addN' rfl rfl rfl rfl rfl rfl (g:=?_)|refine GoR.subN' rfl rfl rfl rfl rfl rfl (g:=?_)|refine GoR.add' rfl rfl rfl rfl rfl rfl (g:=?_)|refine GoR.sub' rfl rfl rfl rfl rfl rfl (g:=?_)|refine GoR.addM' rfl rfl rfl rfl rfl rfl (g:=?_)|refine GoR.subM' rfl rfl rfl rfl rfl rfl (g:=?_)|refine GoR.mulM' rfl rfl rfl rfl rfl rfl (g:=?_)|refine GoR.shrN rfl rfl rfl rfl rfl rfl rfl ?_|refine GoR.structEq rfl rfl rfl rfl rfl rfl (by rfl) (by rfl) ?_|refine GoR.structNe rfl rfl rfl rfl rfl rfl (by rfl) (by rfl) ?_|refine GoR.strEq rfl rfl rfl rfl rfl rfl ?_|refine GoR.strNe rfl rfl rfl rfl rfl rfl ?_|refine GoR.remN' rfl rfl rfl rfl rfl rfl (g:=?_)|refine GoR.quoN' rfl rfl rfl rfl rfl rfl (g:=?_)|refine GoR.shlN' rfl rfl rfl rfl rfl rfl rfl (g:=?_)|refine GoR.orN' rfl rfl rfl rfl rfl rfl (g:=?_))|(refine GoR.kk 5 rfl ?_;first|refine GoR.len rfl rfl rfl rfl rfl ?_|refine GoR.lenStr rfl rfl rfl rfl rfl ?_|refine GoR.capB rfl rfl rfl rfl rfl ?_)|(refine GoR.kk 7 rfl ?_;first|refine GoR.pickE' rfl rfl rfl rfl rfl (hx:=rfl) (hy:=rfl) (g:=?_)|refine GoR.pickN' rfl rfl rfl rfl rfl (hx:=rfl) (hy:=rfl) (g:=?_)|refine GoR.pickB rfl rfl rfl rfl rfl rfl rfl ?_)|(refine GoR.kk 8 rfl ?_;first|refine GoR.boxA rfl rfl rfl rfl rfl ?_|refine GoR.boxS rfl rfl rfl rfl rfl rfl ?_|refine GoR.alloc rfl rfl rfl rfl ?_)|(refine GoR.kk 9 rfl ?_;first|refine GoR.strV' rfl rfl rfl rfl rfl (g:=?_)|refine GoR.conv_u8 rfl rfl rfl rfl rfl ?_|refine GoR.convW' rfl rfl rfl rfl rfl (g:=?_)|refine GoR.conv_u16 rfl rfl rfl rfl rfl ?_|refine GoR.conv_u32 rfl rfl rfl rfl rfl ?_)|(refine GoR.kk 10 rfl ?_;first|refine GoR.build' rfl rfl rfl rfl rfl rfl (g:=?_))|(refine GoR.kk 11 rfl ?_;first|refine GoR.extract rfl rfl rfl rfl rfl rfl ?_|refine GoR.not rfl rfl rfl rfl rfl ?_|refine GoR.nilCheck rfl rfl rfl rfl rfl ?_|refine GoR.nilCheckF rfl rfl rfl rfl rfl ?_|refine GoR.makeFunc rfl rfl rfl rfl rfl rfl ?_)|(refine Go.kk 0 rfl ?_;refine Go.seq ?_)|(refine Go.kk 1 rfl ?_;refine Go.region (by kernel_rfl) rfl ?_)|(refine Go.kk 2 rfl ?_;refine Go.drawnQ rfl (by kernel_rfl) rfl ?_)|(refine Go.kk 3 rfl ?_;first|refine Go.cond_t' rfl (g:=?_)|refine Go.cond_f' rfl (g:=?_))|(refine Go.kk 4 rfl ?_;refine Go.block ?_)|(refine Go.kk 5 rfl ?_;first|refine Go.skip ?_|refine Go.ret ?_|refine Go.exit ?_|refine Go.scope ?_)|refine Go.leave_normal ?_|refine Go.leave_same ?_|refine Go.leave_ret ?_|refine Go.ret_code ?_|refine Go.exit_code ?_|refine Go.leave_other rfl ?_|refine Go.sc_normal ?_|refine Go.sc_ret ?_|refine Go.sc_exit ?_|refine Go.exit_back ?_|refine Go.ret_back ?_))
  simp only [AHeap.n_push, AHeap.n_put]
  refine GoR.name ?_
  intro h3 e3
  have G0 : h3.get h.n = some (.cells x.cs 57) := by
    subst e3
    rw [AHeap.get_push_ne _ _ (by simp), AHeap.get_push_same]
  have G1 : h3.get (h.n + 1) = some (.cells y.cs 57) := by
    subst e3
    exact AHeap.get_push_same (h.push _) _
  have n3 : h3.n = h.n + 2 := by subst e3; rfl
  clear e3
  unfold Ck.cs at G0 G1
  by_cases c1 : x.f = y.f
  case neg =>
    have e : decide (SameB x y) = false := decide_eq_false fun hs => by simp only [SameB] at hs; exact c1 hs.1
    simp only [e]
    (refine Go.run (g:=?_))
    (first|refine Go.finT (by first|exact .inr rfl|exact .inl rfl) rfl ?_|refine Go.fin1 (by first|exact .inr rfl|exact .inl rfl) rfl (hq:=?_))
    rfl
  by_cases c2 : x.tag = y.tag
  case neg =>
    have e : decide (SameB x y) = false := decide_eq_false fun hs => by simp only [SameB] at hs; exact c2 hs.2.1
    simp only [e]
    (refine Go.run (g:=?_))
    (first|refine Go.finT (by first|exact .inr rfl|exact .inl rfl) rfl ?_|refine Go.fin1 (by first|exact .inr rfl|exact .inl rfl) rfl (hq:=?_))
    rfl
  by_cases c3 : x.rwnd = y.rwnd
  case neg =>
    have e : decide (SameB x y) = false := decide_eq_false fun hs => by simp only [SameB] at hs; exact c3 hs.2.2.1
    simp only [e]
    (refine Go.run (g:=?_))
    (first|refine Go.finT (by first|exact .inr rfl|exact .inl rfl) rfl ?_|refine Go.fin1 (by first|exact .inr rfl|exact .inl rfl) rfl (hq:=?_))
    rfl
  by_cases c4 : x.tsn = y.tsn
  case neg =>
    have e : decide (SameB x y) = false := decide_eq_false fun hs => by simp only [SameB] at hs; exact c4 hs.2.2.2.1
    simp only [e]
    (refine Go.run (g:=?_))
    (first|refine Go.finT (by first|exact .inr rfl|exact .inl rfl) rfl ?_|refine Go.fin1 (by first|exact .inr rfl|exact .inl rfl) rfl (hq:=?_))
    rfl
  by_cases c5 : x.out = y.out
  case neg =>
    have e : decide (SameB x y) = false := decide_eq_false fun hs => by simp only [SameB] at hs; exact c5 hs.2.2.2.2.1
    simp only [e]
    (refine Go.run (g:=?_))
    (first|refine Go.finT (by first|exact .inr rfl|exact .inl rfl) rfl ?_|refine Go.fin1 (by first|exact .inr rfl|exact .inl rfl) rfl (hq:=?_))
    rfl
  by_cases c6 : x.inn = y.inn
  case neg =>
    have e : decide (SameB x y) = false := decide_eq_false fun hs => by simp only [SameB] at hs; exact c6 hs.2.2.2.2.2.1
    simp only [e]
    (refine Go.run (g:=?_))
    (first|refine Go.finT (by first|exact .inr rfl|exact .inl rfl) rfl ?_|refine Go.fin1 (by first|exact .inr rfl|exact .inl rfl) rfl (hq:=?_))
    rfl
  by_cases c7 : x.sid = y.sid
  case neg =>
    have e : decide (SameB x y) = false := decide_eq_false fun hs => by simp only [SameB] at hs; exact c7 hs.2.2.2.2.2.2.1
    simp only [e]
    (refine Go.run (g:=?_))
    (first|refine Go.finT (by first|exact .inr rfl|exact .inl rfl) rfl ?_|refine Go.fin1 (by first|exact .inr rfl|exact .inl rfl) rfl (hq:=?_))
    rfl
  by_cases c8 : x.ssn = y.ssn
  case neg =>
    have e : decide (SameB x y) = false := decide_eq_false fun hs => by simp only [SameB] at hs; exact c8 hs.2.2.2.2.2.2.2.1
    simp only [e]
    (refine Go.run (g:=?_))
    (first|refine Go.finT (by first|exact .inr rfl|exact .inl rfl) rfl ?_|refine Go.fin1 (by first|exact .inr rfl|exact .inl rfl) rfl (hq:=?_))
    rfl
  by_cases c9 : x.ppid = y.ppid
  case neg =>
    have e : decide (SameB x y) = false := decide_eq_false fun hs => by simp only [SameB] at hs; exact c9 hs.2.2.2.2.2.2.2.2.1
    simp only [e]
    (refine Go.run (g:=?_))
    (first|refine Go.finT (by first|exact .inr rfl|exact .inl rfl) rfl ?_|refine Go.fin1 (by first|exact .inr rfl|exact .inl rfl) rfl (hq:=?_))
    rfl
  by_cases c10 : x.D.n = y.D.n
  case neg =>
    have e : decide (SameB x y) = false := decide_eq_false fun hs => by simp only [SameB] at hs; exact c10 hs.2.2.2.2.2.2.2.2.2.1
    simp only [e]
    (refine Go.run (g:=?_))
    (first|refine Go.finT (by first|exact .inr rfl|exact .inl rfl) rfl ?_|refine Go.fin1 (by first|exact .inr rfl|exact .inl rfl) rfl (hq:=?_))
    rfl
  by_cases c11 : x.A.n = y.A.n
  case neg =>
    have e : decide (SameB x y) = false := decide_eq_false fun hs => by simp only [SameB] at hs; exact c11 hs.2.2.2.2.2.2.2.2.2.2.1
    simp only [e]
    (refine Go.run (g:=?_))
    (first|refine Go.finT (by first|exact .inr rfl|exact .inl rfl) rfl ?_|refine Go.fin1 (by first|exact .inr rfl|exact .inl rfl) rfl (hq:=?_))
    rfl
  by_cases c12 : x.G.n = y.G.n
  case neg =>
    have e : decide (SameB x y) = false := decide_eq_false fun hs => by simp only [SameB] at hs; exact c12 hs.2.2.2.2.2.2.2.2.2.2.2.1
    simp only [e]
    (refine Go.run (g:=?_))
    (first|refine Go.finT (by first|exact .inr rfl|exact .inl rfl) rfl ?_|refine Go.fin1 (by first|exact .inr rfl|exact .inl rfl) rfl (hq:=?_))
    rfl
  by_cases c13 : x.U.n = y.U.n
  case neg =>
    have e : decide (SameB x y) = false := decide_eq_false fun hs => by simp only [SameB] at hs; exact c13 hs.2.2.2.2.2.2.2.2.2.2.2.2.1
    simp only [e]
    (refine Go.run (g:=?_))
    (first|refine Go.finT (by first|exact .inr rfl|exact .inl rfl) rfl ?_|refine Go.fin1 (by first|exact .inr rfl|exact .inl rfl) rfl (hq:=?_))
    rfl
  by_cases c14 : x.C.n = y.C.n
  case neg =>
    have e : decide (SameB x y) = false := decide_eq_false fun hs => by simp only [SameB] at hs; exact c14 hs.2.2.2.2.2.2.2.2.2.2.2.2.2
    simp only [e]
    (refine Go.run (g:=?_))
    (first|refine Go.finT (by first|exact .inr rfl|exact .inl rfl) rfl ?_|refine Go.fin1 (by first|exact .inr rfl|exact .inl rfl) rfl (hq:=?_))
    simp [retV]; omega
  have e : decide (SameB x y) = true := decide_eq_true ⟨c1, c2, c3, c4, c5, c6, c7, c8, c9, c10, c11, c12, c13, c14⟩
  simp only [e]
  (refine Go.run (g:=?_))
  (first|refine Go.finT (by first|exact .inr rfl|exact .inl rfl) rfl ?_|refine Go.fin1 (by first|exact .inr rfl|exact .inl rfl) rfl (hq:=?_))
  simp [retV]; omega
end Go.Proofs.Ytmelgnpogdilgaa
namespace Go.Proofs.Ytmelgnpogdilgaa
set_option maxRecDepth 100000
attribute [local irreducible] Go GoR GoL
set_option maxHeartbeats 8000000 in
theorem may_spec (c : Ck) (hf : c.f < 256) (gs : List (Nat × Nat)) (hl : gs.length = c.G.n) (hg : ∀ x ∈ gs, x.1 < 65536 ∧ x.2 < 65536) (h : AHeap) (hz : Rv Try.prog h 2 c.G.a c.G.n c.G.cap (gcs gs)) : CallS Try.prog [] 32 [c.v] h fun v h' => v = .bool (may c gs) := by
  have hcl := clean_spec c hf
  have hsb := csame_spec c (cl c)
  generalize hd : cl c = d at hcl hsb
  unfold Ck.v
  (refine CallS.of1 Try.func32 rfl Try.ntmps32 Try.results32 rfl ?_)
  (iterate 4 (first|refine GoR.end ?_|(refine GoR.gd rfl ?_;first|refine GoR.wanted' rfl rfl rfl rfl (g:=?_)|refine GoR.unwanted' rfl rfl rfl rfl (hd:=rfl) (hN:=rfl) (g:=?_)|refine GoR.unwantedU rfl rfl rfl rfl rfl rfl ?_)|(refine GoR.kk 0 rfl ?_;first|refine GoR.move rfl rfl rfl rfl rfl ?_|refine GoR.assign rfl rfl rfl rfl rfl ?_)|(refine GoR.kk 1 rfl ?_;first|refine GoR.load' rfl rfl rfl rfl rfl (g:=?_)|refine GoR.loadA' rfl rfl rfl rfl rfl (hv:=rfl) (g:=?_)|refine GoR.loadV' rfl rfl rfl rfl rfl (g:=?_)|refine GoR.loadVN' rfl rfl rfl rfl rfl (g:=?_))|(refine GoR.kk 2 rfl ?_;first|refine GoR.store' rfl rfl rfl rfl rfl (hl:=rfl) (h1:=rfl) (h3:=rfl) (g:=?_))|(refine GoR.kk 3 rfl ?_;first|refine GoR.fieldAddr rfl rfl rfl rfl rfl ?_|refine GoR.indexN' rfl rfl rfl rfl rfl rfl (g:=?_)|refine GoR.indexNs' rfl rfl rfl rfl rfl rfl (g:=?_)|refine GoR.indexV' rfl rfl rfl rfl rfl rfl (g:=?_)|refine GoR.indexA' rfl rfl rfl rfl rfl rfl (g:=?_)|refine GoR.fieldV' rfl rfl rfl rfl rfl (g:=?_))|(refine GoR.kk 4 rfl ?_;first|refine GoR.eq rfl rfl rfl rfl rfl rfl ?_|refine GoR.ne rfl rfl rfl rfl rfl rfl ?_|refine GoR.lt rfl rfl rfl rfl rfl rfl ?_|refine GoR.le rfl rfl rfl rfl rfl rfl ?_|refine GoR.gt rfl rfl rfl rfl rfl rfl ?_|refine GoR.ge rfl rfl rfl rfl rfl rfl ?_|refine GoR.addN' rfl rfl rfl rfl rfl rfl (g:=?_)|refine GoR.subN' rfl rfl rfl rfl rfl rfl (g:=?_)|refine GoR.add' rfl rfl rfl rfl rfl rfl (g:=?_)|refine GoR.sub' rfl rfl rfl rfl rfl rfl (g:=?_)|refine GoR.addM' rfl rfl rfl rfl rfl rfl (g:=?_)|refine GoR.subM' rfl rfl rfl rfl rfl rfl (g:=?_)|refine GoR.mulM' rfl rfl rfl rfl rfl rfl (g:=?_)|refine GoR.shrN rfl rfl rfl rfl rfl rfl rfl ?_|refine GoR.structEq rfl rfl rfl rfl rfl rfl (by rfl) (by rfl) ?_|refine GoR.structNe rfl rfl rfl rfl rfl rfl (by rfl) (by rfl) ?_|refine GoR.strEq rfl rfl rfl rfl rfl rfl ?_|refine GoR.strNe rfl rfl rfl rfl rfl rfl ?_|refine GoR.remN' rfl rfl rfl rfl rfl rfl (g:=?_)|refine GoR.quoN' rfl rfl rfl rfl rfl rfl (g:=?_)|refine GoR.shlN' rfl rfl rfl rfl rfl rfl rfl (g:=?_)|refine GoR.orN' rfl rfl rfl rfl rfl rfl (g:=?_))|(refine GoR.kk 5 rfl ?_;first|refine GoR.len rfl rfl rfl rfl rfl ?_|refine GoR.lenStr rfl rfl rfl rfl rfl ?_|refine GoR.capB rfl rfl rfl rfl rfl ?_)|(refine GoR.kk 7 rfl ?_;first|refine GoR.pickE' rfl rfl rfl rfl rfl (hx:=rfl) (hy:=rfl) (g:=?_)|refine GoR.pickN' rfl rfl rfl rfl rfl (hx:=rfl) (hy:=rfl) (g:=?_)|refine GoR.pickB rfl rfl rfl rfl rfl rfl rfl ?_)|(refine GoR.kk 8 rfl ?_;first|refine GoR.boxA rfl rfl rfl rfl rfl ?_|refine GoR.boxS rfl rfl rfl rfl rfl rfl ?_|refine GoR.alloc rfl rfl rfl rfl ?_)|(refine GoR.kk 9 rfl ?_;first|refine GoR.strV' rfl rfl rfl rfl rfl (g:=?_)|refine GoR.conv_u8 rfl rfl rfl rfl rfl ?_|refine GoR.convW' rfl rfl rfl rfl rfl (g:=?_)|refine GoR.conv_u16 rfl rfl rfl rfl rfl ?_|refine GoR.conv_u32 rfl rfl rfl rfl rfl ?_)|(refine GoR.kk 10 rfl ?_;first|refine GoR.build' rfl rfl rfl rfl rfl rfl (g:=?_))|(refine GoR.kk 11 rfl ?_;first|refine GoR.extract rfl rfl rfl rfl rfl rfl ?_|refine GoR.not rfl rfl rfl rfl rfl ?_|refine GoR.nilCheck rfl rfl rfl rfl rfl ?_|refine GoR.nilCheckF rfl rfl rfl rfl rfl ?_|refine GoR.makeFunc rfl rfl rfl rfl rfl rfl ?_)|(refine Go.kk 0 rfl ?_;refine Go.seq ?_)|(refine Go.kk 1 rfl ?_;refine Go.region (by kernel_rfl) rfl ?_)|(refine Go.kk 2 rfl ?_;refine Go.drawnQ rfl (by kernel_rfl) rfl ?_)|(refine Go.kk 3 rfl ?_;first|refine Go.cond_t' rfl (g:=?_)|refine Go.cond_f' rfl (g:=?_))|(refine Go.kk 4 rfl ?_;refine Go.block ?_)|(refine Go.kk 5 rfl ?_;first|refine Go.skip ?_|refine Go.ret ?_|refine Go.exit ?_|refine Go.scope ?_)|refine Go.leave_normal ?_|refine Go.leave_same ?_|refine Go.leave_ret ?_|refine Go.ret_code ?_|refine Go.exit_code ?_|refine Go.leave_other rfl ?_|refine Go.sc_normal ?_|refine Go.sc_ret ?_|refine Go.sc_exit ?_|refine Go.exit_back ?_|refine Go.ret_back ?_))
  refine GoR.name ?_
  intro h3 e3
  have G0 : h3.get h.n = some (.cells c.cs 57) := by
    subst e3
    exact AHeap.get_push_same h _
  have n3 : h3.n = h.n + 1 := by subst e3; rfl
  have S3 : Same h h3 := by subst e3; exact (Same.refl h).push _
  clear e3
  (refine Go.run (g:=?_))
  refine GoR.call rfl rfl rfl rfl rfl rfl rfl (((hcl h3).args (by first | rfl | (simp; fail_if_success focus skip) | (simp; omega) | (congr 2; omega))).mono ?_)
  rintro _ h4 rfl s4
  (have nn := (s4).1; try simp only [AHeap.n_push, AHeap.n_put] at nn)
  have G4 := s4.get G0
  unfold Ck.cs at G0 G4
  (refine Go.run (g:=?_))
  refine GoR.call rfl rfl rfl rfl rfl rfl rfl (((hsb h4).args (by first | rfl | (simp; fail_if_success focus skip) | (simp; omega) | (congr 2; omega))).mono ?_)
  rintro _ h5 rfl s5
  (have nn := (s5).1; try simp only [AHeap.n_push, AHeap.n_put] at nn)
  have G5 := s5.get G4
  clear hcl hsb
  by_cases cs : SameB c d
  case neg =>
    simp only [decide_eq_false cs, show may c gs = false from by simp [may, MayF, hd, cs]]
    (refine Go.run (g:=?_))
    (first|refine Go.finT (by first|exact .inr rfl|exact .inl rfl) rfl ?_|refine Go.fin1 (by first|exact .inr rfl|exact .inl rfl) rfl (hq:=?_))
    rfl
  simp only [decide_eq_true cs]
  by_cases c1 : c.A.n ≤ 3
  case neg =>
    rw [show may c gs = false from by simp [may, MayF, hd, c1]]
    (refine Go.run (g:=?_))
    (first|refine Go.finT (by first|exact .inr rfl|exact .inl rfl) rfl ?_|refine Go.fin1 (by first|exact .inr rfl|exact .inl rfl) rfl (hq:=?_))
    rfl
  by_cases c2 : c.G.n ≤ 64
  case neg =>
    rw [show may c gs = false from by simp [may, MayF, hd, c2]]
    (refine Go.run (g:=?_))
    (first|refine Go.finT (by first|exact .inr rfl|exact .inl rfl) rfl ?_|refine Go.fin1 (by first|exact .inr rfl|exact .inl rfl) rfl (hq:=?_))
    rfl
  by_cases c3 : c.U.n ≤ 16
  case neg =>
    rw [show may c gs = false from by simp [may, MayF, hd, c3]]
    (refine Go.run (g:=?_))
    (first|refine Go.finT (by first|exact .inr rfl|exact .inl rfl) rfl ?_|refine Go.fin1 (by first|exact .inr rfl|exact .inl rfl) rfl (hq:=?_))
    rfl
  by_cases c4 : c.k = 0 ∧ c.D.n = 0
  case pos =>
    obtain ⟨c4, c5⟩ := c4
    rw [show may c gs = false from by simp [may, MayF, hd, c4, c5]]
    (refine Go.run (g:=?_))
    (first|refine Go.finT (by first|exact .inr rfl|exact .inl rfl) rfl ?_|refine Go.fin1 (by first|exact .inr rfl|exact .inl rfl) rfl (hq:=?_))
    rfl
  by_cases c5 : c.k = 2 ∧ c.D.n = 0
  case pos =>
    obtain ⟨c5, c6⟩ := c5
    rw [show may c gs = false from by simp [may, MayF, hd, c5, c6]]
    (refine Go.run (g:=?_))
    (first|refine Go.finT (by first|exact .inr rfl|exact .inl rfl) rfl ?_|refine Go.fin1 (by first|exact .inr rfl|exact .inl rfl) rfl (hq:=?_))
    rfl
  have c6 : ¬ ((c.k = 0 ∨ c.k = 2) ∧ c.D.n = 0) := by omega
  rw [show may c gs = gapsB gs 0 from by simp [may, MayF, hd, cs, c1, c2, c3, c6]]
  have ways : (c.k = 0 ∧ c.D.n ≠ 0) ∨ (c.k = 2 ∧ c.k ≠ 0 ∧ c.D.n ≠ 0) ∨ (c.k ≠ 0 ∧ c.k ≠ 2) := by omega
  clear cs c4 c5 c6
  rcases ways with ⟨w1, w2⟩ | ⟨w1, w2, w3⟩ | ⟨w1, w2⟩
  all_goals
    (refine Go.run (g:=?_))
    have S5 : Same h h5 := (S3.trans s4).trans s5
    clear S3 s4 s5 G0 G4
    refine Go.loop (α := Nat × Nat × AHeap) (fun x => [(46, .int .i64 x.1), (45, .int .i64 c.G.n), (44, .slice c.G.a c.G.n c.G.cap), (3, .int .u32 x.2.1)]) (fun _ => []) (fun x => x.2.2)
      (fun x => x.1 ≤ c.G.n ∧ x.2.1 < 65536 ∧ gapsB (gs.drop x.1) x.2.1 = gapsB gs 0 ∧ Same h x.2.2) (fun x => c.G.n - x.1) ((0, 0, h5)) ?_ ?_ rfl rfl ?_
    · exact ⟨Nat.zero_le _, by show 0 < 65536; decide, rfl, S5⟩
    · exact ⟨rfl, rfl, rfl, rfl, trivial⟩
    clear G5
    rintro ⟨i, p, h6⟩ ⟨hi, hp, hB, s6⟩
    simp only at hi hp hB s6 ⊢
    have hz6 := hz.same s6
    have m6 := s6.1
    rcases Nat.lt_or_ge i c.G.n with i0 | i0
    · have i1 : i < gs.length := by omega
      have c0 := gcs_get i1
      have hbe : i * 2 + 2 ≤ (gcs gs).length := by rw [gcs_len]; omega
      have hgi := hg _ (List.getElem_mem i1)
      have hd : gapsB (gs.drop i) p = (decide (gs[i].1 ≤ gs[i].2) && decide (p + 2 ≤ gs[i].1) && gapsB (gs.drop (i + 1)) gs[i].2) := by rw [List.drop_eq_getElem_cons i1]; rfl
      generalize gs[i].1 = gs1 at *
      generalize gs[i].2 = gs2 at *
      by_cases d1 : gs1 ≤ gs2
      case neg =>
        rw [decide_eq_false d1, Bool.false_and, Bool.false_and] at hd
        (refine Go.run (g:=?_))
        (first|refine Go.finT (by first|exact .inr rfl|exact .inl rfl) rfl ?_|refine Go.fin1 (by first|exact .inr rfl|exact .inl rfl) rfl (hq:=?_))
        rw [← hB, hd]; rfl
      by_cases d2 : p + 2 ≤ gs1
      case neg =>
        rw [decide_eq_false d2, Bool.and_false, Bool.false_and] at hd
        (refine Go.run (g:=?_))
        (first|refine Go.finT (by first|exact .inr rfl|exact .inl rfl) rfl ?_|refine Go.fin1 (by first|exact .inr rfl|exact .inl rfl) rfl (hq:=?_))
        rw [← hB, hd]; rfl
      rw [decide_eq_true d1, decide_eq_true d2, Bool.true_and, Bool.true_and] at hd
      (refine Go.run (g:=?_))
      exact Go.again (i + 1, gs2, _) ⟨by simp only; omega, hgi.2, hd.symm.trans hB, ((s6.push _).put (by omega) _)⟩ (by simp only; omega) ⟨rfl, rfl, rfl, rfl, trivial⟩ rfl rfl
    have hie : i = c.G.n := by omega
    subst hie
    rw [← hl, List.drop_length] at hB
    (refine Go.run (g:=?_))
    (first|refine Go.finT (by first|exact .inr rfl|exact .inl rfl) rfl ?_|refine Go.fin1 (by first|exact .inr rfl|exact .inl rfl) rfl (hq:=?_))
    rw [← hB]; rfl
end Go.Proofs.Ytmelgnpogdilgaa
namespace Go.Proofs.Ytmelgnpogdilgaa
set_option maxRecDepth 100000
attribute [local irreducible] Go GoR GoL
def hasN (k : Nat) : Nat := if k = 0 then 13 else if k = 1 then 19 else if k = 2 then 23 else if k = 3 then 35 else if k = 6 ∨ k = 9 then 64 else if k = 7 then 1 else if k = 8 ∨ k = 11 ∨ k = 14 then 0 else 4
def flN (k : Nat) : Nat := if k = 0 then 7 else if k = 6 ∨ k = 14 then 1 else if kn k then 0 else 255
theorem and7 (x : Nat) : x &&& 7 = x % 8 := Nat.and_two_pow_sub_one_eq_mod x 3
theorem and1 (x : Nat) : x &&& 1 = x % 2 := Nat.and_one_is_mod x
set_option maxHeartbeats 4000000 in
theorem rmay_eq (c : Ck) (hf : c.f < 256) : (((((((decide ((c.f : Int) ≤ (flN c.k : Int)) && (decide (hasN c.k % 2 = 1) || (decide ((c.tsn : Int) = 0)))) && (decide (hasN c.k / 2 % 2 = 1) || (decide ((c.rwnd : Int) = 0)))) && (decide (hasN c.k / 4 % 2 = 1) || (decide ((c.D.n : Int) = 0)))) && (decide (hasN c.k / 8 % 2 = 1) || (decide ((c.sid : Int) = 0) && (decide ((c.ssn : Int) = 0) && (decide ((c.ppid : Int) = 0)))))) && (decide (hasN c.k / 16 % 2 = 1) || (decide ((c.tag : Int) = 0) && (decide ((c.out : Int) = 0) && (decide ((c.inn : Int) = 0) && (decide ((c.A.n : Int) = 0))))))) && (decide (hasN c.k / 32 % 2 = 1) || (decide ((c.G.n : Int) = 0) && (decide ((c.U.n : Int) = 0))))) && (decide (hasN c.k / 64 % 2 = 1) || (decide ((c.C.n : Int) = 0)))) = decide (SameB c (cl c)) := by
  rw [Bool.eq_iff_iff]
  simp only [Bool.and_eq_true, Bool.or_eq_true, decide_eq_true_eq]
  rcases (show c.k = 0 ∨ c.k = 1 ∨ c.k = 2 ∨ c.k = 3 ∨ c.k = 4 ∨ c.k = 5 ∨ c.k = 10 ∨ c.k = 6 ∨ c.k = 9 ∨ c.k = 7 ∨ c.k = 8 ∨ c.k = 11 ∨ c.k = 14 ∨ (11 < c.k ∧ c.k ≠ 14) by omega) with e | e | e | e | e | e | e | e | e | e | e | e | e | ⟨e1, e2⟩
  iterate 13
    · simp only [SameB, cl, e, hasN, flN, Ck.none, Sl.nil, and7, and1, kn]
      simp
      omega
  · rw [cl_else e1 e2]
    have e3 : ¬ c.k ≤ 11 := by omega
    simp only [SameB, Ck.none, Sl.nil, hasN, flN, kn]
    simp [e3, e2, show c.k ≠ 0 by omega, show c.k ≠ 1 by omega, show c.k ≠ 2 by omega, show c.k ≠ 3 by omega, show c.k ≠ 6 by omega, show c.k ≠ 9 by omega, show c.k ≠ 7 by omega, show c.k ≠ 8 by omega, show c.k ≠ 11 by omega]
    omega
end Go.Proofs.Ytmelgnpogdilgaa
namespace Go.Proofs.Ytmelgnpogdilgaa
set_option maxRecDepth 100000
attribute [local irreducible] Go GoR GoL
def beB (n x : Nat) : List UInt8 := (List.range n).map fun j => UInt8.ofNat (x / 256 ^ (n - 1 - j))
theorem beB_length (n x : Nat) : (beB n x).length = n := by simp [beB]
def OwnS (h h' : AHeap) (v : Value) (l : List UInt8) : Prop := ∃ b cap, v = .slice b l.length cap ∧ Sv h' 5 1 b l.length cap (l.map bv) ∧ Own h.n b
theorem beB2 (x : Nat) : beB 2 x = [UInt8.ofNat (x / 256), UInt8.ofNat x] := by simp [beB, List.range_succ]
def OwnE (h h' : AHeap) (v : Value) (l : List UInt8) : Prop := ∃ b cap, v = .tuple #[.slice b l.length cap, .int .i64 0] ∧ Sv h' 5 1 b l.length cap (l.map bv) ∧ Own h.n b
end Go.Proofs.Ytmelgnpogdilgaa
namespace Go.Proofs.Ytmelgnpogdilgaa
set_option maxRecDepth 100000
attribute [local irreducible] Go GoR GoL
theorem wbe4 (x : Nat) : beB 4 x = [UInt8.ofNat (x / 16777216), UInt8.ofNat (x / 65536), UInt8.ofNat (x / 256), UInt8.ofNat x] := by simp [beB, List.range_succ]
theorem wput_err3 (chunk : Bool) (kind flags : Nat) (a : Option Addr) (len cap : Nat) (hl : len ≤ 140737488355328) (h1 : chunk = true → kind ≤ 255) (h2 : chunk = false → flags = 0) (hk : 65531 < len) (h : AHeap) : CallS Try.prog [] 15 [.bool chunk, tlvV kind flags a len cap] h fun v h' => v = .tuple #[.slice none 0 0, .int .i64 3] := by
  cases chunk
  · have h2 := h2 rfl
    (refine CallS.of2 Try.func15 rfl Try.ntmps15 Try.results15 rfl ?_)
    (refine Go.run (g:=?_))
    (first|refine Go.finT (by first|exact .inr rfl|exact .inl rfl) rfl ?_|refine Go.fin1 (by first|exact .inr rfl|exact .inl rfl) rfl (hq:=?_))
    rfl
  · have h1 := h1 rfl
    (refine CallS.of2 Try.func15 rfl Try.ntmps15 Try.results15 rfl ?_)
    (refine Go.run (g:=?_))
    (first|refine Go.finT (by first|exact .inr rfl|exact .inl rfl) rfl ?_|refine Go.fin1 (by first|exact .inr rfl|exact .inl rfl) rfl (hq:=?_))
    rfl
def w32s (l : List Nat) : List Value := l.map fun x : Nat => .int .u32 (x : Int)
def w16s (l : List Nat) : List Value := l.map fun x : Nat => .int .u16 (x : Int)
def be4s (l : List Nat) : List UInt8 := (l.map (beB 4)).flatten
def be2s (l : List Nat) : List UInt8 := (l.map (beB 2)).flatten
theorem be4s_len (l : List Nat) : (be4s l).length = l.length * 4 := by
  induction l with
  | nil => rfl
  | cons x l ih => simp only [be4s, List.map_cons, List.flatten_cons, List.length_append, beB_length, List.length_cons] at ih ⊢; omega
theorem be2s_len (l : List Nat) : (be2s l).length = l.length * 2 := by
  induction l with
  | nil => rfl
  | cons x l ih => simp only [be2s, List.map_cons, List.flatten_cons, List.length_append, beB_length, List.length_cons] at ih ⊢; omega
theorem be4s_take {l : List Nat} {i : Nat} (hi : i < l.length) : be4s (l.take (i + 1)) = be4s (l.take i) ++ beB 4 l[i] := by
  rw [← List.take_append_getElem hi]; unfold be4s; rw [List.map_append, List.flatten_append]; simp
theorem be2s_take {l : List Nat} {i : Nat} (hi : i < l.length) : be2s (l.take (i + 1)) = be2s (l.take i) ++ beB 2 l[i] := by
  rw [← List.take_append_getElem hi]; unfold be2s; rw [List.map_append, List.flatten_append]; simp
theorem w32s_get {l : List Nat} {i : Nat} (hi : i < l.length) : (w32s l)[i]? = some (.int .u32 l[i]) := by simp [w32s, hi]
theorem w16s_get {l : List Nat} {i : Nat} (hi : i < l.length) : (w16s l)[i]? = some (.int .u16 l[i]) := by simp [w16s, hi]
theorem w32s_len (l : List Nat) : (w32s l).length = l.length := by simp [w32s]
theorem w16s_len (l : List Nat) : (w16s l).length = l.length := by simp [w16s]
structure WS (h0 h : AHeap) (zs : List UInt8) (e : Nat) (b : Option Addr) (cap : Nat) : Prop where
  same : Same h0 h
  n : h0.n + 1 ≤ h.n
  w : h.get (h0.n) = some (.cells [.slice b zs.length cap, .int .i64 e] 87)
  sv : Sv h 5 1 b zs.length cap (zs.map bv)
  own : Own (h0.n + 1) b
theorem WS.append {h0 h1 h8 h9 : AHeap} {zs new : List UInt8} {e len : Nat} {b1 b9 : Option Addr} {c1 c9 : Nat} (w : WS h0 h1 zs e b1 c1) (s8 : Same h1 h8) (hs9 : Sv h9 5 1 b9 len c9 (zs.map bv ++ new.map bv)) (k9 : Keeps (blk b1) h8 h9) (o9 : ∀ i ∈ blk b9, i ∈ blk b1 ∨ h8.n ≤ i) (hlen : len = zs.length + new.length) :
    WS h0 (h9.put (h0.n) (some (.cells [.slice b9 len c9, .int .i64 e] 87))) (zs ++ new) e b9 c9 := by
  subst hlen
  have hn := w.n
  have m8 := s8.1
  have m9 := k9.1
  have o : Own (h0.n + 1) b9 := w.own.app (by omega) o9
  have g9 := k9.get (s8.get w.w) (fun hi => by have := w.own _ hi; omega)
  refine ⟨(((w.same.trans s8).ownO k9 w.own (by omega)).put (by omega) _), by simp; omega, ?_, ?_, o⟩
  · rw [List.length_append]
    exact get_put_self g9
  · rw [List.length_append, List.map_append]
    exact hs9.put (fun hm => by have := o _ hm; omega) _
theorem WS.keeps {h h0 h1 h8 h9 : AHeap} {zs : List UInt8} {e : Nat} {b b1 : Option Addr} {c1 : Nat} {o : AObj} (hn : h0.n + 1 ≤ h.n) (w : WS h0 h1 zs e b1 c1) (k1 : Keeps ((h0.n) :: blk b) h h1) (o1 : ∀ i ∈ blk b1, i ∈ blk b ∨ h.n ≤ i) (s8 : Same h1 h8) (k9 : Keeps (blk b1) h8 h9) : Keeps ((h0.n) :: blk b) h (h9.put (h0.n) (some o)) := by
  have m1 := k1.1
  have m8 := s8.1
  have m9 := k9.1
  refine ⟨by simp; omega, fun i hi hm => ?_⟩
  simp only [List.mem_cons, not_or] at hm
  rw [AHeap.get_put_ne _ _ (fun x => hm.1 x.symm), k9.2 i (by omega) (fun x => (o1 i x).elim hm.2 (fun y => by omega)), s8.2 i (by omega)]
  exact k1.2 i hi (by simp [hm])
theorem WS.setE {h0 h h1 : AHeap} {zs : List UInt8} {e e' : Nat} {b : Option Addr} {cap : Nat} (w : WS h0 h zs e b cap) (s1 : Same h h1) : WS h0 (h1.put (h0.n) (some (.cells [.slice b zs.length cap, .int .i64 e'] 87))) zs e' b cap := by
  have hn := w.n
  have m1 := s1.1
  refine ⟨(w.same.trans s1).put (by omega) _, by simp; omega, ?_, ?_, w.own⟩
  · exact get_put_self (s1.get w.w)
  · exact (w.sv.same s1).put (fun hm => by have := w.own _ hm; omega) _
theorem WS.to {h0 h h1 : AHeap} {zs : List UInt8} {e : Nat} {b : Option Addr} {cap : Nat} (w : WS h0 h zs e b cap) (s1 : Same h h1) : WS h0 h1 zs e b cap :=
  ⟨w.same.trans s1, Nat.le_trans w.n s1.1, s1.get w.w, w.sv.same s1, w.own⟩
theorem WS.blks {h h1 h8 : AHeap} {b b1 b9 : Option Addr} (m1 : h.n ≤ h1.n) (s8 : Same h1 h8) (o1 : ∀ i ∈ blk b1, i ∈ blk b ∨ h.n ≤ i) (o9 : ∀ i ∈ blk b9, i ∈ blk b1 ∨ h8.n ≤ i) : ∀ i ∈ blk b9, i ∈ blk b ∨ h.n ≤ i := fun i hi => (o9 i hi).elim (o1 i) fun y => .inr (by have := s8.1; omega)
set_option maxHeartbeats 4000000 in
theorem wu32_spec (h0 h : AHeap) (zs : List UInt8) (e : Nat) (b : Option Addr) (cap : Nat) (hw : WS h0 h zs e b cap) (ns : List Nat) (hns : ∀ x ∈ ns, x < 4294967296) (hb : zs.length + ns.length * 4 ≤ 1099511627776) (la : Option Addr) (lcap : Nat)
    (hl : Rv Try.prog h 1 la ns.length lcap (w32s ns)) (hd : ∀ i ∈ blk la, i ∉ (h0.n) :: blk b) :
    CallS Try.prog ((h0.n) :: blk b) 53 [.pointer (some ⟨h0.n, 0, none⟩), .slice la ns.length lcap] h fun _ h' => ∃ b' cap', WS h0 h' (zs ++ be4s ns) e b' cap' ∧ ∀ i ∈ blk b', i ∈ blk b ∨ h.n ≤ i := by
  have hn := hw.n
  (refine CallS.of2 Try.func53 rfl Try.ntmps53 Try.results53 rfl ?_)
  (refine Go.run (g:=?_))
  refine Go.loop (α := Nat × Option Addr × Nat × AHeap) (fun x => [(8, .int .i64 x.1), (7, .int .i64 ns.length), (6, .slice la ns.length lcap), (0, .pointer (some ⟨h0.n, 0, none⟩))]) (fun _ => []) (fun x => x.2.2.2)
    (fun x => x.1 ≤ ns.length ∧ WS h0 x.2.2.2 (zs ++ be4s (ns.take x.1)) e x.2.1 x.2.2.1 ∧ Keeps ((h0.n) :: blk b) h x.2.2.2 ∧ ∀ i ∈ blk x.2.1, i ∈ blk b ∨ h.n ≤ i) (fun x => ns.length - x.1) (0, b, cap, h) ?_ ?_ rfl rfl ?_
  · exact ⟨Nat.zero_le _, by simpa [be4s] using hw, (Same.refl h).keeps _, fun i hi => .inl hi⟩
  · exact ⟨rfl, rfl, rfl, rfl, trivial⟩
  rintro ⟨i, b1, c1, h1⟩ ⟨hi, w1, k1, o1⟩
  simp only at hi w1 k1 o1 ⊢
  have hn1 := w1.n
  rcases Nat.lt_or_ge i ns.length with i0 | i0
  · have c0 := w32s_get i0
    have hx := hns _ (List.getElem_mem i0)
    have hbe : i < (w32s ns).length := by rw [w32s_len]; exact i0
    have hl1 : Rv Try.prog h1 1 la ns.length lcap (w32s ns) := hl.keeps k1 hd
    have gw := w1.w
    have hzl : (zs ++ be4s (ns.take i)).length = zs.length + i * 4 := by rw [List.length_append, be4s_len, List.length_take]; omega
    have e1 := be4s_take i0
    have hsv := w1.sv
    generalize ns[i] = x at *
    rw [hzl] at gw hsv
    (refine Go.run (g:=?_))
    refine GoR.buildRo (c := (beB 4 x).map bv) rfl rfl rfl rfl rfl (by decide) ?_ (by rfl) ?_
    · rw [wbe4]
      simp only [List.map_cons, List.map_nil, bv_ofNat]
      rfl
    intro b8 h8 hb8 rb8 ob8 s8 n8
    have m8 := s8.1
    have ow : Own (h0.n + 1) b1 := w1.own
    refine GoR.appendV rfl rfl rfl rfl rfl rfl (hsv.same s8) hb8 (fun i hi => (o1 i hi).elim (fun x => .inl (List.mem_cons_of_mem _ x)) .inr) (by omega) (by omega) (by simp [bv, Value.oneCell']) ?_
    intro b9 c9 h9 hs9 k9 o9
    have m9 := k9.1
    have g9 := k9.get (s8.get gw) (fun hi => by have := ow _ hi; omega)
    have hWp : h0.n ∈ (h0.n) :: blk b ∨ h.n ≤ h0.n := .inl (List.mem_cons_self ..)
    (refine Go.run (g:=?_))
    have e2 : zs ++ be4s (ns.take (i + 1)) = (zs ++ be4s (ns.take i)) ++ beB 4 x := by rw [e1, List.append_assoc]
    refine Go.again (i + 1, b9, c9, _) ⟨by simp only; omega, ?_, WS.keeps hw.n w1 k1 o1 s8 k9, WS.blks k1.1 s8 o1 o9⟩ (by simp only; omega) ⟨rfl, rfl, rfl, rfl, trivial⟩ rfl rfl
    simp only
    rw [e2]
    exact w1.append s8 hs9 k9 o9 (by rw [hzl, beB_length])
  have hie : i = ns.length := by omega
  subst hie
  rw [List.take_length] at w1
  (refine Go.run (g:=?_))
  (first|refine Go.finT (by first|exact .inr rfl|exact .inl rfl) rfl ?_|refine Go.fin1 (by first|exact .inr rfl|exact .inl rfl) rfl (hq:=?_))
  exact ⟨_, _, w1, o1⟩
set_option maxHeartbeats 4000000 in
theorem wu16_spec (h0 h : AHeap) (zs : List UInt8) (e : Nat) (b : Option Addr) (cap : Nat) (hw : WS h0 h zs e b cap) (ns : List Nat) (hns : ∀ x ∈ ns, x < 65536) (hb : zs.length + ns.length * 2 ≤ 1099511627776) (la : Option Addr) (lcap : Nat)
    (hl : Rv Try.prog h 1 la ns.length lcap (w16s ns)) (hd : ∀ i ∈ blk la, i ∉ (h0.n) :: blk b) :
    CallS Try.prog ((h0.n) :: blk b) 54 [.pointer (some ⟨h0.n, 0, none⟩), .slice la ns.length lcap] h fun _ h' => ∃ b' cap', WS h0 h' (zs ++ be2s ns) e b' cap' ∧ ∀ i ∈ blk b', i ∈ blk b ∨ h.n ≤ i := by
  have hn := hw.n
  (refine CallS.of2 Try.func54 rfl Try.ntmps54 Try.results54 rfl ?_)
  (refine Go.run (g:=?_))
  refine Go.loop (α := Nat × Option Addr × Nat × AHeap) (fun x => [(8, .int .i64 x.1), (7, .int .i64 ns.length), (6, .slice la ns.length lcap), (0, .pointer (some ⟨h0.n, 0, none⟩))]) (fun _ => []) (fun x => x.2.2.2)
    (fun x => x.1 ≤ ns.length ∧ WS h0 x.2.2.2 (zs ++ be2s (ns.take x.1)) e x.2.1 x.2.2.1 ∧ Keeps ((h0.n) :: blk b) h x.2.2.2 ∧ ∀ i ∈ blk x.2.1, i ∈ blk b ∨ h.n ≤ i) (fun x => ns.length - x.1) (0, b, cap, h) ?_ ?_ rfl rfl ?_
  · exact ⟨Nat.zero_le _, by simpa [be2s] using hw, (Same.refl h).keeps _, fun i hi => .inl hi⟩
  · exact ⟨rfl, rfl, rfl, rfl, trivial⟩
  rintro ⟨i, b1, c1, h1⟩ ⟨hi, w1, k1, o1⟩
  simp only at hi w1 k1 o1 ⊢
  have hn1 := w1.n
  rcases Nat.lt_or_ge i ns.length with i0 | i0
  · have c0 := w16s_get i0
    have hx := hns _ (List.getElem_mem i0)
    have hbe : i < (w16s ns).length := by rw [w16s_len]; exact i0
    have hl1 : Rv Try.prog h1 1 la ns.length lcap (w16s ns) := hl.keeps k1 hd
    have gw := w1.w
    have hzl : (zs ++ be2s (ns.take i)).length = zs.length + i * 2 := by rw [List.length_append, be2s_len, List.length_take]; omega
    have e1 := be2s_take i0
    have hsv := w1.sv
    generalize ns[i] = x at *
    rw [hzl] at gw hsv
    (refine Go.run (g:=?_))
    refine GoR.buildRo (c := (beB 2 x).map bv) rfl rfl rfl rfl rfl (by decide) ?_ (by rfl) ?_
    · rw [beB2]
      simp only [List.map_cons, List.map_nil, bv_ofNat]
      rfl
    intro b8 h8 hb8 rb8 ob8 s8 n8
    have m8 := s8.1
    have ow : Own (h0.n + 1) b1 := w1.own
    refine GoR.appendV rfl rfl rfl rfl rfl rfl (hsv.same s8) hb8 (fun i hi => (o1 i hi).elim (fun x => .inl (List.mem_cons_of_mem _ x)) .inr) (by omega) (by omega) (by simp [bv, Value.oneCell']) ?_
    intro b9 c9 h9 hs9 k9 o9
    have m9 := k9.1
    have g9 := k9.get (s8.get gw) (fun hi => by have := ow _ hi; omega)
    have hWp : h0.n ∈ (h0.n) :: blk b ∨ h.n ≤ h0.n := .inl (List.mem_cons_self ..)
    (refine Go.run (g:=?_))
    have e2 : zs ++ be2s (ns.take (i + 1)) = (zs ++ be2s (ns.take i)) ++ beB 2 x := by rw [e1, List.append_assoc]
    refine Go.again (i + 1, b9, c9, _) ⟨by simp only; omega, ?_, WS.keeps hw.n w1 k1 o1 s8 k9, WS.blks k1.1 s8 o1 o9⟩ (by simp only; omega) ⟨rfl, rfl, rfl, rfl, trivial⟩ rfl rfl
    simp only
    rw [e2]
    exact w1.append s8 hs9 k9 o9 (by rw [hzl, beB_length])
  have hie : i = ns.length := by omega
  subst hie
  rw [List.take_length] at w1
  (refine Go.run (g:=?_))
  (first|refine Go.finT (by first|exact .inr rfl|exact .inl rfl) rfl ?_|refine Go.fin1 (by first|exact .inr rfl|exact .inl rfl) rfl (hq:=?_))
  exact ⟨_, _, w1, o1⟩
def pB (k : Nat) (z : List UInt8) : List UInt8 := if z.length ≤ 65531 then tlvB false k 0 z else []
theorem pB_le (k : Nat) (z : List UInt8) : (pB k z).length ≤ 65536 := by
  unfold pB
  split
  · rw [tlvB_length]; omega
  · simp
set_option maxHeartbeats 4000000 in
theorem wparam_spec (h0 h : AHeap) (zs : List UInt8) (e : Nat) (b : Option Addr) (cap : Nat) (hw : WS h0 h zs e b cap) (k : Nat) (hk : k < 65536) (z : List UInt8) (hz : z.length ≤ 140737488355328) (hb : zs.length ≤ 1000000000000) (la : Option Addr) (lcap : Nat)
    (hl : Rv Try.prog h 1 la z.length lcap (z.map bv)) :
    CallS Try.prog ((h0.n) :: blk b) 55 [.pointer (some ⟨h0.n, 0, none⟩), .int .u16 k, .slice la z.length lcap] h fun _ h' => ∃ b' cap', WS h0 h' (zs ++ pB k z) (if z.length ≤ 65531 then e else 3) b' cap' ∧ ∀ i ∈ blk b', i ∈ blk b ∨ h.n ≤ i := by
  have hn := hw.n
  have hsv := hw.sv
  have gw := hw.w
  have ow := hw.own
  have hWp : h0.n ∈ (h0.n) :: blk b ∨ h.n ≤ h0.n := .inl (List.mem_cons_self ..)
  rcases Nat.lt_or_ge 65531 z.length with g | g
  · rw [show pB k z = [] from by unfold pB; rw [if_neg (by omega)], if_neg (by omega)]
    (refine CallS.of3 Try.func55 rfl Try.ntmps55 Try.results55 rfl ?_)
    (refine Go.run (g:=?_))
    refine GoR.call rfl rfl rfl rfl rfl rfl rfl (((wput_err3 false k 0 la z.length lcap hz (by simp) (fun _ => rfl) g _).args (by first | rfl | (simp; fail_if_success focus skip) | (simp; omega) | (congr 2; omega))).mono ?_)
    rintro _ h1 rfl s1
    (have nn := (s1).1; try simp only [AHeap.n_push, AHeap.n_put] at nn)
    have gw1 := s1.get gw
    (refine Go.run (g:=?_))
    refine GoR.name ?_
    intro h2 e2
    have w2 : WS h0 h2 zs 3 b cap := by subst e2; exact hw.setE (e' := 3) s1
    have m2 : h2.n = h1.n := by subst e2; simp
    clear e2
    refine GoR.appendV rfl rfl rfl rfl rfl rfl w2.sv Rv.nil (fun i hi => .inl (List.mem_cons_of_mem _ hi)) (by omega) (by omega) (by simp) ?_
    intro b9 c9 h9 hs9 k9 o9
    have m9 := k9.1
    have gw2 := w2.w
    have g9 := k9.get gw2 (fun hi => by have := ow _ hi; omega)
    (refine Go.run (g:=?_))
    (first|refine Go.finT (by first|exact .inr rfl|exact .inl rfl) rfl ?_|refine Go.fin1 (by first|exact .inr rfl|exact .inl rfl) rfl (hq:=?_))
    exact ⟨_, _, w2.append (Same.refl _) hs9 k9 o9 rfl, WS.blks (h1 := h1) s1.1 (Same.refl _) (fun i hi => .inl hi) (fun i hi => (o9 i hi).imp id (by omega))⟩
  · rw [show pB k z = tlvB false k 0 z from by unfold pB; rw [if_pos g], if_pos g]
    (refine CallS.of3 Try.func55 rfl Try.ntmps55 Try.results55 rfl ?_)
    (refine Go.run (g:=?_))
    refine GoR.call rfl rfl rfl rfl rfl rfl rfl (((put_ok false k 0 la lcap (by simp) (fun _ => rfl) (by decide) z g _ hl).args (by first | rfl | (simp; fail_if_success focus skip) | (simp; omega) | (congr 2; omega))).mono ?_)
    rintro _ h1 ⟨b1, rfl, hb1, ob1⟩ s1
    (have nn := (s1).1; try simp only [AHeap.n_push, AHeap.n_put] at nn)
    have gw1 := s1.get gw
    (refine Go.run (g:=?_))
    refine GoR.appendV rfl rfl rfl rfl rfl rfl (hsv.same s1) (Sv.rv hb1) (fun i hi => .inl (List.mem_cons_of_mem _ hi)) (by have := tlvB_length false k 0 z; omega) (by have := tlvB_length false k 0 z; omega) (by simp [bv, Value.oneCell']) ?_
    intro b9 c9 h9 hs9 k9 o9
    have m9 := k9.1
    have g9 := k9.get gw1 (fun hi => by have := ow _ hi; omega)
    (refine Go.run (g:=?_))
    (first|refine Go.finT (by first|exact .inr rfl|exact .inl rfl) rfl ?_|refine Go.fin1 (by first|exact .inr rfl|exact .inl rfl) rfl (hq:=?_))
    exact ⟨_, _, hw.append s1 hs9 k9 o9 rfl, WS.blks (Nat.le_refl _) s1 (fun i hi => .inl hi) o9⟩
end Go.Proofs.Ytmelgnpogdilgaa
namespace Go.Proofs.Ytmelgnpogdilgaa
set_option maxRecDepth 100000
structure CV where
  k : Nat
  a : Option Addr
  cap : Nat
  z : List UInt8
def cvC (x : CV) : List Value := [.int .u16 x.k, .slice x.a x.z.length x.cap]
def ccs (l : List CV) : List Value := (l.map cvC).flatten
theorem ccs_len (l : List CV) : (ccs l).length = l.length * 2 := two_len (fun _ => rfl) l
theorem ccs_get {l : List CV} {i : Nat} (hi : i < l.length) : ((ccs l).drop (i * 2)).take 2 = [.int .u16 l[i].k, .slice l[i].a l[i].z.length l[i].cap] := two_get (f := cvC) (fun _ => rfl) hi
theorem ccs_0 {l : List CV} {i : Nat} (hi : i < l.length) : (ccs l)[i * 2]? = some (.int .u16 l[i].k) := two_at (f := cvC) (j := 0) (fun _ => rfl) hi (by decide)
theorem ccs_1 {l : List CV} {i : Nat} (hi : i < l.length) : (ccs l)[i * 2 + 1]? = some (.slice l[i].a l[i].z.length l[i].cap) := two_at (f := cvC) (j := 1) (fun _ => rfl) hi (by decide)
structure CD where
  data : List UInt8
  addrs : List Nat
  gaps : List (Nat × Nat)
  dups : List Nat
  causes : List CV
structure COk (h : AHeap) (c : Ck) (d : CD) : Prop where
  k : c.k < 256
  f : c.f < 256
  tag : c.tag < 4294967296
  rwnd : c.rwnd < 4294967296
  tsn : c.tsn < 4294967296
  out : c.out < 65536
  inn : c.inn < 65536
  sid : c.sid < 65536
  ssn : c.ssn < 65536
  ppid : c.ppid < 4294967296
  dl : d.data.length = c.D.n
  dv : Rv Try.prog h 1 c.D.a c.D.n c.D.cap (d.data.map bv)
  al : d.addrs.length = c.A.n
  av : Rv Try.prog h 1 c.A.a c.A.n c.A.cap (w32s d.addrs)
  ab : ∀ x ∈ d.addrs, x < 4294967296
  gl : d.gaps.length = c.G.n
  gv : Rv Try.prog h 2 c.G.a c.G.n c.G.cap (gcs d.gaps)
  gb : ∀ x ∈ d.gaps, x.1 < 65536 ∧ x.2 < 65536
  ul : d.dups.length = c.U.n
  uv : Rv Try.prog h 1 c.U.a c.U.n c.U.cap (w32s d.dups)
  ub : ∀ x ∈ d.dups, x < 4294967296
  cl : d.causes.length = c.C.n
  cv : Rv Try.prog h 2 c.C.a c.C.n c.C.cap (ccs d.causes)
  cb : ∀ x ∈ d.causes, x.k < 65536 ∧ x.z.length ≤ 140737488355328 ∧ Rv Try.prog h 1 x.a x.z.length x.cap (x.z.map bv)
theorem COk.same {h h' : AHeap} {c : Ck} {d : CD} (k : COk h c d) (s : Same h h') : COk h' c d :=
  { k with dv := k.dv.same s, av := k.av.same s, gv := k.gv.same s, uv := k.uv.same s, cv := k.cv.same s, cb := fun x hx => ⟨(k.cb x hx).1, (k.cb x hx).2.1, (k.cb x hx).2.2.same s⟩ }
def addrsB (l : List Nat) : List UInt8 := (l.map fun a => tlvB false 5 0 (beB 4 a)).flatten
def initB (c : Ck) (d : CD) : List UInt8 := beB 4 c.tag ++ beB 4 c.rwnd ++ beB 2 c.out ++ beB 2 c.inn ++ beB 4 c.tsn ++ addrsB d.addrs
def gapsBy (l : List (Nat × Nat)) : List UInt8 := (l.map fun g => beB 2 g.1 ++ beB 2 g.2).flatten
def causesB (l : List CV) : List UInt8 := (l.map fun x => pB x.k x.z).flatten
def allShort (l : List CV) : Bool := l.all fun x => decide (x.z.length ≤ 65531)
theorem allShort_snoc {l : List CV} {i : Nat} (hi : i < l.length) : allShort (l.take (i + 1)) = (allShort (l.take i) && decide (l[i].z.length ≤ 65531)) := by
  unfold allShort
  rw [← List.take_append_getElem hi, List.all_append]; simp
def cval (c : Ck) (d : CD) : Option (List UInt8) :=
  match c.k with
  | 0 => some (beB 4 c.tsn ++ beB 2 c.sid ++ beB 2 c.ssn ++ beB 4 c.ppid ++ d.data)
  | 1 => some (initB c d)
  | 2 => if d.data.length ≤ 65531 then some (initB c d ++ pB 7 d.data) else none
  | 3 => some (beB 4 c.tsn ++ beB 4 c.rwnd ++ beB 2 c.G.n ++ beB 2 c.U.n ++ gapsBy d.gaps ++ be4s d.dups)
  | 6 => if allShort d.causes = true then some (causesB d.causes) else none
  | 9 => if allShort d.causes = true then some (causesB d.causes) else none
  | 7 => some (beB 4 c.tsn)
  | _ => some d.data
def PutV (h h' : AHeap) (v : Value) (c : Ck) (x : Option (List UInt8)) : Prop :=
  match x with
  | none => v = .tuple #[.slice none 0 0, .int .i64 3]
  | some x => if x.length ≤ 65531 then OwnE h h' v (tlvB true c.k c.f x) else v = .tuple #[.slice none 0 0, .int .i64 3]
def PutR (h h' : AHeap) (v : Value) (c : Ck) (d : CD) : Prop :=
  if may c d.gaps = true then PutV h h' v c (cval c d) else v = .tuple #[.slice none 0 0, .int .i64 50]
theorem addrsB_len (l : List Nat) : (addrsB l).length = l.length * 8 := by
  induction l with
  | nil => rfl
  | cons x l ih => simp only [addrsB, List.map_cons, List.flatten_cons, List.length_append, tlvB_length, beB_length, List.length_cons] at ih ⊢; omega
theorem gapsBy_len (l : List (Nat × Nat)) : (gapsBy l).length = l.length * 4 := by
  induction l with
  | nil => rfl
  | cons x l ih => simp only [gapsBy, List.map_cons, List.flatten_cons, List.length_append, beB_length, List.length_cons] at ih ⊢; omega
theorem causesB_len (l : List CV) : (causesB l).length ≤ l.length * 65536 := by
  induction l with
  | nil => simp [causesB]
  | cons x l ih => have := pB_le x.k x.z; simp only [causesB, List.map_cons, List.flatten_cons, List.length_append, List.length_cons] at ih ⊢; omega
theorem flat_snoc {α β : Type} (f : α → List β) {l : List α} {i : Nat} (hi : i < l.length) : ((l.take (i + 1)).map f).flatten = ((l.take i).map f).flatten ++ f l[i] := by
  rw [← List.take_append_getElem hi, List.map_append, List.flatten_append]; simp
end Go.Proofs.Ytmelgnpogdilgaa
namespace Go.Proofs.Ytmelgnpogdilgaa
open Go.RowKit
theorem CallRun.const {P : Program} {W : Nat → Prop} {f : FuncId} {v : Value} {h' : AHeap} (hg : P.globals.size = 0) (hc : CallRun P W f #[] emptyH v h') (hv : flatB v = true) (h : AHeap) : CallRun P (fun _ => False) f #[] h v h := by
  refine ⟨.refl _ _, fun m w args' hm hf ha hh => ?_⟩
  obtain rfl : args' = #[] := Array.eq_empty_of_size_eq_zero ha.1.symm
  refine (hc.run (fun _ => none) w #[] (fun g hlt => by omega) (fun i _ _ => rfl) (ARel.empty _) (hrel_empty P Ev w)).mono ?_
  rintro e w' ⟨v', m', rfl, hF, hV, _⟩
  have keep : ∀ b, b < w.heap.size → w'.heap[b]? = w.heap[b]? := fun b hb => hF.keep b hb fun j k hj => absurd hj (Nat.not_lt_zero j)
  refine ⟨v', m, rfl, ⟨fun _ _ => rfl, fun i l a b _ => by omega, fun b hb _ => keep b hb, hF.size, hF.os, hF.tape, hF.output⟩, ?_, ?_⟩
  · rw [VRel.eq_of_flat hV hv]; exact VRel.flat m hv
  · exact { lt := fun i l e => Nat.lt_of_lt_of_le (hh.lt i l e) hF.size
            typ := hh.typ
            inj := hh.inj
            roS := hh.roS
            obj := fun i l o hd e g => by
              obtain ⟨o', a, b⟩ := hh.obj i l o hd e g
              exact ⟨o', by rw [keep l.b (hh.lt i l e)]; exact a, b⟩ }
end Go.Proofs.Ytmelgnpogdilgaa
namespace Go.Proofs.Ytmelgnpogdilgaa
set_option maxRecDepth 100000
attribute [local irreducible] Go GoR GoL
theorem byte_at {zs : List UInt8} {k : Nat} (hk : k < zs.length) : (zs.map bv)[k]? = some (.int .u8 (zs[k].toNat : Int)) := by simp [hk, bv]
end Go.Proofs.Ytmelgnpogdilgaa
namespace Go.Proofs.Ytmelgnpogdilgaa
def beNum (l : List UInt8) : Nat := l.foldl (fun n c => n * 256 + c.toNat) 0
theorem beNum_snoc (l : List UInt8) (c : UInt8) : beNum (l ++ [c]) = beNum l * 256 + c.toNat := by simp [beNum]
theorem beNum_lt (l : List UInt8) : beNum l < 256 ^ l.length := by
  have h : ∀ (r : List UInt8), beNum r.reverse < 256 ^ r.length := by
    intro r
    induction r with
    | nil => decide
    | cons c r ih =>
      rw [List.reverse_cons, beNum_snoc, List.length_cons, Nat.pow_succ]
      have := c.toNat_lt
      omega
  have := h l.reverse
  simpa using this
theorem or_byte (n c : Nat) (hc : c < 256) : n * 2 ^ 8 ||| c = n * 256 + c := or_of_lt (n := 8) hc
theorem beNum_lt_of {l : List UInt8} {k n : Nat} (h : l.length ≤ k) (hn : 256 ^ k = n) : beNum l < n := by
  subst hn
  exact Nat.lt_of_lt_of_le (beNum_lt l) (Nat.pow_le_pow_right (by decide) h)
end Go.Proofs.Ytmelgnpogdilgaa
namespace Go.Proofs.Ytmelgnpogdilgaa
theorem Rv.put {P : Program} {h : AHeap} {sz len cap b : Nat} {a : Option Addr} {cs : List Value} (k : Rv P h sz a len cap cs) (hb : b ∉ blk a) (o : Option AObj) : Rv P (h.put b o) sz a len cap cs := by
  cases k with
  | nil => exact .nil
  | mk hg ho hl hc => exact .mk (by rw [AHeap.get_put_ne _ _ (fun e => hb (by simp [blk, e]))]; exact hg) ho hl hc
theorem beB_succ (n x : Nat) : beB (n + 1) x = beB n (x / 256) ++ [UInt8.ofNat x] := by
  unfold beB
  rw [List.range_succ, List.map_append]
  congr 1
  · apply List.map_congr_left
    intro j hj
    simp only [List.mem_range] at hj
    congr 1
    rw [Nat.div_div_eq_div_mul]
    congr 1
    rw [Nat.mul_comm, ← Nat.pow_succ]
    congr 1
    omega
  · simp
theorem beB_beNum (l : List UInt8) : beB l.length (beNum l) = l := by
  have h : ∀ r : List UInt8, beB r.reverse.length (beNum r.reverse) = r.reverse := by
    intro r
    induction r with
    | nil => rfl
    | cons c r ih =>
      rw [List.reverse_cons, beNum_snoc, List.length_append]
      have hc := c.toNat_lt
      show beB (r.reverse.length + 1) _ = _
      rw [beB_succ]
      have e1 : (beNum r.reverse * 256 + c.toNat) / 256 = beNum r.reverse := by omega
      have e2 : UInt8.ofNat (beNum r.reverse * 256 + c.toNat) = c := by
        apply UInt8.toNat_inj.1
        simp only [UInt8.toNat_ofNat']
        omega
      rw [e1, e2, ih]
  have := h l.reverse
  simpa using this
theorem beB_beNum_n {n : Nat} {l : List UInt8} (h : l.length = n) : beB n (beNum l) = l := by subst h; exact beB_beNum l
theorem beNum_beB (n x : Nat) (h : x < 256 ^ n) : beNum (beB n x) = x := by
  induction n generalizing x with
  | zero => simp at h; subst h; rfl
  | succ n ih =>
    rw [beB_succ, beNum_snoc, ih (x / 256) (by rw [Nat.pow_succ] at h; omega)]
    simp only [UInt8.toNat_ofNat']
    omega
end Go.Proofs.Ytmelgnpogdilgaa
namespace Go.Proofs.Ytmelgnpogdilgaa
abbrev Thing := Nat × Nat × List UInt8
def up4 (n : Nat) : Nat := (n + 3) / 4 * 4
def tN (z : List UInt8) : Nat := beNum ((z.drop 2).take 2)
def Whole (z : List UInt8) : Prop := 4 ≤ z.length ∧ 4 ≤ tN z ∧ up4 (tN z) ≤ z.length ∧ ((z.drop (tN z)).take (up4 (tN z) - tN z)).all (· == 0) = true
instance (z : List UInt8) : Decidable (Whole z) := by unfold Whole; infer_instance
def thing (chunk : Bool) (z : List UInt8) : Thing := (if chunk then beNum (z.take 1) else beNum (z.take 2), if chunk then beNum ((z.drop 1).take 1) else 0, (z.drop 4).take (tN z - 4))
def parse (chunk : Bool) (z : List UInt8) : List Thing × Bool :=
  if h0 : z = [] then ([], true) else if h : Whole z then (thing chunk z :: (parse chunk (z.drop (up4 (tN z)))).1, (parse chunk (z.drop (up4 (tN z)))).2) else ([], false)
termination_by z.length
decreasing_by all_goals (have := h.2.1; have := h.1; simp [up4]; omega)
theorem parse_nil (chunk : Bool) : parse chunk [] = ([], true) := by rw [parse]; simp
theorem parse_some {chunk : Bool} {z : List UInt8} (h : Whole z) : parse chunk z = (thing chunk z :: (parse chunk (z.drop (up4 (tN z)))).1, (parse chunk (z.drop (up4 (tN z)))).2) := by
  have h0 : z ≠ [] := by intro e; subst e; have := h.1; simp at this
  rw [parse]; simp [h0, h]
theorem parse_none {chunk : Bool} {z : List UInt8} (h0 : z ≠ []) (h : ¬ Whole z) : parse chunk z = ([], false) := by
  rw [parse]; simp [h0, h]
theorem thing_len {chunk : Bool} {z : List UInt8} (h : Whole z) : (thing chunk z).2.2.length = tN z - 4 := by
  have := h.2.2.1
  have : tN z ≤ up4 (tN z) := by unfold up4; omega
  simp [thing]; omega
theorem up4_le (n : Nat) : n ≤ up4 n ∧ up4 n < n + 4 := by unfold up4; omega
theorem thing_bounds {chunk : Bool} {z : List UInt8} : (thing chunk z).1 < 65536 ∧ (thing chunk z).2.1 < 256 := by
  unfold thing
  cases chunk
  · exact ⟨beNum_lt_of (k := 2) (by simp; omega) rfl, by simp⟩
  · exact ⟨Nat.lt_of_lt_of_le (beNum_lt_of (k := 1) (by simp; omega) rfl : _ < 256) (by decide), beNum_lt_of (k := 1) (by simp; omega) rfl⟩
theorem parse_len {chunk : Bool} : ∀ (z : List UInt8), 4 * (parse chunk z).1.length ≤ z.length := by
  intro z
  induction hn : z.length using Nat.strongRecOn generalizing z with
  | _ n ih =>
    by_cases h0 : z = []
    · subst h0; rw [parse_nil]; simp
    · by_cases h : Whole z
      · rw [parse_some h]
        have h1 := h.1
        have h2 := h.2.1
        have h3 := h.2.2.1
        have := up4_le (tN z)
        have ih' := ih (z.drop (up4 (tN z))).length (by simp; omega) (z.drop (up4 (tN z))) rfl
        simp at ih' ⊢
        omega
      · rw [parse_none h0 h]; simp
theorem beNum_one (x : UInt8) : beNum [x] = x.toNat := by simp [beNum]
theorem take_one {z : List UInt8} {i : Nat} (h : i < z.length) : (z.drop i).take 1 = [z[i]] := by
  rw [List.drop_eq_getElem_cons h]; rfl
theorem take_two {z : List UInt8} {i : Nat} (h : i + 1 < z.length) : (z.drop i).take 2 = [z[i], z[i + 1]] := by
  rw [List.drop_eq_getElem_cons (show i < z.length by omega), List.drop_eq_getElem_cons h]; rfl
theorem beNum_two (x y : UInt8) : beNum [x, y] = x.toNat * 256 + y.toNat := by simp [beNum]
theorem up4_def (n : Nat) : (n + 3) / 4 * 4 = up4 n := rfl
end Go.Proofs.Ytmelgnpogdilgaa
namespace Go.Proofs.Ytmelgnpogdilgaa
def num (zs : List UInt8) (n : Nat) : Nat := if n ≤ zs.length then beNum (zs.take n) else 0
def left (zs : List UInt8) (n : Nat) : List UInt8 := if n ≤ zs.length then zs.drop n else zs
def short (zs : List UInt8) (n : Nat) : Bool := decide (zs.length < n)
theorem num_le {zs : List UInt8} {n : Nat} (h : n ≤ zs.length) : num zs n = beNum (zs.take n) := if_pos h
theorem left_le {zs : List UInt8} {n : Nat} (h : n ≤ zs.length) : left zs n = zs.drop n := if_pos h
theorem short_le {zs : List UInt8} {n : Nat} (h : n ≤ zs.length) : short zs n = false := decide_eq_false (by omega)
theorem num_lt4 (zs : List UInt8) : num zs 4 < 4294967296 := by
  unfold num; split
  · exact beNum_lt_of (k := 4) (by simp; omega) rfl
  · decide
theorem num_lt2 (zs : List UInt8) : num zs 2 < 65536 := by
  unfold num; split
  · exact beNum_lt_of (k := 2) (by simp; omega) rfl
  · decide
theorem left_len (zs : List UInt8) (n : Nat) : (left zs n).length ≤ zs.length := by unfold left; split <;> simp <;> omega
structure PC where
  k : Nat
  f : Nat
  tag : Nat
  rwnd : Nat
  tsn : Nat
  out : Nat
  inn : Nat
  sid : Nat
  ssn : Nat
  ppid : Nat
  data : List UInt8
  addrs : List Nat
  gaps : List (Nat × Nat)
  dups : List Nat
  causes : List (Nat × List UInt8)
def pcOf (c : Ck) (d : CD) : PC := ⟨c.k, c.f, c.tag, c.rwnd, c.tsn, c.out, c.inn, c.sid, c.ssn, c.ppid, d.data, d.addrs, d.gaps, d.dups, d.causes.map fun x => (x.k, x.z)⟩
def ckOf (p : PC) : Ck := ⟨p.k, p.f, p.tag, p.rwnd, p.tsn, p.out, p.inn, p.sid, p.ssn, p.ppid, ⟨none, p.data.length, 0⟩, ⟨none, p.addrs.length, 0⟩, ⟨none, p.gaps.length, 0⟩, ⟨none, p.dups.length, 0⟩, ⟨none, p.causes.length, 0⟩⟩
def mayP (p : PC) : Bool := may (ckOf p) p.gaps
theorem mayP_of {h : AHeap} {c : Ck} {d : CD} (ok : COk h c d) : mayP (pcOf c d) = may c d.gaps := by
  have e1 := rmay_eq c ok.f
  have e2 := rmay_eq (ckOf (pcOf c d)) ok.f
  have hs : SameB (ckOf (pcOf c d)) (cl (ckOf (pcOf c d))) ↔ SameB c (cl c) := by
    rw [← decide_eq_decide, ← e1, ← e2]
    simp only [ckOf, pcOf, ok.dl, ok.al, ok.gl, ok.ul, List.length_map, ok.cl]
  unfold mayP may
  congr 1
  rw [decide_eq_decide]
  unfold MayF
  rw [hs]
  simp only [ckOf, pcOf, ok.dl, ok.al, ok.gl, ok.ul]
def PC.z (k f : Nat) : PC := ⟨k, f, 0, 0, 0, 0, 0, 0, 0, 0, [], [], [], [], []⟩
def pgo (kind : Nat) (well : Bool) : List Thing → List Nat → List UInt8 → Nat → Option (List Nat × List UInt8)
  | [], A, D, _ => if well then some (A, D) else none
  | (k, _, z) :: l, A, D, n =>
    if k = 5 then (if z.length = 4 ∧ A.length ≠ 3 then pgo kind well l (A ++ [beNum z]) D n else none)
    else if k = 7 then (if kind = 1 ∨ n ≠ 0 ∨ z.length = 0 then none else pgo kind well l A z (n + 1))
    else if k < 32768 then some (A, D) else pgo kind well l A D n
def nAt (zs : List UInt8) (at_ n : Nat) : Nat := beNum ((zs.drop at_).take n)
def gapsAt (zs : List UInt8) (n : Nat) : List (Nat × Nat) := (List.range n).map fun i => (nAt zs (4 * i) 2, nAt zs (4 * i + 2) 2)
def dupsAt (zs : List UInt8) (n : Nat) : List Nat := (List.range n).map fun i => nAt zs (4 * i) 4
def rawP (k f : Nat) (zs : List UInt8) : Option PC :=
  match k with
  | 0 => if 12 ≤ zs.length then some { PC.z k f with tsn := nAt zs 0 4, sid := nAt zs 4 2, ssn := nAt zs 6 2, ppid := nAt zs 8 4, data := zs.drop 12 } else none
  | 1 => if 16 ≤ zs.length then (pgo k (parse false (zs.drop 16)).2 (parse false (zs.drop 16)).1 [] [] 0).map fun x => { PC.z k f with tag := nAt zs 0 4, rwnd := nAt zs 4 4, out := nAt zs 8 2, inn := nAt zs 10 2, tsn := nAt zs 12 4, addrs := x.1, data := x.2 } else none
  | 2 => if 16 ≤ zs.length then (pgo k (parse false (zs.drop 16)).2 (parse false (zs.drop 16)).1 [] [] 0).map fun x => { PC.z k f with tag := nAt zs 0 4, rwnd := nAt zs 4 4, out := nAt zs 8 2, inn := nAt zs 10 2, tsn := nAt zs 12 4, addrs := x.1, data := x.2 } else none
  | 3 => if 12 ≤ zs.length ∧ zs.length = 12 + 4 * nAt zs 8 2 + 4 * nAt zs 10 2 then some { PC.z k f with tsn := nAt zs 0 4, rwnd := nAt zs 4 4, gaps := gapsAt (zs.drop 12) (nAt zs 8 2), dups := dupsAt (zs.drop (12 + 4 * nAt zs 8 2)) (nAt zs 10 2) } else none
  | 6 => if (parse false zs).2 = true then some { PC.z k f with causes := (parse false zs).1.map fun x => (x.1, x.2.2) } else none
  | 9 => if (parse false zs).2 = true then some { PC.z k f with causes := (parse false zs).1.map fun x => (x.1, x.2.2) } else none
  | 7 => if zs.length = 4 then some { PC.z k f with tsn := nAt zs 0 4 } else none
  | 8 => if zs.length = 0 then some (PC.z k f) else none
  | 11 => if zs.length = 0 then some (PC.z k f) else none
  | 14 => if zs.length = 0 then some (PC.z k f) else none
  | _ => some { PC.z k f with data := zs }
def tkP (kind f : Nat) (zs : List UInt8) : Option PC := if 255 < kind then none else (rawP kind f zs).filter mayP
def TakeR (h' : AHeap) (v : Value) (r : Option PC) : Prop := match r with
  | none => v = .tuple #[(Ck.none 0).v, .int .i64 50]
  | some p => ∃ c d, v = .tuple #[c.v, .int .i64 0] ∧ COk h' c d ∧ pcOf c d = p
def gapsR : Nat → List UInt8 → Bool → List (Nat × Nat) × List UInt8 × Bool
  | 0, zs, bad => ([], zs, bad)
  | n + 1, zs, bad =>
    let r := gapsR n zs bad
    (r.1 ++ [(num r.2.1 2, num (left r.2.1 2) 2)], left (left r.2.1 2) 2, r.2.2 || short r.2.1 2 || short (left r.2.1 2) 2)
def dupsR : Nat → List UInt8 → Bool → List Nat × List UInt8 × Bool
  | 0, zs, bad => ([], zs, bad)
  | n + 1, zs, bad =>
    let r := dupsR n zs bad
    (r.1 ++ [num r.2.1 4], left r.2.1 4, r.2.2 || short r.2.1 4)
theorem gapsR_len (n : Nat) (zs : List UInt8) (bad : Bool) : (gapsR n zs bad).1.length = n := by
  induction n with
  | zero => rfl
  | succ n ih => simp [gapsR, ih]
theorem dupsR_len (n : Nat) (zs : List UInt8) (bad : Bool) : (dupsR n zs bad).1.length = n := by
  induction n with
  | zero => rfl
  | succ n ih => simp [dupsR, ih]
theorem gapsR_rest (n : Nat) (zs : List UInt8) (bad : Bool) : (gapsR n zs bad).2.1.length ≤ zs.length := by
  induction n with
  | zero => exact Nat.le_refl _
  | succ n ih => exact Nat.le_trans (left_len _ _) (Nat.le_trans (left_len _ _) ih)
theorem dupsR_rest (n : Nat) (zs : List UInt8) (bad : Bool) : (dupsR n zs bad).2.1.length ≤ zs.length := by
  induction n with
  | zero => exact Nat.le_refl _
  | succ n ih => exact Nat.le_trans (left_len _ _) ih
theorem gapsR_good (zs : List UInt8) (bad : Bool) (n : Nat) (h : 4 * n ≤ zs.length) : gapsR n zs bad = (gapsAt zs n, zs.drop (4 * n), bad) := by
  induction n with
  | zero => rfl
  | succ n ih =>
    have hl : (zs.drop (4 * n)).length = zs.length - 4 * n := List.length_drop
    simp only [gapsR, ih (by omega)]
    have h1 : 2 ≤ (zs.drop (4 * n)).length := by omega
    rw [num_le h1, left_le h1, short_le h1]
    have h2 : 2 ≤ ((zs.drop (4 * n)).drop 2).length := by rw [List.length_drop]; omega
    rw [num_le h2, left_le h2, short_le h2]
    simp only [List.drop_drop, Bool.or_false, gapsAt, List.range_succ, List.map_append, List.map_cons, List.map_nil, nAt]
    rw [show 4 * n + (2 + 2) = 4 * (n + 1) from by omega]
theorem dupsR_good (zs : List UInt8) (bad : Bool) (n : Nat) (h : 4 * n ≤ zs.length) : dupsR n zs bad = (dupsAt zs n, zs.drop (4 * n), bad) := by
  induction n with
  | zero => rfl
  | succ n ih =>
    have hl : (zs.drop (4 * n)).length = zs.length - 4 * n := List.length_drop
    simp only [dupsR, ih (by omega)]
    have h1 : 4 ≤ (zs.drop (4 * n)).length := by omega
    rw [num_le h1, left_le h1, short_le h1]
    simp only [List.drop_drop, Bool.or_false, dupsAt, List.range_succ, List.map_append, List.map_cons, List.map_nil, nAt]
    rw [show 4 * n + 4 = 4 * (n + 1) from by omega]
theorem gapsR_true (n : Nat) (zs : List UInt8) : (gapsR n zs true).2.2 = true := by
  induction n with
  | zero => rfl
  | succ n ih => simp [gapsR, ih]
theorem dupsR_true (n : Nat) (zs : List UInt8) : (dupsR n zs true).2.2 = true := by
  induction n with
  | zero => rfl
  | succ n ih => simp [dupsR, ih]
theorem gapsR_bad (zs : List UInt8) (bad : Bool) (n : Nat) (h : zs.length < 4 * n) : (gapsR n zs bad).2.2 = true := by
  induction n with
  | zero => omega
  | succ n ih =>
    simp only [gapsR]
    rcases Nat.lt_or_ge zs.length (4 * n) with g | g
    · rw [ih g]; simp
    · rw [gapsR_good zs bad n g]
      have hl : (zs.drop (4 * n)).length = zs.length - 4 * n := List.length_drop
      rcases Nat.lt_or_ge (zs.drop (4 * n)).length 2 with q | q
      · simp [short, hl]; omega
      · simp [short, left_le q]; omega
theorem dupsR_bad (zs : List UInt8) (bad : Bool) (n : Nat) (h : zs.length < 4 * n) : (dupsR n zs bad).2.2 = true := by
  induction n with
  | zero => omega
  | succ n ih =>
    simp only [dupsR]
    rcases Nat.lt_or_ge zs.length (4 * n) with g | g
    · rw [ih g]; simp
    · rw [dupsR_good zs bad n g]
      have hl : (zs.drop (4 * n)).length = zs.length - 4 * n := List.length_drop
      simp [short, hl]; omega
end Go.Proofs.Ytmelgnpogdilgaa
namespace Go.Proofs.Ytmelgnpogdilgaa
set_option maxRecDepth 100000
def Puts (chunk : Bool) (x : Thing) : Prop := x.1 < 65536 ∧ x.2.1 < 256 ∧ (chunk = true → x.1 ≤ 255) ∧ (chunk = false → x.2.1 = 0) ∧ x.2.2.length ≤ 65531
def tb (chunk : Bool) (x : Thing) : List UInt8 := tlvB chunk x.1 x.2.1 x.2.2
theorem tb_len (chunk : Bool) (x : Thing) : (tb chunk x).length = up4 (x.2.2.length + 4) := tlvB_length _ _ _ _
def hd4 (chunk : Bool) (x : Thing) : List UInt8 := (if chunk then [UInt8.ofNat x.1, UInt8.ofNat x.2.1] else [UInt8.ofNat (x.1 / 256), UInt8.ofNat x.1]) ++ [UInt8.ofNat ((4 + x.2.2.length) / 256), UInt8.ofNat (4 + x.2.2.length)]
theorem hd4_len (chunk : Bool) (x : Thing) : (hd4 chunk x).length = 4 := by cases chunk <;> rfl
theorem tb_eq (chunk : Bool) (x : Thing) : tb chunk x = hd4 chunk x ++ (x.2.2 ++ List.replicate (up4 (x.2.2.length + 4) - 4 - x.2.2.length) 0) := by
  simp only [tb, tlvB, hd4, up4, List.append_assoc]
theorem tb_N {chunk : Bool} {x : Thing} (h : Puts chunk x) (r : List UInt8) : tN (tb chunk x ++ r) = x.2.2.length + 4 := by
  have e : ((tb chunk x ++ r).drop 2).take 2 = [UInt8.ofNat ((4 + x.2.2.length) / 256), UInt8.ofNat (4 + x.2.2.length)] := by
    rw [tb_eq]; cases chunk <;> simp [hd4]
  have hl := h.2.2.2.2
  rw [tN, e, beNum_two]
  simp only [UInt8.toNat_ofNat']
  omega
theorem tb_whole {chunk : Bool} {x : Thing} (h : Puts chunk x) (r : List UInt8) : Whole (tb chunk x ++ r) := by
  have hu := up4_le (x.2.2.length + 4)
  refine ⟨by rw [List.length_append, tb_len]; omega, by rw [tb_N h]; omega, by rw [tb_N h, List.length_append, tb_len]; omega, ?_⟩
  rw [tb_N h]
  have e : ((tb chunk x ++ r).drop (x.2.2.length + 4)).take (up4 (x.2.2.length + 4) - (x.2.2.length + 4)) = List.replicate (up4 (x.2.2.length + 4) - 4 - x.2.2.length) 0 := by
    rw [tb_eq, ← List.append_assoc, List.append_assoc, ← List.append_assoc, List.append_assoc, List.drop_left' (by rw [List.length_append, hd4_len]; omega), List.take_left' (by rw [List.length_replicate]; omega)]
  rw [e]
  simp
theorem tb_thing {chunk : Bool} {x : Thing} (h : Puts chunk x) (r : List UInt8) : thing chunk (tb chunk x ++ r) = x := by
  obtain ⟨k, f, z⟩ := x
  obtain ⟨h1, h2, h3, h4, h5⟩ := h
  simp only at h1 h2 h3 h4 h5
  have hN := tb_N (chunk := chunk) (x := (k, f, z)) ⟨h1, h2, h3, h4, h5⟩ r
  have hv : ((tb chunk (k, f, z) ++ r).drop 4).take (tN (tb chunk (k, f, z) ++ r) - 4) = z := by
    rw [hN, tb_eq, List.append_assoc, List.drop_left' (hd4_len _ _), List.append_assoc]
    exact List.take_left' (by simp)
  cases chunk with
  | false =>
    have e : (tb false (k, f, z) ++ r).take 2 = [UInt8.ofNat (k / 256), UInt8.ofNat k] := by rw [tb_eq]; simp [hd4]
    have := h4 rfl
    subst this
    simp only [thing, hv, e, beNum_two, UInt8.toNat_ofNat', Bool.false_eq_true, if_false]
    congr 1
    omega
  | true =>
    have e : (tb true (k, f, z) ++ r).take 1 = [UInt8.ofNat k] := by rw [tb_eq]; simp [hd4]
    have e2 : ((tb true (k, f, z) ++ r).drop 1).take 1 = [UInt8.ofNat f] := by rw [tb_eq]; simp [hd4]
    have := h3 rfl
    simp only [thing, hv, e, e2, beNum_one, UInt8.toNat_ofNat', if_true]
    congr 1
    · omega
    · congr 1
      omega
theorem parse_tb {chunk : Bool} {x : Thing} (h : Puts chunk x) (r : List UInt8) : parse chunk (tb chunk x ++ r) = (x :: (parse chunk r).1, (parse chunk r).2) := by
  have e : (tb chunk x ++ r).drop (up4 (tN (tb chunk x ++ r))) = r := by
    rw [tb_N h]; exact List.drop_left' (tb_len _ _)
  rw [parse_some (tb_whole h r), tb_thing h r, e]
def tbs (chunk : Bool) (xs : List Thing) : List UInt8 := (xs.map (tb chunk)).flatten
theorem parse_tbs {chunk : Bool} (xs : List Thing) (h : ∀ x ∈ xs, Puts chunk x) (r : List UInt8) : parse chunk (tbs chunk xs ++ r) = (xs ++ (parse chunk r).1, (parse chunk r).2) := by
  induction xs with
  | nil => simp [tbs]
  | cons x xs ih =>
    have ih' := ih fun y hy => h y (by simp [hy])
    have e : tbs chunk (x :: xs) ++ r = tb chunk x ++ (tbs chunk xs ++ r) := by simp [tbs]
    rw [e, parse_tb (h x (by simp)), ih']
    rfl
theorem thing_puts {chunk : Bool} {z : List UInt8} (h : Whole z) : Puts chunk (thing chunk z) := by
  have hN : tN z < 65536 := beNum_lt_of (k := 2) (by simp; omega) rfl
  have hb := thing_bounds (chunk := chunk) (z := z)
  refine ⟨hb.1, hb.2, fun e => ?_, fun e => ?_, by rw [thing_len h]; omega⟩
  · subst e
    have : beNum (z.take 1) < 256 := beNum_lt_of (k := 1) (by simp; omega) rfl
    simp [thing]; omega
  · subst e; rfl
theorem tb_thing_eq {chunk : Bool} {z : List UInt8} (h : Whole z) : tb chunk (thing chunk z) = z.take (up4 (tN z)) := by
  have hl := thing_len (chunk := chunk) h
  have hu := up4_le (tN z)
  obtain ⟨h1, h2, h3, h4⟩ := h
  have e4 : (thing chunk z).2.2.length + 4 = tN z := by rw [hl]; omega
  have hd : hd4 chunk (thing chunk z) = z.take 4 := by
    have t2 : (z.drop 2).take 2 = beB 2 (tN z) := (beB_beNum_n (by simp; omega)).symm
    have e : z.take 4 = z.take 2 ++ (z.drop 2).take 2 := by rw [← List.take_add]
    rw [e, t2, beB2]
    unfold hd4
    rw [Nat.add_comm 4, e4]
    congr 1
    cases chunk with
    | false =>
      simp only [thing, Bool.false_eq_true, if_false]
      rw [← beB2, beB_beNum_n (by simp; omega)]
    | true =>
      have a0 := take_two (z := z) (i := 0) (by omega)
      have a1 := take_one (z := z) (i := 0) (by omega)
      have a2 := take_one (z := z) (i := 1) (by omega)
      rw [List.drop_zero] at a0 a1
      simp only [thing, if_true, a0, a1, a2, beNum_one]
      simp
  have hv : (thing chunk z).2.2 = (z.drop 4).take (tN z - 4) := rfl
  have hp : List.replicate (up4 ((thing chunk z).2.2.length + 4) - 4 - (thing chunk z).2.2.length) (0 : UInt8) = (z.drop (tN z)).take (up4 (tN z) - tN z) := by
    rw [e4, hl]
    symm
    apply List.eq_replicate_iff.2
    refine ⟨by simp; omega, fun b hb => ?_⟩
    have := List.all_eq_true.1 h4 b hb
    simpa using this
  rw [tb_eq, hd, hp, hv]
  have s1 : z.take (up4 (tN z)) = z.take 4 ++ (z.drop 4).take (up4 (tN z) - 4) := by
    rw [← List.take_add]; congr 1; omega
  have s2 : (z.drop 4).take (up4 (tN z) - 4) = (z.drop 4).take (tN z - 4) ++ ((z.drop 4).drop (tN z - 4)).take (up4 (tN z) - tN z) := by
    rw [← List.take_add]; congr 1; omega
  rw [s1, s2, List.drop_drop]
  congr 4
  omega
theorem tbs_parse {chunk : Bool} : ∀ (z : List UInt8), (parse chunk z).2 = true → tbs chunk (parse chunk z).1 = z ∧ ∀ x ∈ (parse chunk z).1, Puts chunk x := by
  intro z
  induction hn : z.length using Nat.strongRecOn generalizing z with
  | _ n ih =>
    intro hw
    by_cases h0 : z = []
    · subst h0; rw [parse_nil]; exact ⟨rfl, fun x hx => by cases hx⟩
    · by_cases h : Whole z
      · rw [parse_some h] at hw ⊢
        have hu := up4_le (tN z)
        have h2 := h.2.1
        have h1 := h.1
        obtain ⟨i1, i2⟩ := ih (z.drop (up4 (tN z))).length (by simp; omega) (z.drop (up4 (tN z))) rfl hw
        refine ⟨?_, fun x hx => ?_⟩
        · show tb chunk (thing chunk z) ++ tbs chunk _ = z
          rw [i1, tb_thing_eq h]
          exact List.take_append_drop _ _
        · rcases List.mem_cons.1 hx with rfl | hx
          · exact thing_puts h
          · exact i2 x hx
      · rw [parse_none h0 h] at hw; cases hw
end Go.Proofs.Ytmelgnpogdilgaa
namespace Go.Proofs.Ytmelgnpogdilgaa
theorem nAt_skip {a b : List UInt8} {m at_ n : Nat} (h : a.length = m) : nAt (a ++ b) (m + at_) n = nAt b at_ n := by
  unfold nAt
  rw [← h, ← List.drop_drop, List.drop_left]
theorem nAt_here {n x : Nat} {b : List UInt8} (h : x < 256 ^ n) : nAt (beB n x ++ b) 0 n = x := by
  unfold nAt
  rw [List.drop_zero, List.take_left' (beB_length n x), beNum_beB n x h]
theorem nAt_go {m k at_ n x : Nat} {b : List UInt8} (e : at_ = m + k) : nAt (beB m x ++ b) at_ n = nAt b k n := by
  subst e; exact nAt_skip (beB_length m x)
theorem drop_go {m k n x : Nat} {b : List UInt8} (e : n = m + k) : (beB m x ++ b).drop n = b.drop k := by
  subst e; rw [← List.drop_drop, List.drop_left' (beB_length m x)]
theorem drop_split {z : List UInt8} {i n : Nat} (h : i + n ≤ z.length) : z.drop i = beB n (nAt z i n) ++ z.drop (i + n) := by
  unfold nAt
  rw [beB_beNum_n (by simp; omega), ← List.drop_drop, List.take_append_drop]
theorem may_clean {c : Ck} {gs : List (Nat × Nat)} (h : may c gs = true) : MayF c := by
  unfold may at h
  rw [Bool.and_eq_true] at h
  exact of_decide_eq_true h.1
theorem pgo_addrs (kind : Nat) (well : Bool) (l : List Nat) (hb : ∀ x ∈ l, x < 4294967296) (rest : List Thing) (A : List Nat) (D : List UInt8) (n : Nat) (h : A.length + l.length ≤ 3) : pgo kind well (l.map (fun a => ((5, 0, beB 4 a) : Thing)) ++ rest) A D n = pgo kind well rest (A ++ l) D n := by
  induction l generalizing A with
  | nil => simp
  | cons a l ih =>
    have ha := hb a (by simp)
    simp only [List.length_cons] at h
    simp only [List.map_cons, List.cons_append, pgo, if_true]
    rw [if_pos ⟨beB_length 4 a, by omega⟩, beNum_beB 4 a (by omega), ih (fun x hx => hb x (by simp [hx])) (A ++ [a]) (by simp; omega)]
    simp
theorem addrs_tbs (l : List Nat) : addrsB l = tbs false (l.map fun a => ((5, 0, beB 4 a) : Thing)) := by
  unfold addrsB tbs
  rw [List.map_map]; rfl
theorem addrs_puts (l : List Nat) : ∀ x ∈ l.map (fun a => ((5, 0, beB 4 a) : Thing)), Puts false x := by
  intro x hx
  obtain ⟨a, -, rfl⟩ := List.mem_map.1 hx
  exact ⟨(by simp), (by simp), (by simp), fun _ => rfl, by simp [beB_length]⟩
theorem head16 (a b c d e : Nat) (r : List UInt8) (h1 : a < 4294967296) (h2 : b < 4294967296) (h3 : c < 65536) (h4 : d < 65536) (h5 : e < 4294967296) : nAt (beB 4 a ++ (beB 4 b ++ (beB 2 c ++ (beB 2 d ++ (beB 4 e ++ r))))) 0 4 = a ∧ nAt (beB 4 a ++ (beB 4 b ++ (beB 2 c ++ (beB 2 d ++ (beB 4 e ++ r))))) 4 4 = b ∧ nAt (beB 4 a ++ (beB 4 b ++ (beB 2 c ++ (beB 2 d ++ (beB 4 e ++ r))))) 8 2 = c ∧ nAt (beB 4 a ++ (beB 4 b ++ (beB 2 c ++ (beB 2 d ++ (beB 4 e ++ r))))) 10 2 = d ∧ nAt (beB 4 a ++ (beB 4 b ++ (beB 2 c ++ (beB 2 d ++ (beB 4 e ++ r))))) 12 4 = e ∧ (beB 4 a ++ (beB 4 b ++ (beB 2 c ++ (beB 2 d ++ (beB 4 e ++ r))))).drop 16 = r ∧ 16 ≤ (beB 4 a ++ (beB 4 b ++ (beB 2 c ++ (beB 2 d ++ (beB 4 e ++ r))))).length := by
  refine ⟨nAt_here (by omega), ?_, ?_, ?_, ?_, ?_, by simp only [List.length_append, beB_length]; omega⟩
  · rw [nAt_go (k := 0) (by omega), nAt_here (by omega)]
  · rw [nAt_go (k := 4) (by omega), nAt_go (k := 0) (by omega), nAt_here (by omega)]
  · rw [nAt_go (k := 6) (by omega), nAt_go (k := 2) (by omega), nAt_go (k := 0) (by omega), nAt_here (by omega)]
  · rw [nAt_go (k := 8) (by omega), nAt_go (k := 4) (by omega), nAt_go (k := 2) (by omega), nAt_go (k := 0) (by omega), nAt_here (by omega)]
  · rw [drop_go (k := 12) (by omega), drop_go (k := 8) (by omega), drop_go (k := 6) (by omega), drop_go (k := 4) (by omega), drop_go (k := 0) (by omega), List.drop_zero]
theorem gapsBy_at (z : List UInt8) (n : Nat) (h : 4 * n ≤ z.length) : gapsBy (gapsAt z n) = z.take (4 * n) := by
  induction n with
  | zero => rfl
  | succ n ih =>
    have e : gapsAt z (n + 1) = gapsAt z n ++ [(nAt z (4 * n) 2, nAt z (4 * n + 2) 2)] := by simp [gapsAt, List.range_succ]
    have e2 : gapsBy (gapsAt z n ++ [(nAt z (4 * n) 2, nAt z (4 * n + 2) 2)]) = gapsBy (gapsAt z n) ++ (beB 2 (nAt z (4 * n) 2) ++ beB 2 (nAt z (4 * n + 2) 2)) := by simp [gapsBy]
    rw [e, e2, ih (by omega), show 4 * (n + 1) = 4 * n + (2 + 2) from by omega, List.take_add, List.take_add]
    unfold nAt
    rw [beB_beNum_n (by simp; omega), beB_beNum_n (by simp; omega), List.drop_drop]
theorem be4s_at (z : List UInt8) (n : Nat) (h : 4 * n ≤ z.length) : be4s (dupsAt z n) = z.take (4 * n) := by
  induction n with
  | zero => rfl
  | succ n ih =>
    have e : dupsAt z (n + 1) = dupsAt z n ++ [nAt z (4 * n) 4] := by simp [dupsAt, List.range_succ]
    have e2 : be4s (dupsAt z n ++ [nAt z (4 * n) 4]) = be4s (dupsAt z n) ++ beB 4 (nAt z (4 * n) 4) := by simp [be4s]
    rw [e, e2, ih (by omega), show 4 * (n + 1) = 4 * n + 4 from by omega, List.take_add]
    unfold nAt
    rw [beB_beNum_n (by simp; omega)]
theorem causes_eq (l : List CV) (xs : List Thing) (e : l.map (fun x => (x.k, x.z)) = xs.map (fun x => (x.1, x.2.2))) (h : ∀ x ∈ xs, Puts false x) : allShort l = true ∧ causesB l = tbs false xs := by
  induction l generalizing xs with
  | nil => cases xs with
    | nil => exact ⟨rfl, rfl⟩
    | cons y ys => cases e
  | cons x l ih => cases xs with
    | nil => cases e
    | cons y ys =>
      simp only [List.map_cons, List.cons.injEq, Prod.mk.injEq] at e
      obtain ⟨⟨e1, e2⟩, e3⟩ := e
      obtain ⟨i1, i2⟩ := ih ys e3 fun z hz => h z (by simp [hz])
      obtain ⟨p1, p2, p3, p4, p5⟩ := h y (by simp)
      have hx : x.z.length ≤ 65531 := by rw [e2]; exact p5
      refine ⟨by simp only [allShort, List.all_cons, Bool.and_eq_true] at i1 ⊢; exact ⟨decide_eq_true hx, i1⟩, ?_⟩
      have : causesB (x :: l) = pB x.k x.z ++ causesB l := by simp [causesB]
      rw [this, i2, pB, if_pos hx, e1, e2]
      have p4 := p4 rfl
      simp [tbs, tb, p4]
theorem put_tk {H : AHeap} {c : Ck} {d : CD} {k f : Nat} {z : List UInt8} (ok : COk H c d) (h : tkP k f z = some (pcOf c d)) : c.k = k ∧ c.f = f ∧ k ≤ 255 ∧ may c d.gaps = true ∧ (k ≠ 1 → k ≠ 2 → cval c d = some z) := by
  unfold tkP at h
  split at h
  · cases h
  rename_i hk
  obtain ⟨h1, h2⟩ := Option.filter_eq_some_iff.1 h
  rw [mayP_of ok] at h2
  have l3 := ok.gl
  have l4 := ok.ul
  clear ok h
  obtain ⟨k', f', tag, rwnd, tsn, out, inn, sid, ssn, ppid, ⟨_, Dn, _⟩, ⟨_, An, _⟩, ⟨_, Gn, _⟩, ⟨_, Un, _⟩, ⟨_, Cn, _⟩⟩ := c
  obtain ⟨data, addrs, gaps, dups, causes⟩ := d
  simp only at *
  subst l3 l4
  unfold rawP pcOf PC.z at h1
  simp only at h1
  split at h1
  · split at h1
    case isFalse => cases h1
    rename_i g
    simp only [Option.some.injEq, PC.mk.injEq] at h1
    obtain ⟨rfl, rfl, -, -, rfl, -, -, rfl, rfl, rfl, rfl, -⟩ := h1
    refine ⟨rfl, rfl, by omega, h2, fun _ _ => ?_⟩
    simp only [cval, List.append_assoc]
    rw [← drop_split (i := 8) (by omega), ← drop_split (i := 6) (by omega), ← drop_split (i := 4) (by omega), ← drop_split (i := 0) (by omega), List.drop_zero]
  · split at h1
    case isFalse => cases h1
    simp only [Option.map_eq_some_iff, PC.mk.injEq] at h1
    obtain ⟨y, -, rfl, rfl, -⟩ := h1
    exact ⟨rfl, rfl, by omega, h2, fun x => absurd rfl x⟩
  · split at h1
    case isFalse => cases h1
    simp only [Option.map_eq_some_iff, PC.mk.injEq] at h1
    obtain ⟨y, -, rfl, rfl, -⟩ := h1
    exact ⟨rfl, rfl, by omega, h2, fun _ x => absurd rfl x⟩
  · split at h1
    case isFalse => cases h1
    rename_i g
    simp only [Option.some.injEq, PC.mk.injEq] at h1
    obtain ⟨rfl, rfl, -, rfl, rfl, -, -, -, -, -, -, -, rfl, rfl, -⟩ := h1
    refine ⟨rfl, rfl, by omega, h2, fun _ _ => ?_⟩
    obtain ⟨g1, g2⟩ := g
    have a1 : (gapsAt (z.drop 12) (nAt z 8 2)).length = nAt z 8 2 := by simp [gapsAt]
    have a2 : (dupsAt (z.drop (12 + 4 * nAt z 8 2)) (nAt z 10 2)).length = nAt z 10 2 := by simp [dupsAt]
    simp only [cval, List.append_assoc, a1, a2]
    rw [gapsBy_at _ _ (by simp; omega), be4s_at _ _ (by simp; omega)]
    have e : (z.drop 12).take (4 * nAt z 8 2) ++ (z.drop (12 + 4 * nAt z 8 2)).take (4 * nAt z 10 2) = z.drop 12 := by
      rw [List.take_of_length_le (l := z.drop (12 + 4 * nAt z 8 2)) (by simp; omega), ← List.drop_drop, List.take_append_drop]
    rw [e, ← drop_split (i := 10) (by omega), ← drop_split (i := 8) (by omega), ← drop_split (i := 4) (by omega), ← drop_split (i := 0) (by omega), List.drop_zero]
  · split at h1
    case isFalse => cases h1
    rename_i g
    simp only [Option.some.injEq, PC.mk.injEq] at h1
    obtain ⟨rfl, rfl, -, -, -, -, -, -, -, -, -, -, -, -, e⟩ := h1
    refine ⟨rfl, rfl, by omega, h2, fun _ _ => ?_⟩
    obtain ⟨t1, t2⟩ := tbs_parse z g
    obtain ⟨q1, q2⟩ := causes_eq causes _ e.symm t2
    simp only [cval, q1, if_true, q2, t1]
  · split at h1
    case isFalse => cases h1
    rename_i g
    simp only [Option.some.injEq, PC.mk.injEq] at h1
    obtain ⟨rfl, rfl, -, -, -, -, -, -, -, -, -, -, -, -, e⟩ := h1
    refine ⟨rfl, rfl, by omega, h2, fun _ _ => ?_⟩
    obtain ⟨t1, t2⟩ := tbs_parse z g
    obtain ⟨q1, q2⟩ := causes_eq causes _ e.symm t2
    simp only [cval, q1, if_true, q2, t1]
  · split at h1
    case isFalse => cases h1
    rename_i g
    simp only [Option.some.injEq, PC.mk.injEq] at h1
    obtain ⟨rfl, rfl, -, -, rfl, -⟩ := h1
    refine ⟨rfl, rfl, by omega, h2, fun _ _ => ?_⟩
    have e := drop_split (z := z) (i := 0) (n := 4) (by omega)
    rw [List.drop_zero, List.drop_of_length_le (by omega), List.append_nil] at e
    simp only [cval]
    rw [← e]
  · split at h1
    case isFalse => cases h1
    rename_i g
    simp only [Option.some.injEq, PC.mk.injEq] at h1
    obtain ⟨rfl, rfl, -, -, -, -, -, -, -, -, rfl, -⟩ := h1
    refine ⟨rfl, rfl, by omega, h2, fun _ _ => ?_⟩
    rw [List.eq_nil_of_length_eq_zero g]; rfl
  · split at h1
    case isFalse => cases h1
    rename_i g
    simp only [Option.some.injEq, PC.mk.injEq] at h1
    obtain ⟨rfl, rfl, -, -, -, -, -, -, -, -, rfl, -⟩ := h1
    refine ⟨rfl, rfl, by omega, h2, fun _ _ => ?_⟩
    rw [List.eq_nil_of_length_eq_zero g]; rfl
  · split at h1
    case isFalse => cases h1
    rename_i g
    simp only [Option.some.injEq, PC.mk.injEq] at h1
    obtain ⟨rfl, rfl, -, -, -, -, -, -, -, -, rfl, -⟩ := h1
    refine ⟨rfl, rfl, by omega, h2, fun _ _ => ?_⟩
    rw [List.eq_nil_of_length_eq_zero g]; rfl
  · simp only [Option.some.injEq, PC.mk.injEq] at h1
    obtain ⟨rfl, rfl, -, -, -, -, -, -, -, -, rfl, -⟩ := h1
    refine ⟨rfl, rfl, by omega, h2, fun _ _ => ?_⟩
    unfold cval
    split <;> first | rfl | contradiction | omega
theorem parse_small {chunk : Bool} : ∀ (z : List UInt8), ∀ x ∈ (parse chunk z).1, x.2.2.length ≤ z.length := by
  intro z
  induction hn : z.length using Nat.strongRecOn generalizing z with
  | _ n ih =>
    intro x hx
    by_cases h0 : z = []
    · subst h0; rw [parse_nil] at hx; cases hx
    · by_cases h : Whole z
      · rw [parse_some h] at hx
        have hu := up4_le (tN z)
        have h2 := h.2.1
        have h3 := h.2.2.1
        have h1 := h.1
        rcases List.mem_cons.1 hx with rfl | hx
        · rw [thing_len h]; omega
        · have := ih (z.drop (up4 (tN z))).length (by simp; omega) (z.drop (up4 (tN z))) rfl x hx
          simp at this; omega
      · rw [parse_none h0 h] at hx; cases hx
theorem pgo_small (kind : Nat) (well : Bool) (N : Nat) (l : List Thing) (hl : ∀ x ∈ l, x.2.2.length ≤ N) (A : List Nat) (D : List UInt8) (hD : D.length ≤ N) (n : Nat) (r : List Nat × List UInt8) (h : pgo kind well l A D n = some r) : r.2.length ≤ N := by
  induction l generalizing A D n with
  | nil =>
    simp only [pgo] at h
    split at h
    · cases h; exact hD
    · cases h
  | cons x l ih =>
    obtain ⟨k, f, z⟩ := x
    have hz : z.length ≤ N := hl (k, f, z) (by simp)
    have ih' := ih fun x hx => hl x (by simp [hx])
    simp only [pgo] at h
    split at h
    · split at h
      · exact ih' _ _ hD _ h
      · cases h
    · split at h
      · split at h
        · cases h
        · exact ih' _ _ hz _ h
      · split at h
        · cases h; exact hD
        · exact ih' _ _ hD _ h
theorem tk_bounds {H : AHeap} {c : Ck} {d : CD} {k f : Nat} {z : List UInt8} (ok : COk H c d) (h : tkP k f z = some (pcOf c d)) : c.D.n ≤ z.length ∧ c.A.n ≤ 3 ∧ c.G.n ≤ 64 ∧ c.U.n ≤ 16 ∧ c.C.n ≤ z.length := by
  obtain ⟨-, -, -, hm, -⟩ := put_tk ok h
  obtain ⟨hs, m1, m2, m3, m4⟩ := may_clean hm
  unfold tkP at h
  split at h
  · cases h
  obtain ⟨h1, -⟩ := Option.filter_eq_some_iff.1 h
  have hpl := parse_len (chunk := false) z
  have key : d.data.length ≤ z.length ∧ (d.causes.map fun x => (x.k, x.z)).length ≤ z.length := by
    unfold rawP pcOf PC.z at h1
    split at h1
    all_goals (try split at h1)
    all_goals (first | (cases h1; done) | skip)
    all_goals (first | (simp only [Option.some.injEq, PC.mk.injEq] at h1; obtain ⟨-, -, -, -, -, -, -, -, -, -, e1, -, -, -, e2⟩ := h1; rw [← e1, ← e2]; simp; done) | (simp only [Option.some.injEq, PC.mk.injEq] at h1; obtain ⟨-, -, -, -, -, -, -, -, -, -, e1, -, -, -, e2⟩ := h1; rw [← e1, ← e2]; simp; omega) | skip)
    all_goals
      simp only [Option.map_eq_some_iff, PC.mk.injEq] at h1
      obtain ⟨r, hr, -, -, -, -, -, -, -, -, -, -, e1, -, -, -, e2⟩ := h1
      rw [← e1, ← e2]
      exact ⟨pgo_small _ _ z.length _ (fun x hx => Nat.le_trans (parse_small _ x hx) (by simp)) [] [] (Nat.zero_le _) 0 r hr, Nat.zero_le _⟩
  rw [ok.dl, List.length_map, ok.cl] at key
  exact ⟨key.1, m1, m2, m3, key.2⟩
end Go.Proofs.Ytmelgnpogdilgaa
namespace Go.Proofs.Ytmelgnpogdilgaa
def hB (c : Ck) : List UInt8 := beB 4 c.tag ++ (beB 4 c.rwnd ++ (beB 2 c.out ++ (beB 2 c.inn ++ beB 4 c.tsn)))
theorem hB_len (c : Ck) : (hB c).length = 16 := by simp only [hB, List.length_append, beB_length]
def pmB (c : Ck) (d : CD) : List UInt8 := addrsB d.addrs ++ (if c.k = 2 then pB 7 d.data else [])
theorem cval_split {c : Ck} {d : CD} {x : List UInt8} (hk : c.k = 1 ∨ c.k = 2) (hx : cval c d = some x) : x = hB c ++ pmB c d ∧ (c.k = 2 → d.data.length ≤ 65531) := by
  rcases hk with hk | hk
  · simp only [cval, hk, Option.some.injEq] at hx
    subst hx
    refine ⟨?_, fun e => by omega⟩
    simp only [initB, hB, pmB, List.append_assoc, if_neg (show ¬ c.k = 2 by omega), List.append_nil]
  · simp only [cval, hk] at hx
    split at hx
    · rename_i hd
      cases hx
      refine ⟨?_, fun _ => hd⟩
      simp only [initB, hB, pmB, List.append_assoc, if_pos hk]
    · cases hx
theorem raw12 {H : AHeap} {c : Ck} {d : CD} (ok : COk H c d) (hm : may c d.gaps = true) (hk : c.k = 1 ∨ c.k = 2) (r : List UInt8) : rawP c.k c.f (hB c ++ r) = (pgo c.k (parse false r).2 (parse false r).1 [] [] 0).map fun x => ({ pcOf c d with addrs := x.1, data := x.2 } : PC) := by
  obtain ⟨hs, m1, m2, m3, m4⟩ := may_clean hm
  have l1 := ok.dl
  have l2 := ok.al
  have l3 := ok.gl
  have l4 := ok.ul
  have l5 := ok.cl
  have t1 := ok.tag
  have t2 := ok.rwnd
  have t3 := ok.tsn
  have t4 := ok.out
  have t5 := ok.inn
  clear ok hm
  obtain ⟨k, f, tag, rwnd, tsn, out, inn, sid, ssn, ppid, ⟨_, Dn, _⟩, ⟨_, An, _⟩, ⟨_, Gn, _⟩, ⟨_, Un, _⟩, ⟨_, Cn, _⟩⟩ := c
  obtain ⟨data, addrs, gaps, dups, causes⟩ := d
  simp only at *
  subst l1 l2 l3 l4 l5
  obtain ⟨a1, a2, a3, a4, a5, a6, a7⟩ := head16 tag rwnd out inn tsn r t1 t2 t4 t5 t3
  rcases hk with rfl | rfl
  · simp only [cl, SameB, Ck.none, Sl.nil, true_and, and_true, List.length_eq_zero_iff] at hs
    obtain ⟨rfl, rfl, rfl, rfl, rfl, rfl, rfl, rfl⟩ := hs
    simp only [rawP, hB, List.append_assoc]
    rw [if_pos a7, a1, a2, a3, a4, a5, a6]
    rfl
  · simp only [cl, SameB, Ck.none, Sl.nil, true_and, and_true, List.length_eq_zero_iff] at hs
    obtain ⟨rfl, rfl, rfl, rfl, rfl, rfl, rfl⟩ := hs
    simp only [rawP, hB, List.append_assoc]
    rw [if_pos a7, a1, a2, a3, a4, a5, a6]
    rfl
def pmT (c : Ck) (d : CD) : List Thing := d.addrs.map (fun a => ((5, 0, beB 4 a) : Thing)) ++ (if c.k = 2 then [(7, 0, d.data)] else [])
theorem pm_parse {c : Ck} {d : CD} (hd : c.k = 2 → d.data.length ≤ 65531) (r : List UInt8) : parse false (pmB c d ++ r) = (pmT c d ++ (parse false r).1, (parse false r).2) := by
  have e : pmB c d = tbs false (pmT c d) := by
    unfold pmB pmT
    by_cases h : c.k = 2
    · rw [if_pos h, if_pos h, addrs_tbs]; simp [tbs, tb, pB, hd h]
    · rw [if_neg h, if_neg h, addrs_tbs, List.append_nil, List.append_nil]
  rw [e]
  refine parse_tbs _ (fun x hx => ?_) r
  unfold pmT at hx
  rcases List.mem_append.1 hx with hx | hx
  · exact addrs_puts _ x hx
  · split at hx
    · rename_i h
      simp only [List.mem_singleton] at hx; subst hx
      exact ⟨(by simp), (by simp), (by simp), fun _ => rfl, hd h⟩
    · cases hx
theorem pm_go {H : AHeap} {c : Ck} {d : CD} (ok : COk H c d) (hm : may c d.gaps = true) (hk : c.k = 1 ∨ c.k = 2) (well : Bool) (rest : List Thing) (n : Nat) (hn : n = 0) : pgo c.k well (pmT c d ++ rest) [] [] n = pgo c.k well rest d.addrs d.data (if c.k = 2 then 1 else 0) := by
  obtain ⟨hs, m1, m2, m3, m4⟩ := may_clean hm
  rw [← ok.al] at m1
  rw [← ok.dl] at m4
  have hg := fun r => pgo_addrs c.k well d.addrs ok.ab r [] [] n (by simpa using m1)
  unfold pmT
  rw [List.append_assoc, hg, List.nil_append]
  rcases hk with hk | hk
  · have : d.data = [] := by
      have h : c.D.n = 0 := by
        unfold cl at hs; rw [hk] at hs
        exact hs.2.2.2.2.2.2.2.2.2.1
      exact List.eq_nil_of_length_eq_zero (by rw [ok.dl]; exact h)
    rw [if_neg (by omega), if_neg (by omega), this, hn, List.nil_append]
  · rw [if_pos hk, if_pos hk, hk]
    have : d.data.length ≠ 0 := by omega
    simp [pgo, this, hn]
theorem tk12 {H : AHeap} {c : Ck} {d : CD} (ok : COk H c d) (hm : may c d.gaps = true) (hk : c.k = 1 ∨ c.k = 2) (r : List UInt8) (h : pgo c.k (parse false r).2 (parse false r).1 [] [] 0 = some (d.addrs, d.data)) : tkP c.k c.f (hB c ++ r) = some (pcOf c d) := by
  unfold tkP
  rw [if_neg (by omega), raw12 ok hm hk, h]
  have : ({ pcOf c d with addrs := d.addrs, data := d.data } : PC) = pcOf c d := rfl
  rw [Option.map_some, this, Option.filter_some, mayP_of ok, hm, if_pos rfl]
theorem tk_ahead {H : AHeap} {c : Ck} {d : CD} (ok : COk H c d) (hm : may c d.gaps = true) (hk : c.k = 1 ∨ c.k = 2) (hd : c.k = 2 → d.data.length ≤ 65531) {kind : Nat} {v : List UInt8} (hp : Puts false (kind, 0, v)) (h1 : 32768 ≤ kind) : tkP c.k c.f (hB c ++ (tlvB false kind 0 v ++ pmB c d)) = some (pcOf c d) := by
  refine tk12 ok hm hk _ ?_
  have e := parse_tb hp (pmB c d)
  have e2 := pm_parse (c := c) (d := d) hd []
  rw [List.append_nil, parse_nil, List.append_nil] at e2
  rw [show tlvB false kind 0 v = tb false (kind, 0, v) from rfl, e, e2]
  have g := pm_go ok hm hk true [] 0 rfl
  rw [List.append_nil] at g
  simp only [pgo]
  rw [if_neg (by omega), if_neg (by omega), if_neg (by omega), g]
  rfl
def bareC (c : Ck) : Ck := { c with D := Sl.nil, A := Sl.nil }
def bareD (d : CD) : CD := { d with data := [], addrs := [] }
theorem COk.bare {H : AHeap} {c : Ck} {d : CD} (ok : COk H c d) : COk H (bareC c) (bareD d) := { ok with dl := rfl, dv := Rv.nil, al := rfl, av := Rv.nil, ab := fun x hx => by cases hx }
theorem tk_bare {H : AHeap} {c : Ck} {d : CD} (ok : COk H c d) (hm : may c d.gaps = true) (hk : c.k = 1 ∨ c.k = 2) {kind : Nat} {v : List UInt8} (hp : Puts false (kind, 0, v)) (h5 : kind ≠ 5) (h7 : kind ≠ 7) (h1 : kind < 32768) (r : List UInt8) : tkP c.k c.f (hB c ++ (tlvB false kind 0 v ++ r)) = if c.k = 1 then some (pcOf (bareC c) (bareD d)) else none := by
  have e := parse_tb hp r
  unfold tkP
  rw [if_neg (by omega), raw12 ok hm hk, show tlvB false kind 0 v = tb false (kind, 0, v) from rfl, e]
  simp only [pgo]
  rw [if_neg h5, if_neg h7, if_pos h1]
  have : ({ pcOf c d with addrs := [], data := [] } : PC) = pcOf (bareC c) (bareD d) := rfl
  rw [Option.map_some]
  simp only [this]
  rw [Option.filter_some, mayP_of ok.bare]
  obtain ⟨hs, m1, m2, m3, m4⟩ := may_clean hm
  rcases hk with hk | hk
  · rw [if_pos hk]
    have : may (bareC c) (bareD d).gaps = true := by
      unfold may at hm ⊢
      rw [Bool.and_eq_true] at hm ⊢
      refine ⟨decide_eq_true ⟨?_, ?_, m2, m3, fun e => by have h1 : (bareC c).k = 1 := hk; rcases e.1 with x | x <;> omega⟩, hm.2⟩
      · have ek : (bareC c).k = 1 := hk
        unfold cl at hs ⊢
        rw [hk] at hs
        rw [ek]
        obtain ⟨e1, -, -, -, -, -, e7, e8, e9, -, -, e12, e13, e14⟩ := hs
        exact ⟨e1, rfl, rfl, rfl, rfl, rfl, e7, e8, e9, rfl, rfl, e12, e13, e14⟩
      · show 0 ≤ 3; omega
    rw [this, if_pos rfl]
  · have : may (bareC c) (bareD d).gaps = false := by
      unfold may
      rw [decide_eq_false (fun h => h.2.2.2.2 ⟨.inr hk, rfl⟩)]
      rfl
    rw [this, if_neg (show ¬ c.k = 1 by omega)]
    rfl
theorem tk_behind {H : AHeap} {c : Ck} {d : CD} (ok : COk H c d) (hm : may c d.gaps = true) (hk : c.k = 1 ∨ c.k = 2) (hd : c.k = 2 → d.data.length ≤ 65531) {kind : Nat} {v : List UInt8} (hp : Puts false (kind, 0, v)) (h5 : kind ≠ 5) (h7 : kind ≠ 7) (h1 : kind < 32768) (r : List UInt8) : tkP c.k c.f (hB c ++ (pmB c d ++ (tlvB false kind 0 v ++ r))) = some (pcOf c d) := by
  refine tk12 ok hm hk _ ?_
  rw [pm_parse hd, show tlvB false kind 0 v = tb false (kind, 0, v) from rfl, parse_tb hp r, pm_go ok hm hk _ _ 0 rfl]
  simp only [pgo]
  rw [if_neg h5, if_neg h7, if_pos h1]
end Go.Proofs.Ytmelgnpogdilgaa
namespace Go.Proofs.Ytmelgnpogdilgaa
set_option maxRecDepth 100000
attribute [local irreducible] Go GoR GoL
set_option maxHeartbeats 8000000 in
theorem great_spec (c : Ck) (d : CD) (h : AHeap) (ok : COk h c d) (hD : c.D.n ≤ 140737488355328) (hA : c.A.n ≤ 140737488355328) (hG : c.G.n ≤ 140737488355328) (hU : c.U.n ≤ 140737488355328) (hC : c.C.n ≤ 140737488355328) : CallS Try.prog [] 29 [c.v] h fun v h' => ∃ t : Bool, v = .bool t ∧ (t = false → c.D.n ≤ 100000 ∧ c.C.n ≤ 5000) := by
  unfold Ck.v
  (refine CallS.of1 Try.func29 rfl Try.ntmps29 Try.results29 rfl ?_)
  (iterate 4 (first|refine GoR.end ?_|(refine GoR.gd rfl ?_;first|refine GoR.wanted' rfl rfl rfl rfl (g:=?_)|refine GoR.unwanted' rfl rfl rfl rfl (hd:=rfl) (hN:=rfl) (g:=?_)|refine GoR.unwantedU rfl rfl rfl rfl rfl rfl ?_)|(refine GoR.kk 0 rfl ?_;first|refine GoR.move rfl rfl rfl rfl rfl ?_|refine GoR.assign rfl rfl rfl rfl rfl ?_)|(refine GoR.kk 1 rfl ?_;first|refine GoR.load' rfl rfl rfl rfl rfl (g:=?_)|refine GoR.loadA' rfl rfl rfl rfl rfl (hv:=rfl) (g:=?_)|refine GoR.loadV' rfl rfl rfl rfl rfl (g:=?_)|refine GoR.loadVN' rfl rfl rfl rfl rfl (g:=?_))|(refine GoR.kk 2 rfl ?_;first|refine GoR.store' rfl rfl rfl rfl rfl (hl:=rfl) (h1:=rfl) (h3:=rfl) (g:=?_))|(refine GoR.kk 3 rfl ?_;first|refine GoR.fieldAddr rfl rfl rfl rfl rfl ?_|refine GoR.indexN' rfl rfl rfl rfl rfl rfl (g:=?_)|refine GoR.indexNs' rfl rfl rfl rfl rfl rfl (g:=?_)|refine GoR.indexV' rfl rfl rfl rfl rfl rfl (g:=?_)|refine GoR.indexA' rfl rfl rfl rfl rfl rfl (g:=?_)|refine GoR.fieldV' rfl rfl rfl rfl rfl (g:=?_))|(refine GoR.kk 4 rfl ?_;first|refine GoR.eq rfl rfl rfl rfl rfl rfl ?_|refine GoR.ne rfl rfl rfl rfl rfl rfl ?_|refine GoR.lt rfl rfl rfl rfl rfl rfl ?_|refine GoR.le rfl rfl rfl rfl rfl rfl ?_|refine GoR.gt rfl rfl rfl rfl rfl rfl ?_|refine GoR.ge rfl rfl rfl rfl rfl rfl ?_|refine GoR.addN' rfl rfl rfl rfl rfl rfl (g:=?_)|refine GoR.subN' rfl rfl rfl rfl rfl rfl (g:=?_)|refine GoR.add' rfl rfl rfl rfl rfl rfl (g:=?_)|refine GoR.sub' rfl rfl rfl rfl rfl rfl (g:=?_)|refine GoR.addM' rfl rfl rfl rfl rfl rfl (g:=?_)|refine GoR.subM' rfl rfl rfl rfl rfl rfl (g:=?_)|refine GoR.mulM' rfl rfl rfl rfl rfl rfl (g:=?_)|refine GoR.shrN rfl rfl rfl rfl rfl rfl rfl ?_|refine GoR.structEq rfl rfl rfl rfl rfl rfl (by rfl) (by rfl) ?_|refine GoR.structNe rfl rfl rfl rfl rfl rfl (by rfl) (by rfl) ?_|refine GoR.strEq rfl rfl rfl rfl rfl rfl ?_|refine GoR.strNe rfl rfl rfl rfl rfl rfl ?_|refine GoR.remN' rfl rfl rfl rfl rfl rfl (g:=?_)|refine GoR.quoN' rfl rfl rfl rfl rfl rfl (g:=?_)|refine GoR.shlN' rfl rfl rfl rfl rfl rfl rfl (g:=?_)|refine GoR.orN' rfl rfl rfl rfl rfl rfl (g:=?_))|(refine GoR.kk 5 rfl ?_;first|refine GoR.len rfl rfl rfl rfl rfl ?_|refine GoR.lenStr rfl rfl rfl rfl rfl ?_|refine GoR.capB rfl rfl rfl rfl rfl ?_)|(refine GoR.kk 7 rfl ?_;first|refine GoR.pickE' rfl rfl rfl rfl rfl (hx:=rfl) (hy:=rfl) (g:=?_)|refine GoR.pickN' rfl rfl rfl rfl rfl (hx:=rfl) (hy:=rfl) (g:=?_)|refine GoR.pickB rfl rfl rfl rfl rfl rfl rfl ?_)|(refine GoR.kk 8 rfl ?_;first|refine GoR.boxA rfl rfl rfl rfl rfl ?_|refine GoR.boxS rfl rfl rfl rfl rfl rfl ?_|refine GoR.alloc rfl rfl rfl rfl ?_)|(refine GoR.kk 9 rfl ?_;first|refine GoR.strV' rfl rfl rfl rfl rfl (g:=?_)|refine GoR.conv_u8 rfl rfl rfl rfl rfl ?_|refine GoR.convW' rfl rfl rfl rfl rfl (g:=?_)|refine GoR.conv_u16 rfl rfl rfl rfl rfl ?_|refine GoR.conv_u32 rfl rfl rfl rfl rfl ?_)|(refine GoR.kk 10 rfl ?_;first|refine GoR.build' rfl rfl rfl rfl rfl rfl (g:=?_))|(refine GoR.kk 11 rfl ?_;first|refine GoR.extract rfl rfl rfl rfl rfl rfl ?_|refine GoR.not rfl rfl rfl rfl rfl ?_|refine GoR.nilCheck rfl rfl rfl rfl rfl ?_|refine GoR.nilCheckF rfl rfl rfl rfl rfl ?_|refine GoR.makeFunc rfl rfl rfl rfl rfl rfl ?_)|(refine Go.kk 0 rfl ?_;refine Go.seq ?_)|(refine Go.kk 1 rfl ?_;refine Go.region (by kernel_rfl) rfl ?_)|(refine Go.kk 2 rfl ?_;refine Go.drawnQ rfl (by kernel_rfl) rfl ?_)|(refine Go.kk 3 rfl ?_;first|refine Go.cond_t' rfl (g:=?_)|refine Go.cond_f' rfl (g:=?_))|(refine Go.kk 4 rfl ?_;refine Go.block ?_)|(refine Go.kk 5 rfl ?_;first|refine Go.skip ?_|refine Go.ret ?_|refine Go.exit ?_|refine Go.scope ?_)|refine Go.leave_normal ?_|refine Go.leave_same ?_|refine Go.leave_ret ?_|refine Go.ret_code ?_|refine Go.exit_code ?_|refine Go.leave_other rfl ?_|refine Go.sc_normal ?_|refine Go.sc_ret ?_|refine Go.sc_exit ?_|refine Go.exit_back ?_|refine Go.ret_back ?_))
  refine GoR.name ?_
  intro h3 e3
  have G0 : h3.get h.n = some (.cells c.cs 57) := by
    subst e3
    exact AHeap.get_push_same h _
  have n3 : h3.n = h.n + 1 := by subst e3; rfl
  have S3 : Same h h3 := by subst e3; exact (Same.refl h).push _
  clear e3
  unfold Ck.cs at G0
  (refine Go.run (g:=?_))
  refine Go.loop (α := Nat × Nat) (fun x => [(4, .int .i64 x.1), (3, .int .i64 x.2), (1, .pointer (some ⟨h.n, 0, none⟩))]) (fun _ => []) (fun x => h3)
    (fun x => x.1 ≤ c.C.n ∧ c.D.n / 16 + c.C.n ≤ x.2 ∧ x.2 ≤ 1000000000000000) (fun x => c.C.n - x.1) (0, c.D.n / 16 + c.A.n + c.G.n + c.U.n + c.C.n) ?_ ?_ rfl rfl ?_
  · exact ⟨Nat.zero_le _, by simp only; omega, by simp only; omega⟩
  · exact ⟨rfl, rfl, rfl, trivial⟩
  rintro ⟨i, s⟩ ⟨hi, h1, h2⟩
  simp only at hi h1 h2 ⊢
  have ok3 := ok.same S3
  rcases Nat.lt_or_ge 5000 s with g | g
  · rcases Nat.lt_or_ge i c.C.n with i0 | i0
    all_goals
      (refine Go.run (g:=?_))
      (first|refine Go.finT (by first|exact .inr rfl|exact .inl rfl) rfl ?_|refine Go.fin1 (by first|exact .inr rfl|exact .inl rfl) rfl (hq:=?_))
      exact ⟨true, by simp [retV]; omega, fun e => by cases e⟩
  rcases Nat.lt_or_ge i c.C.n with i0 | i0
  · have i1 : i < d.causes.length := by rw [ok.cl]; exact i0
    have c1 := ccs_1 i1
    obtain ⟨hx1, hx2, -⟩ := ok.cb _ (List.getElem_mem i1)
    have hbe' : i * 2 < (ccs d.causes).length := by rw [ccs_len]; omega
    have hA6 := ok3.cv
    generalize d.causes[i].z.length = xz at *
    generalize d.causes[i].a = xa at *
    generalize d.causes[i].cap = xc at *
    (refine Go.run (g:=?_))
    exact Go.again (i + 1, s + xz / 16) ⟨by simp only; omega, by simp only; omega, by simp only; omega⟩ (by simp only; omega) ⟨rfl, rfl, rfl, trivial⟩ rfl rfl
  · (refine Go.run (g:=?_))
    (first|refine Go.finT (by first|exact .inr rfl|exact .inl rfl) rfl ?_|refine Go.fin1 (by first|exact .inr rfl|exact .inl rfl) rfl (hq:=?_))
    exact ⟨false, by simp [retV]; omega, fun _ => by omega⟩
end Go.Proofs.Ytmelgnpogdilgaa
namespace Go.Proofs.Ytmelgnpogdilgaa
set_option maxRecDepth 100000
attribute [local irreducible] Go GoR GoL
theorem WS.wr {h0 h : AHeap} {zs : List UInt8} {e n : Nat} {b : Option Addr} {cap : Nat} (w : WS h0 h zs e b cap) (hle : n ≤ h0.n) : ∀ i ∈ h0.n :: blk b, i ∈ ([] : List Nat) ∨ n ≤ i := fun i hi => .inr (by
  rcases List.mem_cons.1 hi with rfl | x
  · exact hle
  · have := w.own _ x; omega)
theorem WS.fresh {h0 h : AHeap} {zs : List UInt8} {e : Nat} {b : Option Addr} {cap : Nat} (w : WS h0 h zs e b cap) {la : Option Addr} (o : Own h.n la) : ∀ i ∈ blk la, i ∉ h0.n :: blk b := fun i hi hm => by
  have h1 := o i hi
  have := w.n
  rcases List.mem_cons.1 hm with rfl | x
  · omega
  · have := w.sv.lt _ x; omega
theorem WS.old {h0 h : AHeap} {zs : List UInt8} {e : Nat} {b : Option Addr} {cap : Nat} (w : WS h0 h zs e b cap) {la : Option Addr} (o : ∀ i ∈ blk la, i < h0.n) : ∀ i ∈ blk la, i ∉ h0.n :: blk b := fun i hi hm => by
  have h1 := o i hi
  rcases List.mem_cons.1 hm with rfl | x
  · omega
  · have := w.own _ x; omega
set_option maxHeartbeats 8000000 in
theorem cput_spec (c : Ck) (d : CD) (h : AHeap) (ok : COk h c d) (hD : c.D.n ≤ 1000000000) (hC : c.C.n ≤ 2000000) : CallS Try.prog [] 30 [c.v] h fun v h' => PutR h h' v c d := by
  have hmay := may_spec c ok.f d.gaps ok.gl ok.gb
  unfold PutR
  unfold Ck.v
  (refine CallS.of1 Try.func30 rfl Try.ntmps30 Try.results30 rfl ?_)
  (iterate 4 (first|refine GoR.end ?_|(refine GoR.gd rfl ?_;first|refine GoR.wanted' rfl rfl rfl rfl (g:=?_)|refine GoR.unwanted' rfl rfl rfl rfl (hd:=rfl) (hN:=rfl) (g:=?_)|refine GoR.unwantedU rfl rfl rfl rfl rfl rfl ?_)|(refine GoR.kk 0 rfl ?_;first|refine GoR.move rfl rfl rfl rfl rfl ?_|refine GoR.assign rfl rfl rfl rfl rfl ?_)|(refine GoR.kk 1 rfl ?_;first|refine GoR.load' rfl rfl rfl rfl rfl (g:=?_)|refine GoR.loadA' rfl rfl rfl rfl rfl (hv:=rfl) (g:=?_)|refine GoR.loadV' rfl rfl rfl rfl rfl (g:=?_)|refine GoR.loadVN' rfl rfl rfl rfl rfl (g:=?_))|(refine GoR.kk 2 rfl ?_;first|refine GoR.store' rfl rfl rfl rfl rfl (hl:=rfl) (h1:=rfl) (h3:=rfl) (g:=?_))|(refine GoR.kk 3 rfl ?_;first|refine GoR.fieldAddr rfl rfl rfl rfl rfl ?_|refine GoR.indexN' rfl rfl rfl rfl rfl rfl (g:=?_)|refine GoR.indexNs' rfl rfl rfl rfl rfl rfl (g:=?_)|refine GoR.indexV' rfl rfl rfl rfl rfl rfl (g:=?_)|refine GoR.indexA' rfl rfl rfl rfl rfl rfl (g:=?_)|refine GoR.fieldV' rfl rfl rfl rfl rfl (g:=?_))|(refine GoR.kk 4 rfl ?_;first|refine GoR.eq rfl rfl rfl rfl rfl rfl ?_|refine GoR.ne rfl rfl rfl rfl rfl rfl ?_|refine GoR.lt rfl rfl rfl rfl rfl rfl ?_|refine GoR.le rfl rfl rfl rfl rfl rfl ?_|refine GoR.gt rfl rfl rfl rfl rfl rfl ?_|refine GoR.ge rfl rfl rfl rfl rfl rfl ?_|refine GoR.addN' rfl rfl rfl rfl rfl rfl (g:=?_)|refine GoR.subN' rfl rfl rfl rfl rfl rfl (g:=?_)|refine GoR.add' rfl rfl rfl rfl rfl rfl (g:=?_)|refine GoR.sub' rfl rfl rfl rfl rfl rfl (g:=?_)|refine GoR.addM' rfl rfl rfl rfl rfl rfl (g:=?_)|refine GoR.subM' rfl rfl rfl rfl rfl rfl (g:=?_)|refine GoR.mulM' rfl rfl rfl rfl rfl rfl (g:=?_)|refine GoR.shrN rfl rfl rfl rfl rfl rfl rfl ?_|refine GoR.structEq rfl rfl rfl rfl rfl rfl (by rfl) (by rfl) ?_|refine GoR.structNe rfl rfl rfl rfl rfl rfl (by rfl) (by rfl) ?_|refine GoR.strEq rfl rfl rfl rfl rfl rfl ?_|refine GoR.strNe rfl rfl rfl rfl rfl rfl ?_|refine GoR.remN' rfl rfl rfl rfl rfl rfl (g:=?_)|refine GoR.quoN' rfl rfl rfl rfl rfl rfl (g:=?_)|refine GoR.shlN' rfl rfl rfl rfl rfl rfl rfl (g:=?_)|refine GoR.orN' rfl rfl rfl rfl rfl rfl (g:=?_))|(refine GoR.kk 5 rfl ?_;first|refine GoR.len rfl rfl rfl rfl rfl ?_|refine GoR.lenStr rfl rfl rfl rfl rfl ?_|refine GoR.capB rfl rfl rfl rfl rfl ?_)|(refine GoR.kk 7 rfl ?_;first|refine GoR.pickE' rfl rfl rfl rfl rfl (hx:=rfl) (hy:=rfl) (g:=?_)|refine GoR.pickN' rfl rfl rfl rfl rfl (hx:=rfl) (hy:=rfl) (g:=?_)|refine GoR.pickB rfl rfl rfl rfl rfl rfl rfl ?_)|(refine GoR.kk 8 rfl ?_;first|refine GoR.boxA rfl rfl rfl rfl rfl ?_|refine GoR.boxS rfl rfl rfl rfl rfl rfl ?_|refine GoR.alloc rfl rfl rfl rfl ?_)|(refine GoR.kk 9 rfl ?_;first|refine GoR.strV' rfl rfl rfl rfl rfl (g:=?_)|refine GoR.conv_u8 rfl rfl rfl rfl rfl ?_|refine GoR.convW' rfl rfl rfl rfl rfl (g:=?_)|refine GoR.conv_u16 rfl rfl rfl rfl rfl ?_|refine GoR.conv_u32 rfl rfl rfl rfl rfl ?_)|(refine GoR.kk 10 rfl ?_;first|refine GoR.build' rfl rfl rfl rfl rfl rfl (g:=?_))|(refine GoR.kk 11 rfl ?_;first|refine GoR.extract rfl rfl rfl rfl rfl rfl ?_|refine GoR.not rfl rfl rfl rfl rfl ?_|refine GoR.nilCheck rfl rfl rfl rfl rfl ?_|refine GoR.nilCheckF rfl rfl rfl rfl rfl ?_|refine GoR.makeFunc rfl rfl rfl rfl rfl rfl ?_)|(refine Go.kk 0 rfl ?_;refine Go.seq ?_)|(refine Go.kk 1 rfl ?_;refine Go.region (by kernel_rfl) rfl ?_)|(refine Go.kk 2 rfl ?_;refine Go.drawnQ rfl (by kernel_rfl) rfl ?_)|(refine Go.kk 3 rfl ?_;first|refine Go.cond_t' rfl (g:=?_)|refine Go.cond_f' rfl (g:=?_))|(refine Go.kk 4 rfl ?_;refine Go.block ?_)|(refine Go.kk 5 rfl ?_;first|refine Go.skip ?_|refine Go.ret ?_|refine Go.exit ?_|refine Go.scope ?_)|refine Go.leave_normal ?_|refine Go.leave_same ?_|refine Go.leave_ret ?_|refine Go.ret_code ?_|refine Go.exit_code ?_|refine Go.leave_other rfl ?_|refine Go.sc_normal ?_|refine Go.sc_ret ?_|refine Go.sc_exit ?_|refine Go.exit_back ?_|refine Go.ret_back ?_))
  refine GoR.name ?_
  intro h3 e3
  have G0 : h3.get h.n = some (.cells c.cs 57) := by
    subst e3
    exact AHeap.get_push_same h _
  have n3 : h3.n = h.n + 1 := by subst e3; rfl
  have S3 : Same h h3 := by subst e3; exact (Same.refl h).push _
  clear e3
  unfold Ck.cs at G0
  (refine Go.run (g:=?_))
  have hmay3 := hmay h3 (ok.gv.same S3)
  clear hmay
  cases hm : may c d.gaps
  · rw [hm] at hmay3
    simp only [Bool.false_eq_true, if_false]
    refine GoR.call rfl rfl rfl rfl rfl rfl rfl (((hmay3).args (by first | rfl | (simp; fail_if_success focus skip) | (simp; omega) | (congr 2; omega))).mono ?_)
    rintro _ h4 rfl s4
    (refine Go.run (g:=?_))
    (first|refine Go.finT (by first|exact .inr rfl|exact .inl rfl) rfl ?_|refine Go.fin1 (by first|exact .inr rfl|exact .inl rfl) rfl (hq:=?_))
    rfl
  rw [hm] at hmay3
  simp only [if_true]
  have hmf : MayF c := by
    unfold may at hm
    simp only [Bool.and_eq_true, decide_eq_true_eq] at hm
    exact hm.1
  refine GoR.call rfl rfl rfl rfl rfl rfl rfl (((hmay3).args (by first | rfl | (simp; fail_if_success focus skip) | (simp; omega) | (congr 2; omega))).mono ?_)
  rintro _ h4 rfl s4
  (have nn := (s4).1; try simp only [AHeap.n_push, AHeap.n_put] at nn)
  have ok4 := (ok.same S3).same s4
  have S4 := S3.trans s4
  have G4 := s4.get G0
  clear s4 S3 G0 hmay3
  (iterate 16 (first|refine GoR.end ?_|(refine GoR.gd rfl ?_;first|refine GoR.wanted' rfl rfl rfl rfl (g:=?_)|refine GoR.unwanted' rfl rfl rfl rfl (hd:=rfl) (hN:=rfl) (g:=?_)|refine GoR.unwantedU rfl rfl rfl rfl rfl rfl ?_)|(refine GoR.kk 0 rfl ?_;first|refine GoR.move rfl rfl rfl rfl rfl ?_|refine GoR.assign rfl rfl rfl rfl rfl ?_)|(refine GoR.kk 1 rfl ?_;first|refine GoR.load' rfl rfl rfl rfl rfl (g:=?_)|refine GoR.loadA' rfl rfl rfl rfl rfl (hv:=rfl) (g:=?_)|refine GoR.loadV' rfl rfl rfl rfl rfl (g:=?_)|refine GoR.loadVN' rfl rfl rfl rfl rfl (g:=?_))|(refine GoR.kk 2 rfl ?_;first|refine GoR.store' rfl rfl rfl rfl rfl (hl:=rfl) (h1:=rfl) (h3:=rfl) (g:=?_))|(refine GoR.kk 3 rfl ?_;first|refine GoR.fieldAddr rfl rfl rfl rfl rfl ?_|refine GoR.indexN' rfl rfl rfl rfl rfl rfl (g:=?_)|refine GoR.indexNs' rfl rfl rfl rfl rfl rfl (g:=?_)|refine GoR.indexV' rfl rfl rfl rfl rfl rfl (g:=?_)|refine GoR.indexA' rfl rfl rfl rfl rfl rfl (g:=?_)|refine GoR.fieldV' rfl rfl rfl rfl rfl (g:=?_))|(refine GoR.kk 4 rfl ?_;first|refine GoR.eq rfl rfl rfl rfl rfl rfl ?_|refine GoR.ne rfl rfl rfl rfl rfl rfl ?_|refine GoR.lt rfl rfl rfl rfl rfl rfl ?_|refine GoR.le rfl rfl rfl rfl rfl rfl ?_|refine GoR.gt rfl rfl rfl rfl rfl rfl ?_|refine GoR.ge rfl rfl rfl rfl rfl rfl ?_|refine GoR.addN' rfl rfl rfl rfl rfl rfl (g:=?_)|refine GoR.subN' rfl rfl rfl rfl rfl rfl (g:=?_)|refine GoR.add' rfl rfl rfl rfl rfl rfl (g:=?_)|refine GoR.sub' rfl rfl rfl rfl rfl rfl (g:=?_)|refine GoR.addM' rfl rfl rfl rfl rfl rfl (g:=?_)|refine GoR.subM' rfl rfl rfl rfl rfl rfl (g:=?_)|refine GoR.mulM' rfl rfl rfl rfl rfl rfl (g:=?_)|refine GoR.shrN rfl rfl rfl rfl rfl rfl rfl ?_|refine GoR.structEq rfl rfl rfl rfl rfl rfl (by rfl) (by rfl) ?_|refine GoR.structNe rfl rfl rfl rfl rfl rfl (by rfl) (by rfl) ?_|refine GoR.strEq rfl rfl rfl rfl rfl rfl ?_|refine GoR.strNe rfl rfl rfl rfl rfl rfl ?_|refine GoR.remN' rfl rfl rfl rfl rfl rfl (g:=?_)|refine GoR.quoN' rfl rfl rfl rfl rfl rfl (g:=?_)|refine GoR.shlN' rfl rfl rfl rfl rfl rfl rfl (g:=?_)|refine GoR.orN' rfl rfl rfl rfl rfl rfl (g:=?_))|(refine GoR.kk 5 rfl ?_;first|refine GoR.len rfl rfl rfl rfl rfl ?_|refine GoR.lenStr rfl rfl rfl rfl rfl ?_|refine GoR.capB rfl rfl rfl rfl rfl ?_)|(refine GoR.kk 7 rfl ?_;first|refine GoR.pickE' rfl rfl rfl rfl rfl (hx:=rfl) (hy:=rfl) (g:=?_)|refine GoR.pickN' rfl rfl rfl rfl rfl (hx:=rfl) (hy:=rfl) (g:=?_)|refine GoR.pickB rfl rfl rfl rfl rfl rfl rfl ?_)|(refine GoR.kk 8 rfl ?_;first|refine GoR.boxA rfl rfl rfl rfl rfl ?_|refine GoR.boxS rfl rfl rfl rfl rfl rfl ?_|refine GoR.alloc rfl rfl rfl rfl ?_)|(refine GoR.kk 9 rfl ?_;first|refine GoR.strV' rfl rfl rfl rfl rfl (g:=?_)|refine GoR.conv_u8 rfl rfl rfl rfl rfl ?_|refine GoR.convW' rfl rfl rfl rfl rfl (g:=?_)|refine GoR.conv_u16 rfl rfl rfl rfl rfl ?_|refine GoR.conv_u32 rfl rfl rfl rfl rfl ?_)|(refine GoR.kk 10 rfl ?_;first|refine GoR.build' rfl rfl rfl rfl rfl rfl (g:=?_))|(refine GoR.kk 11 rfl ?_;first|refine GoR.extract rfl rfl rfl rfl rfl rfl ?_|refine GoR.not rfl rfl rfl rfl rfl ?_|refine GoR.nilCheck rfl rfl rfl rfl rfl ?_|refine GoR.nilCheckF rfl rfl rfl rfl rfl ?_|refine GoR.makeFunc rfl rfl rfl rfl rfl rfl ?_)|(refine Go.kk 0 rfl ?_;refine Go.seq ?_)|(refine Go.kk 1 rfl ?_;refine Go.region (by kernel_rfl) rfl ?_)|(refine Go.kk 2 rfl ?_;refine Go.drawnQ rfl (by kernel_rfl) rfl ?_)|(refine Go.kk 3 rfl ?_;first|refine Go.cond_t' rfl (g:=?_)|refine Go.cond_f' rfl (g:=?_))|(refine Go.kk 4 rfl ?_;refine Go.block ?_)|(refine Go.kk 5 rfl ?_;first|refine Go.skip ?_|refine Go.ret ?_|refine Go.exit ?_|refine Go.scope ?_)|refine Go.leave_normal ?_|refine Go.leave_same ?_|refine Go.leave_ret ?_|refine Go.ret_code ?_|refine Go.exit_code ?_|refine Go.leave_other rfl ?_|refine Go.sc_normal ?_|refine Go.sc_ret ?_|refine Go.sc_exit ?_|refine Go.exit_back ?_|refine Go.ret_back ?_))
  refine Go.name ?_
  intro h5 e5
  have w0 : WS h4 h5 [] 0 none 0 := by
    subst e5
    exact ⟨(Same.refl h4).push _, by simp, AHeap.get_push_same h4 _, .nil, Own.nil _⟩
  clear e5
  have nn0 := w0.n
  have G5 := w0.same.get G4
  have tsn := ok.tsn
  have tag := ok.tag
  have rwnd := ok.rwnd
  have ppid := ok.ppid
  have hout := ok.out
  have hinn := ok.inn
  have hsid := ok.sid
  have hssn := ok.ssn
  have hm4 := S4.1
  obtain ⟨-, mA, mG, mU, -⟩ := hmf
  refine Go.join1 (α := Option Addr × Nat × AHeap × List UInt8 × Nat) (fun x => [(1, .pointer (some ⟨h.n, 0, none⟩)), (4, .pointer (some ⟨h4.n, 0, none⟩))]) (fun _ => []) (fun x => x.2.2.1)
    (fun x => WS h4 x.2.2.1 x.2.2.2.1 x.2.2.2.2 x.1 x.2.1 ∧ x.2.2.2.1.length ≤ 140737488355328 ∧ ((x.2.2.2.2 = 0 ∧ cval c d = some x.2.2.2.1) ∨ (x.2.2.2.2 = 3 ∧ cval c d = none))) ?_ ?_
  · rcases (show c.k = 0 ∨ c.k = 1 ∨ c.k = 2 ∨ c.k = 3 ∨ c.k = 6 ∨ c.k = 9 ∨ c.k = 7 ∨ (c.k ≠ 0 ∧ c.k ≠ 1 ∧ c.k ≠ 2 ∧ c.k ≠ 3 ∧ c.k ≠ 6 ∧ c.k ≠ 9 ∧ c.k ≠ 7) by omega) with hk | hk | hk | hk | hk | hk | hk | ⟨k0, k1, k2, k3, k6, k9, k7⟩
    · have hcv : cval c d = some (beB 4 c.tsn ++ beB 2 c.sid ++ beB 2 c.ssn ++ beB 4 c.ppid ++ d.data) := by unfold cval; rw [hk]; rfl
      (refine Go.run (g:=?_))
      refine GoR.buildRo (c := w32s [c.tsn]) rfl rfl rfl rfl rfl (by decide) (by rfl) (by rfl) ?_
      intro bl1 hl1 hbl1 rbl1 obl1 sl1 nl1
      (refine Go.run (g:=?_))
      refine GoR.callW rfl rfl rfl rfl rfl rfl rfl (((wu32_spec _ _ _ _ _ _ (w0.to sl1) [c.tsn] (by simp; omega) (by simp [beB_length, be4s_len, be2s_len]) bl1 1 hbl1 (w0.fresh obl1)).args (by first | rfl | (simp; fail_if_success focus skip) | (simp; omega) | (congr 2; omega))).mono ?_)
      rintro _ hh1 ⟨bb1, cc1, w1, -⟩ -
      refine ⟨w0.wr (by omega), ?_⟩
      have nn1 := w1.n
      have G1 := w1.same.get G4
      (refine Go.run (g:=?_))
      refine GoR.buildRo (c := w16s [c.sid, c.ssn]) rfl rfl rfl rfl rfl (by decide) (by rfl) (by rfl) ?_
      intro bl2 hl2 hbl2 rbl2 obl2 sl2 nl2
      (refine Go.run (g:=?_))
      refine GoR.callW rfl rfl rfl rfl rfl rfl rfl (((wu16_spec _ _ _ _ _ _ (w1.to sl2) [c.sid, c.ssn] (by simp; omega) (by simp [beB_length, be4s_len, be2s_len]) bl2 2 hbl2 (w1.fresh obl2)).args (by first | rfl | (simp; fail_if_success focus skip) | (simp; omega) | (congr 2; omega))).mono ?_)
      rintro _ hh2 ⟨bb2, cc2, w2, -⟩ -
      refine ⟨w1.wr (by omega), ?_⟩
      have nn2 := w2.n
      have G2 := w2.same.get G4
      (refine Go.run (g:=?_))
      refine GoR.buildRo (c := w32s [c.ppid]) rfl rfl rfl rfl rfl (by decide) (by rfl) (by rfl) ?_
      intro bl3 hl3 hbl3 rbl3 obl3 sl3 nl3
      (refine Go.run (g:=?_))
      refine GoR.callW rfl rfl rfl rfl rfl rfl rfl (((wu32_spec _ _ _ _ _ _ (w2.to sl3) [c.ppid] (by simp; omega) (by simp [beB_length, be4s_len, be2s_len]) bl3 1 hbl3 (w2.fresh obl3)).args (by first | rfl | (simp; fail_if_success focus skip) | (simp; omega) | (congr 2; omega))).mono ?_)
      rintro _ hh3 ⟨bb3, cc3, w3, -⟩ -
      refine ⟨w2.wr (by omega), ?_⟩
      have nn3 := w3.n
      have G3 := w3.same.get G4
      (refine Go.run (g:=?_))
      refine Go.loud (by kernel_rfl) rfl ?_
      have gw4 := w3.w
      (refine Go.runL (g:=?_))
      refine GoL.appendV rfl rfl rfl rfl rfl rfl w3.sv (ok4.dv.same w3.same) (fun i hi => w3.wr (n := h.n) (by omega) i (List.mem_cons_of_mem _ hi)) (by simp [beB_length, be4s_len, be2s_len]; omega) (by simp [beB_length, be4s_len, be2s_len]; omega) (by simp [bv, Value.oneCell']) ?_
      intro bb4 cc4 hh4 rd wr hwr hrd hs4 k4 o4
      have nk4 := k4.1
      have g4 := k4.get gw4 (fun hi => by have := w3.own _ hi; omega)
      (refine Go.runL (g:=?_))
      refine GoL.store' rfl rfl rfl rfl rfl (hl:=rfl) (h1:=rfl) (h3:=rfl) (g:=?_)
      refine GoL.end_ (hl := by (simp only [List.nil_append, List.cons_append]); repeat (first | exact loudP.nil | refine loudP.none ?_ | refine loudP.new (fun _ hb => absurd hb List.not_mem_nil) ?_ | refine loudP.row (by repeat (first | exact loudRowP.nil | refine loudRowP.none ?_ | refine loudRowP.bef (by decide +kernel) ?_)) ?_)) ?_
      have w4 := w3.append (Same.refl _) hs4 k4 o4 (by rw [ok.dl])
      (refine Go.run (g:=?_))
      exact Go.joined (bb4, cc4, _, _, 0) ⟨w4, by simp only [List.length_append]; simp [beB_length, be4s_len, be2s_len]; have := ok.dl; omega, .inl ⟨rfl, by rw [hcv]; simp [be4s, be2s]⟩⟩ ⟨rfl, rfl, trivial⟩ rfl rfl
    · (refine Go.run (g:=?_))
      refine GoR.buildRo (c := w32s [c.tag, c.rwnd]) rfl rfl rfl rfl rfl (by decide) (by rfl) (by rfl) ?_
      intro bl1 hl1 hbl1 rbl1 obl1 sl1 nl1
      (refine Go.run (g:=?_))
      refine GoR.callW rfl rfl rfl rfl rfl rfl rfl (((wu32_spec _ _ _ _ _ _ (w0.to sl1) [c.tag, c.rwnd] (by simp; omega) (by simp [beB_length, be4s_len, be2s_len]) bl1 2 hbl1 (w0.fresh obl1)).args (by first | rfl | (simp; fail_if_success focus skip) | (simp; omega) | (congr 2; omega))).mono ?_)
      rintro _ hh1 ⟨bb1, cc1, w1, -⟩ -
      refine ⟨w0.wr (by omega), ?_⟩
      have nn1 := w1.n
      have G1 := w1.same.get G4
      (refine Go.run (g:=?_))
      refine GoR.buildRo (c := w16s [c.out, c.inn]) rfl rfl rfl rfl rfl (by decide) (by rfl) (by rfl) ?_
      intro bl2 hl2 hbl2 rbl2 obl2 sl2 nl2
      (refine Go.run (g:=?_))
      refine GoR.callW rfl rfl rfl rfl rfl rfl rfl (((wu16_spec _ _ _ _ _ _ (w1.to sl2) [c.out, c.inn] (by simp; omega) (by simp [beB_length, be4s_len, be2s_len]) bl2 2 hbl2 (w1.fresh obl2)).args (by first | rfl | (simp; fail_if_success focus skip) | (simp; omega) | (congr 2; omega))).mono ?_)
      rintro _ hh2 ⟨bb2, cc2, w2, -⟩ -
      refine ⟨w1.wr (by omega), ?_⟩
      have nn2 := w2.n
      have G2 := w2.same.get G4
      (refine Go.run (g:=?_))
      refine GoR.buildRo (c := w32s [c.tsn]) rfl rfl rfl rfl rfl (by decide) (by rfl) (by rfl) ?_
      intro bl3 hl3 hbl3 rbl3 obl3 sl3 nl3
      (refine Go.run (g:=?_))
      refine GoR.callW rfl rfl rfl rfl rfl rfl rfl (((wu32_spec _ _ _ _ _ _ (w2.to sl3) [c.tsn] (by simp; omega) (by simp [beB_length, be4s_len, be2s_len]) bl3 1 hbl3 (w2.fresh obl3)).args (by first | rfl | (simp; fail_if_success focus skip) | (simp; omega) | (congr 2; omega))).mono ?_)
      rintro _ hh3 ⟨bb3, cc3, w3, -⟩ -
      refine ⟨w2.wr (by omega), ?_⟩
      have nn3 := w3.n
      have G3 := w3.same.get G4
      have hz3 : ([] ++ be4s [c.tag, c.rwnd] ++ be2s [c.out, c.inn] ++ be4s [c.tsn]) = beB 4 c.tag ++ beB 4 c.rwnd ++ beB 2 c.out ++ beB 2 c.inn ++ beB 4 c.tsn := by simp [be4s, be2s]
      rw [hz3] at w3
      have hz3l : (beB 4 c.tag ++ beB 4 c.rwnd ++ beB 2 c.out ++ beB 2 c.inn ++ beB 4 c.tsn).length = 16 := by simp [beB_length]
      have hib : initB c d = (beB 4 c.tag ++ beB 4 c.rwnd ++ beB 2 c.out ++ beB 2 c.inn ++ beB 4 c.tsn) ++ addrsB d.addrs := rfl
      generalize (beB 4 c.tag ++ beB 4 c.rwnd ++ beB 2 c.out ++ beB 2 c.inn ++ beB 4 c.tsn) = hdr at w3 hz3l hib
      (refine Go.run (g:=?_))
      refine Go.loop (α := Nat × Option Addr × Nat × AHeap) (fun x => [(83, .int .i64 x.1), (82, .int .i64 c.A.n), (81, .slice c.A.a c.A.n c.A.cap), (1, .pointer (some ⟨h.n, 0, none⟩)), (4, .pointer (some ⟨h4.n, 0, none⟩))]) (fun _ => []) (fun x => x.2.2.2)
        (fun x => x.1 ≤ c.A.n ∧ WS h4 x.2.2.2 (hdr ++ addrsB (d.addrs.take x.1)) 0 x.2.1 x.2.2.1) (fun x => c.A.n - x.1) (0, bb3, cc3, hh3) ?_ ?_ rfl rfl ?_
      · exact ⟨Nat.zero_le _, by simpa [addrsB] using w3⟩
      · exact ⟨rfl, rfl, rfl, rfl, rfl, trivial⟩
      clear w0 w1 w2 w3 G1 G2 G3 G5
      rintro ⟨i, b6, c6, h6⟩ ⟨hi, w6⟩
      simp only at hi w6 ⊢
      have nn6 := w6.n
      have G6 := w6.same.get G4
      rcases Nat.lt_or_ge i c.A.n with i0 | i0
      · have i1 : i < d.addrs.length := by rw [ok.al]; exact i0
        have c0 := w32s_get i1
        have hx := ok.ab _ (List.getElem_mem i1)
        have hbe : i < (w32s d.addrs).length := by rw [w32s_len]; exact i1
        have hA6 := ok4.av.same w6.same
        have e1 : addrsB (d.addrs.take (i + 1)) = addrsB (d.addrs.take i) ++ pB 5 (beB 4 d.addrs[i]) := by
          unfold addrsB
          rw [flat_snoc _ i1, show pB 5 (beB 4 d.addrs[i]) = tlvB false 5 0 (beB 4 d.addrs[i]) from by unfold pB; rw [if_pos (by rw [beB_length]; decide)]]
        have hl6 : (hdr ++ addrsB (d.addrs.take i)).length ≤ 1000 := by rw [List.length_append, addrsB_len, hz3l, List.length_take]; omega
        generalize d.addrs[i] = x at *
        (refine Go.run (g:=?_))
        refine GoR.name ?_
        intro h7 e7
        have w7 : WS h6 h7 [] 0 none 0 := by
          subst e7
          exact ⟨(Same.refl h6).push _, by simp, AHeap.get_push_same h6 _, .nil, Own.nil _⟩
        clear e7
        have nn7 := w7.n
        (refine Go.run (g:=?_))
        refine GoR.buildRo (c := w32s [x]) rfl rfl rfl rfl rfl (by decide) (by rfl) (by rfl) ?_
        intro bl8 hl8 hbl8 rbl8 obl8 sl8 nl8
        (refine Go.run (g:=?_))
        refine GoR.callW rfl rfl rfl rfl rfl rfl rfl (((wu32_spec _ _ _ _ _ _ (w7.to sl8) [x] (by simp; omega) (by simp [beB_length, be4s_len, be2s_len]) bl8 1 hbl8 (w7.fresh obl8)).args (by first | rfl | (simp; fail_if_success focus skip) | (simp; omega) | (congr 2; omega))).mono ?_)
        rintro _ hh8 ⟨bb8, cc8, w8, -⟩ -
        refine ⟨w7.wr (by omega), ?_⟩
        have nn8 := w8.n
        have gv8 := w8.w
        have hv8 := w8.sv
        have hb8 : [] ++ be4s [x] = beB 4 x := by simp [be4s]
        rw [hb8] at gv8 hv8
        have gw8 := (w6.to w8.same).w
        (refine Go.run (g:=?_))
        refine GoR.callW rfl rfl rfl rfl rfl rfl rfl (((wparam_spec _ _ _ _ _ _ (w6.to w8.same) 5 (by decide) (beB 4 x) (by rw [beB_length]; decide) (by omega) _ _ (Sv.rv hv8)).args (by first | rfl | (simp; fail_if_success focus skip) | (simp; omega) | (congr 2; omega))).mono ?_)
        rintro _ hh9 ⟨bb9, cc9, w9, -⟩ -
        refine ⟨(w6.to w8.same).wr (by omega), ?_⟩
        rw [if_pos (by rw [beB_length]; decide)] at w9
        have nn9 := w9.n
        (refine Go.run (g:=?_))
        exact Go.again (i + 1, bb9, cc9, hh9) ⟨by simp only; omega, by simp only; rw [e1, ← List.append_assoc]; exact w9⟩ (by simp only; omega) ⟨rfl, rfl, rfl, rfl, rfl, trivial⟩ rfl rfl
      have hie : i = c.A.n := by omega
      subst hie
      rw [← ok.al, List.take_length, ← hib] at w6
      have hil : (initB c d).length = 16 + c.A.n * 8 := by rw [hib, List.length_append, addrsB_len, hz3l, ok.al]
      have hcv : cval c d = some (initB c d) := by unfold cval; rw [hk]; rfl
      (refine Go.run (g:=?_))
      exact Go.joined (b6, c6, _, _, 0) ⟨w6, by show (initB c d).length ≤ _; omega, .inl ⟨rfl, hcv⟩⟩ ⟨rfl, rfl, trivial⟩ rfl rfl
    · (refine Go.run (g:=?_))
      refine GoR.buildRo (c := w32s [c.tag, c.rwnd]) rfl rfl rfl rfl rfl (by decide) (by rfl) (by rfl) ?_
      intro bl1 hl1 hbl1 rbl1 obl1 sl1 nl1
      (refine Go.run (g:=?_))
      refine GoR.callW rfl rfl rfl rfl rfl rfl rfl (((wu32_spec _ _ _ _ _ _ (w0.to sl1) [c.tag, c.rwnd] (by simp; omega) (by simp [beB_length, be4s_len, be2s_len]) bl1 2 hbl1 (w0.fresh obl1)).args (by first | rfl | (simp; fail_if_success focus skip) | (simp; omega) | (congr 2; omega))).mono ?_)
      rintro _ hh1 ⟨bb1, cc1, w1, -⟩ -
      refine ⟨w0.wr (by omega), ?_⟩
      have nn1 := w1.n
      have G1 := w1.same.get G4
      (refine Go.run (g:=?_))
      refine GoR.buildRo (c := w16s [c.out, c.inn]) rfl rfl rfl rfl rfl (by decide) (by rfl) (by rfl) ?_
      intro bl2 hl2 hbl2 rbl2 obl2 sl2 nl2
      (refine Go.run (g:=?_))
      refine GoR.callW rfl rfl rfl rfl rfl rfl rfl (((wu16_spec _ _ _ _ _ _ (w1.to sl2) [c.out, c.inn] (by simp; omega) (by simp [beB_length, be4s_len, be2s_len]) bl2 2 hbl2 (w1.fresh obl2)).args (by first | rfl | (simp; fail_if_success focus skip) | (simp; omega) | (congr 2; omega))).mono ?_)
      rintro _ hh2 ⟨bb2, cc2, w2, -⟩ -
      refine ⟨w1.wr (by omega), ?_⟩
      have nn2 := w2.n
      have G2 := w2.same.get G4
      (refine Go.run (g:=?_))
      refine GoR.buildRo (c := w32s [c.tsn]) rfl rfl rfl rfl rfl (by decide) (by rfl) (by rfl) ?_
      intro bl3 hl3 hbl3 rbl3 obl3 sl3 nl3
      (refine Go.run (g:=?_))
      refine GoR.callW rfl rfl rfl rfl rfl rfl rfl (((wu32_spec _ _ _ _ _ _ (w2.to sl3) [c.tsn] (by simp; omega) (by simp [beB_length, be4s_len, be2s_len]) bl3 1 hbl3 (w2.fresh obl3)).args (by first | rfl | (simp; fail_if_success focus skip) | (simp; omega) | (congr 2; omega))).mono ?_)
      rintro _ hh3 ⟨bb3, cc3, w3, -⟩ -
      refine ⟨w2.wr (by omega), ?_⟩
      have nn3 := w3.n
      have G3 := w3.same.get G4
      have hz3 : ([] ++ be4s [c.tag, c.rwnd] ++ be2s [c.out, c.inn] ++ be4s [c.tsn]) = beB 4 c.tag ++ beB 4 c.rwnd ++ beB 2 c.out ++ beB 2 c.inn ++ beB 4 c.tsn := by simp [be4s, be2s]
      rw [hz3] at w3
      have hz3l : (beB 4 c.tag ++ beB 4 c.rwnd ++ beB 2 c.out ++ beB 2 c.inn ++ beB 4 c.tsn).length = 16 := by simp [beB_length]
      have hib : initB c d = (beB 4 c.tag ++ beB 4 c.rwnd ++ beB 2 c.out ++ beB 2 c.inn ++ beB 4 c.tsn) ++ addrsB d.addrs := rfl
      generalize (beB 4 c.tag ++ beB 4 c.rwnd ++ beB 2 c.out ++ beB 2 c.inn ++ beB 4 c.tsn) = hdr at w3 hz3l hib
      (refine Go.run (g:=?_))
      refine Go.loop (α := Nat × Option Addr × Nat × AHeap) (fun x => [(83, .int .i64 x.1), (82, .int .i64 c.A.n), (81, .slice c.A.a c.A.n c.A.cap), (1, .pointer (some ⟨h.n, 0, none⟩)), (4, .pointer (some ⟨h4.n, 0, none⟩))]) (fun _ => []) (fun x => x.2.2.2)
        (fun x => x.1 ≤ c.A.n ∧ WS h4 x.2.2.2 (hdr ++ addrsB (d.addrs.take x.1)) 0 x.2.1 x.2.2.1) (fun x => c.A.n - x.1) (0, bb3, cc3, hh3) ?_ ?_ rfl rfl ?_
      · exact ⟨Nat.zero_le _, by simpa [addrsB] using w3⟩
      · exact ⟨rfl, rfl, rfl, rfl, rfl, trivial⟩
      clear w0 w1 w2 w3 G1 G2 G3 G5
      rintro ⟨i, b6, c6, h6⟩ ⟨hi, w6⟩
      simp only at hi w6 ⊢
      have nn6 := w6.n
      have G6 := w6.same.get G4
      rcases Nat.lt_or_ge i c.A.n with i0 | i0
      · have i1 : i < d.addrs.length := by rw [ok.al]; exact i0
        have c0 := w32s_get i1
        have hx := ok.ab _ (List.getElem_mem i1)
        have hbe : i < (w32s d.addrs).length := by rw [w32s_len]; exact i1
        have hA6 := ok4.av.same w6.same
        have e1 : addrsB (d.addrs.take (i + 1)) = addrsB (d.addrs.take i) ++ pB 5 (beB 4 d.addrs[i]) := by
          unfold addrsB
          rw [flat_snoc _ i1, show pB 5 (beB 4 d.addrs[i]) = tlvB false 5 0 (beB 4 d.addrs[i]) from by unfold pB; rw [if_pos (by rw [beB_length]; decide)]]
        have hl6 : (hdr ++ addrsB (d.addrs.take i)).length ≤ 1000 := by rw [List.length_append, addrsB_len, hz3l, List.length_take]; omega
        generalize d.addrs[i] = x at *
        (refine Go.run (g:=?_))
        refine GoR.name ?_
        intro h7 e7
        have w7 : WS h6 h7 [] 0 none 0 := by
          subst e7
          exact ⟨(Same.refl h6).push _, by simp, AHeap.get_push_same h6 _, .nil, Own.nil _⟩
        clear e7
        have nn7 := w7.n
        (refine Go.run (g:=?_))
        refine GoR.buildRo (c := w32s [x]) rfl rfl rfl rfl rfl (by decide) (by rfl) (by rfl) ?_
        intro bl8 hl8 hbl8 rbl8 obl8 sl8 nl8
        (refine Go.run (g:=?_))
        refine GoR.callW rfl rfl rfl rfl rfl rfl rfl (((wu32_spec _ _ _ _ _ _ (w7.to sl8) [x] (by simp; omega) (by simp [beB_length, be4s_len, be2s_len]) bl8 1 hbl8 (w7.fresh obl8)).args (by first | rfl | (simp; fail_if_success focus skip) | (simp; omega) | (congr 2; omega))).mono ?_)
        rintro _ hh8 ⟨bb8, cc8, w8, -⟩ -
        refine ⟨w7.wr (by omega), ?_⟩
        have nn8 := w8.n
        have gv8 := w8.w
        have hv8 := w8.sv
        have hb8 : [] ++ be4s [x] = beB 4 x := by simp [be4s]
        rw [hb8] at gv8 hv8
        have gw8 := (w6.to w8.same).w
        (refine Go.run (g:=?_))
        refine GoR.callW rfl rfl rfl rfl rfl rfl rfl (((wparam_spec _ _ _ _ _ _ (w6.to w8.same) 5 (by decide) (beB 4 x) (by rw [beB_length]; decide) (by omega) _ _ (Sv.rv hv8)).args (by first | rfl | (simp; fail_if_success focus skip) | (simp; omega) | (congr 2; omega))).mono ?_)
        rintro _ hh9 ⟨bb9, cc9, w9, -⟩ -
        refine ⟨(w6.to w8.same).wr (by omega), ?_⟩
        rw [if_pos (by rw [beB_length]; decide)] at w9
        have nn9 := w9.n
        (refine Go.run (g:=?_))
        exact Go.again (i + 1, bb9, cc9, hh9) ⟨by simp only; omega, by simp only; rw [e1, ← List.append_assoc]; exact w9⟩ (by simp only; omega) ⟨rfl, rfl, rfl, rfl, rfl, trivial⟩ rfl rfl
      have hie : i = c.A.n := by omega
      subst hie
      rw [← ok.al, List.take_length, ← hib] at w6
      have hil : (initB c d).length = 16 + c.A.n * 8 := by rw [hib, List.length_append, addrsB_len, hz3l, ok.al]
      (refine Go.run (g:=?_))
      refine GoR.callW rfl rfl rfl rfl rfl rfl rfl (((wparam_spec _ _ _ _ _ _ w6 7 (by decide) d.data (by rw [ok.dl]; omega) (by omega) c.D.a c.D.cap (by rw [ok.dl]; exact ok4.dv.same w6.same)).args (by first | (rw [ok.dl]; done) | (rw [ok.dl]; rfl))).mono ?_)
      rintro _ hh9 ⟨bb9, cc9, w9, -⟩ -
      refine ⟨w6.wr (by omega), ?_⟩
      have hpl := pB_le 7 d.data
      rcases Nat.lt_or_ge 65531 d.data.length with g | g
      · rw [if_neg (by omega)] at w9
        have hcv : cval c d = none := by unfold cval; rw [hk]; exact if_neg (by omega)
        (refine Go.run (g:=?_))
        exact Go.joined (bb9, cc9, _, _, 3) ⟨w9, by simp only [List.length_append]; omega, .inr ⟨rfl, hcv⟩⟩ ⟨rfl, rfl, trivial⟩ rfl rfl
      · rw [if_pos g] at w9
        have hcv : cval c d = some (initB c d ++ pB 7 d.data) := by unfold cval; rw [hk]; exact if_pos g
        (refine Go.run (g:=?_))
        exact Go.joined (bb9, cc9, _, _, 0) ⟨w9, by simp only [List.length_append]; omega, .inl ⟨rfl, hcv⟩⟩ ⟨rfl, rfl, trivial⟩ rfl rfl
    · (refine Go.run (g:=?_))
      refine GoR.buildRo (c := w32s [c.tsn, c.rwnd]) rfl rfl rfl rfl rfl (by decide) (by rfl) (by rfl) ?_
      intro bl1 hl1 hbl1 rbl1 obl1 sl1 nl1
      (refine Go.run (g:=?_))
      refine GoR.callW rfl rfl rfl rfl rfl rfl rfl (((wu32_spec _ _ _ _ _ _ (w0.to sl1) [c.tsn, c.rwnd] (by simp; omega) (by simp [beB_length, be4s_len, be2s_len]) bl1 2 hbl1 (w0.fresh obl1)).args (by first | rfl | (simp; fail_if_success focus skip) | (simp; omega) | (congr 2; omega))).mono ?_)
      rintro _ hh1 ⟨bb1, cc1, w1, -⟩ -
      refine ⟨w0.wr (by omega), ?_⟩
      have nn1 := w1.n
      have G1 := w1.same.get G4
      (refine Go.run (g:=?_))
      refine GoR.buildRo (c := w16s [c.G.n, c.U.n]) rfl rfl rfl rfl rfl (by decide) (by rfl) (by rfl) ?_
      intro bl2 hl2 hbl2 rbl2 obl2 sl2 nl2
      (refine Go.run (g:=?_))
      refine GoR.callW rfl rfl rfl rfl rfl rfl rfl (((wu16_spec _ _ _ _ _ _ (w1.to sl2) [c.G.n, c.U.n] (by simp; omega) (by simp [beB_length, be4s_len, be2s_len]) bl2 2 hbl2 (w1.fresh obl2)).args (by first | rfl | (simp; fail_if_success focus skip) | (simp; omega) | (congr 2; omega))).mono ?_)
      rintro _ hh2 ⟨bb2, cc2, w2, -⟩ -
      refine ⟨w1.wr (by omega), ?_⟩
      have nn2 := w2.n
      have G2 := w2.same.get G4
      have hz2 : ([] ++ be4s [c.tsn, c.rwnd] ++ be2s [c.G.n, c.U.n]) = beB 4 c.tsn ++ beB 4 c.rwnd ++ beB 2 c.G.n ++ beB 2 c.U.n := by simp [be4s, be2s]
      rw [hz2] at w2
      have hz2l : (beB 4 c.tsn ++ beB 4 c.rwnd ++ beB 2 c.G.n ++ beB 2 c.U.n).length = 12 := by simp [beB_length]
      have hcv : cval c d = some (beB 4 c.tsn ++ beB 4 c.rwnd ++ beB 2 c.G.n ++ beB 2 c.U.n ++ gapsBy d.gaps ++ be4s d.dups) := by unfold cval; rw [hk]; rfl
      generalize (beB 4 c.tsn ++ beB 4 c.rwnd ++ beB 2 c.G.n ++ beB 2 c.U.n) = hdr at w2 hz2l hcv
      (refine Go.run (g:=?_))
      refine Go.loop (α := Nat × Option Addr × Nat × AHeap) (fun x => [(130, .int .i64 x.1), (129, .int .i64 c.G.n), (128, .slice c.G.a c.G.n c.G.cap), (1, .pointer (some ⟨h.n, 0, none⟩)), (4, .pointer (some ⟨h4.n, 0, none⟩))]) (fun _ => []) (fun x => x.2.2.2)
        (fun x => x.1 ≤ c.G.n ∧ WS h4 x.2.2.2 (hdr ++ gapsBy (d.gaps.take x.1)) 0 x.2.1 x.2.2.1) (fun x => c.G.n - x.1) (0, bb2, cc2, hh2) ?_ ?_ rfl rfl ?_
      · exact ⟨Nat.zero_le _, by simpa [gapsBy] using w2⟩
      · exact ⟨rfl, rfl, rfl, rfl, rfl, trivial⟩
      clear w0 w1 w2 G1 G2 G5
      rintro ⟨i, b6, c6, h6⟩ ⟨hi, w6⟩
      simp only at hi w6 ⊢
      have nn6 := w6.n
      have G6 := w6.same.get G4
      rcases Nat.lt_or_ge i c.G.n with i0 | i0
      · have i1 : i < d.gaps.length := by rw [ok.gl]; exact i0
        have c0 := gcs_get i1
        have hx := ok.gb _ (List.getElem_mem i1)
        have hbe : i * 2 + 2 ≤ (gcs d.gaps).length := by rw [gcs_len]; omega
        have hA6 := ok4.gv.same w6.same
        have e1 : gapsBy (d.gaps.take (i + 1)) = gapsBy (d.gaps.take i) ++ be2s [d.gaps[i].1, d.gaps[i].2] := by
          unfold gapsBy
          rw [flat_snoc _ i1]
          simp [be2s]
        have hl6 : (hdr ++ gapsBy (d.gaps.take i)).length ≤ 1000 := by rw [List.length_append, gapsBy_len, hz2l, List.length_take]; omega
        generalize d.gaps[i].1 = gs1 at *
        generalize d.gaps[i].2 = gs2 at *
        (refine Go.run (g:=?_))
        refine GoR.name ?_
        intro h7 e7
        have s7 : Same h6 h7 := by subst e7; exact ((Same.refl h6).push _).put (Nat.le_refl _) _
        have nn7 := s7.1
        clear e7
        have w7 := w6.to s7
        refine GoR.buildRo (c := w16s [gs1, gs2]) rfl rfl rfl rfl rfl (by decide) (by rfl) (by rfl) ?_
        intro bl8 hl8 hbl8 rbl8 obl8 sl8 nl8
        (refine Go.run (g:=?_))
        refine GoR.callW rfl rfl rfl rfl rfl rfl rfl (((wu16_spec _ _ _ _ _ _ (w7.to sl8) [gs1, gs2] (by simp; omega) (by have := hl6; simp only [List.length_append] at this; simp; omega) bl8 2 hbl8 (w7.fresh obl8)).args (by first | rfl | (simp; fail_if_success focus skip) | (simp; omega) | (congr 2; omega))).mono ?_)
        rintro _ hh8 ⟨bb8, cc8, w8, -⟩ -
        refine ⟨w7.wr (by omega), ?_⟩
        have nn8 := w8.n
        (refine Go.run (g:=?_))
        exact Go.again (i + 1, bb8, cc8, hh8) ⟨by simp only; omega, by simp only; rw [e1, ← List.append_assoc]; exact w8⟩ (by simp only; omega) ⟨rfl, rfl, rfl, rfl, rfl, trivial⟩ rfl rfl
      have hie : i = c.G.n := by omega
      subst hie
      rw [← ok.gl, List.take_length] at w6
      have hil : (hdr ++ gapsBy d.gaps).length = 12 + c.G.n * 4 := by rw [List.length_append, gapsBy_len, hz2l, ok.gl]
      (refine Go.run (g:=?_))
      refine GoR.callW rfl rfl rfl rfl rfl rfl rfl (((wu32_spec _ _ _ _ _ _ w6 d.dups ok.ub (by rw [ok.ul]; omega) c.U.a c.U.cap (by rw [ok.ul]; exact ok4.uv.same w6.same) (w6.old ok4.uv.lt)).args (by first | (rw [ok.ul]; done) | (rw [ok.ul]; rfl))).mono ?_)
      rintro _ hh9 ⟨bb9, cc9, w9, -⟩ -
      refine ⟨w6.wr (by omega), ?_⟩
      have hul := be4s_len d.dups
      have hull := ok.ul
      (refine Go.run (g:=?_))
      exact Go.joined (bb9, cc9, _, _, 0) ⟨w9, by simp only [List.length_append]; rw [List.length_append] at hil; omega, .inl ⟨rfl, hcv⟩⟩ ⟨rfl, rfl, trivial⟩ rfl rfl
    · (refine Go.run (g:=?_))
      refine Go.loop (α := Nat × Option Addr × Nat × AHeap × Nat) (fun x => [(152, .int .i64 x.1), (151, .int .i64 c.C.n), (150, .slice c.C.a c.C.n c.C.cap), (1, .pointer (some ⟨h.n, 0, none⟩)), (4, .pointer (some ⟨h4.n, 0, none⟩))]) (fun _ => []) (fun x => x.2.2.2.1)
        (fun x => x.1 ≤ c.C.n ∧ WS h4 x.2.2.2.1 (causesB (d.causes.take x.1)) x.2.2.2.2 x.2.1 x.2.2.1 ∧ x.2.2.2.2 = if allShort (d.causes.take x.1) = true then 0 else 3) (fun x => c.C.n - x.1) (0, none, 0, h5, 0) ?_ ?_ rfl rfl ?_
      · exact ⟨Nat.zero_le _, by simpa [causesB] using w0, rfl⟩
      · exact ⟨rfl, rfl, rfl, rfl, rfl, trivial⟩
      clear w0 G5
      rintro ⟨i, b6, c6, h6, e6⟩ ⟨hi, w6, he⟩
      simp only at hi w6 he ⊢
      have nn6 := w6.n
      have G6 := w6.same.get G4
      rcases Nat.lt_or_ge i c.C.n with i0 | i0
      · have i1 : i < d.causes.length := by rw [ok.cl]; exact i0
        have c0 := ccs_get i1
        obtain ⟨hx1, hx2, -⟩ := ok.cb _ (List.getElem_mem i1)
        obtain ⟨-, -, hx3⟩ := ok4.cb _ (List.getElem_mem i1)
        have hbe : i * 2 + 2 ≤ (ccs d.causes).length := by rw [ccs_len]; omega
        have hA6 := ok4.cv.same w6.same
        have e1 : causesB (d.causes.take (i + 1)) = causesB (d.causes.take i) ++ pB d.causes[i].k d.causes[i].z := by
          unfold causesB
          rw [flat_snoc _ i1]
        have e2 : (if d.causes[i].z.length ≤ 65531 then e6 else 3) = if allShort (d.causes.take (i + 1)) = true then 0 else 3 := by
          rw [he, allShort_snoc i1]
          by_cases g2 : d.causes[i].z.length ≤ 65531
          · rw [if_pos g2, decide_eq_true g2, Bool.and_true]
          · rw [if_neg g2, decide_eq_false g2, Bool.and_false]; rfl
        have hl6 : (causesB (d.causes.take i)).length ≤ 1000000000000 := by
          have := causesB_len (d.causes.take i)
          rw [List.length_take] at this
          omega
        generalize d.causes[i].k = xk at *
        generalize d.causes[i].z = xz at *
        generalize d.causes[i].a = xa at *
        generalize d.causes[i].cap = xc at *
        (refine Go.run (g:=?_))
        refine GoR.name ?_
        intro h7 e7
        have s7 : Same h6 h7 := by subst e7; exact ((Same.refl h6).push _).put (Nat.le_refl _) _
        have nn7 := s7.1
        clear e7
        have w7 := w6.to s7
        refine GoR.callW rfl rfl rfl rfl rfl rfl rfl (((wparam_spec _ _ _ _ _ _ w7 xk hx1 xz hx2 (by omega) xa xc (hx3.same w7.same)).args (by first | rfl | (simp; fail_if_success focus skip) | (simp; omega) | (congr 2; omega))).mono ?_)
        rintro _ hh9 ⟨bb9, cc9, w9, -⟩ -
        refine ⟨w7.wr (by omega), ?_⟩
        have nn9 := w9.n
        (refine Go.run (g:=?_))
        exact Go.again (i + 1, bb9, cc9, hh9, _) ⟨by simp only; omega, by simp only; rw [e1]; exact w9, e2⟩ (by simp only; omega) ⟨rfl, rfl, rfl, rfl, rfl, trivial⟩ rfl rfl
      have hie : i = c.C.n := by omega
      subst hie
      rw [← ok.cl, List.take_length] at w6 he
      have hil := causesB_len d.causes
      have hcl := ok.cl
      have hcv : cval c d = if allShort d.causes = true then some (causesB d.causes) else none := by unfold cval; rw [hk]; rfl
      by_cases g : allShort d.causes = true
      · rw [if_pos g] at he hcv
        subst he
        (refine Go.run (g:=?_))
        exact Go.joined (b6, c6, _, _, 0) ⟨w6, by show (causesB d.causes).length ≤ _; omega, .inl ⟨rfl, hcv⟩⟩ ⟨rfl, rfl, trivial⟩ rfl rfl
      · rw [if_neg g] at he hcv
        subst he
        (refine Go.run (g:=?_))
        exact Go.joined (b6, c6, _, _, 3) ⟨w6, by show (causesB d.causes).length ≤ _; omega, .inr ⟨rfl, hcv⟩⟩ ⟨rfl, rfl, trivial⟩ rfl rfl
    · (refine Go.run (g:=?_))
      refine Go.loop (α := Nat × Option Addr × Nat × AHeap × Nat) (fun x => [(152, .int .i64 x.1), (151, .int .i64 c.C.n), (150, .slice c.C.a c.C.n c.C.cap), (1, .pointer (some ⟨h.n, 0, none⟩)), (4, .pointer (some ⟨h4.n, 0, none⟩))]) (fun _ => []) (fun x => x.2.2.2.1)
        (fun x => x.1 ≤ c.C.n ∧ WS h4 x.2.2.2.1 (causesB (d.causes.take x.1)) x.2.2.2.2 x.2.1 x.2.2.1 ∧ x.2.2.2.2 = if allShort (d.causes.take x.1) = true then 0 else 3) (fun x => c.C.n - x.1) (0, none, 0, h5, 0) ?_ ?_ rfl rfl ?_
      · exact ⟨Nat.zero_le _, by simpa [causesB] using w0, rfl⟩
      · exact ⟨rfl, rfl, rfl, rfl, rfl, trivial⟩
      clear w0 G5
      rintro ⟨i, b6, c6, h6, e6⟩ ⟨hi, w6, he⟩
      simp only at hi w6 he ⊢
      have nn6 := w6.n
      have G6 := w6.same.get G4
      rcases Nat.lt_or_ge i c.C.n with i0 | i0
      · have i1 : i < d.causes.length := by rw [ok.cl]; exact i0
        have c0 := ccs_get i1
        obtain ⟨hx1, hx2, -⟩ := ok.cb _ (List.getElem_mem i1)
        obtain ⟨-, -, hx3⟩ := ok4.cb _ (List.getElem_mem i1)
        have hbe : i * 2 + 2 ≤ (ccs d.causes).length := by rw [ccs_len]; omega
        have hA6 := ok4.cv.same w6.same
        have e1 : causesB (d.causes.take (i + 1)) = causesB (d.causes.take i) ++ pB d.causes[i].k d.causes[i].z := by
          unfold causesB
          rw [flat_snoc _ i1]
        have e2 : (if d.causes[i].z.length ≤ 65531 then e6 else 3) = if allShort (d.causes.take (i + 1)) = true then 0 else 3 := by
          rw [he, allShort_snoc i1]
          by_cases g2 : d.causes[i].z.length ≤ 65531
          · rw [if_pos g2, decide_eq_true g2, Bool.and_true]
          · rw [if_neg g2, decide_eq_false g2, Bool.and_false]; rfl
        have hl6 : (causesB (d.causes.take i)).length ≤ 1000000000000 := by
          have := causesB_len (d.causes.take i)
          rw [List.length_take] at this
          omega
        generalize d.causes[i].k = xk at *
        generalize d.causes[i].z = xz at *
        generalize d.causes[i].a = xa at *
        generalize d.causes[i].cap = xc at *
        (refine Go.run (g:=?_))
        refine GoR.name ?_
        intro h7 e7
        have s7 : Same h6 h7 := by subst e7; exact ((Same.refl h6).push _).put (Nat.le_refl _) _
        have nn7 := s7.1
        clear e7
        have w7 := w6.to s7
        refine GoR.callW rfl rfl rfl rfl rfl rfl rfl (((wparam_spec _ _ _ _ _ _ w7 xk hx1 xz hx2 (by omega) xa xc (hx3.same w7.same)).args (by first | rfl | (simp; fail_if_success focus skip) | (simp; omega) | (congr 2; omega))).mono ?_)
        rintro _ hh9 ⟨bb9, cc9, w9, -⟩ -
        refine ⟨w7.wr (by omega), ?_⟩
        have nn9 := w9.n
        (refine Go.run (g:=?_))
        exact Go.again (i + 1, bb9, cc9, hh9, _) ⟨by simp only; omega, by simp only; rw [e1]; exact w9, e2⟩ (by simp only; omega) ⟨rfl, rfl, rfl, rfl, rfl, trivial⟩ rfl rfl
      have hie : i = c.C.n := by omega
      subst hie
      rw [← ok.cl, List.take_length] at w6 he
      have hil := causesB_len d.causes
      have hcl := ok.cl
      have hcv : cval c d = if allShort d.causes = true then some (causesB d.causes) else none := by unfold cval; rw [hk]; rfl
      by_cases g : allShort d.causes = true
      · rw [if_pos g] at he hcv
        subst he
        (refine Go.run (g:=?_))
        exact Go.joined (b6, c6, _, _, 0) ⟨w6, by show (causesB d.causes).length ≤ _; omega, .inl ⟨rfl, hcv⟩⟩ ⟨rfl, rfl, trivial⟩ rfl rfl
      · rw [if_neg g] at he hcv
        subst he
        (refine Go.run (g:=?_))
        exact Go.joined (b6, c6, _, _, 3) ⟨w6, by show (causesB d.causes).length ≤ _; omega, .inr ⟨rfl, hcv⟩⟩ ⟨rfl, rfl, trivial⟩ rfl rfl
    · have hcv : cval c d = some (beB 4 c.tsn) := by unfold cval; rw [hk]; rfl
      (refine Go.run (g:=?_))
      refine GoR.buildRo (c := w32s [c.tsn]) rfl rfl rfl rfl rfl (by decide) (by rfl) (by rfl) ?_
      intro bl1 hl1 hbl1 rbl1 obl1 sl1 nl1
      (refine Go.run (g:=?_))
      refine GoR.callW rfl rfl rfl rfl rfl rfl rfl (((wu32_spec _ _ _ _ _ _ (w0.to sl1) [c.tsn] (by simp; omega) (by simp [beB_length, be4s_len, be2s_len]) bl1 1 hbl1 (w0.fresh obl1)).args (by first | rfl | (simp; fail_if_success focus skip) | (simp; omega) | (congr 2; omega))).mono ?_)
      rintro _ hh1 ⟨bb1, cc1, w1, -⟩ -
      refine ⟨w0.wr (by omega), ?_⟩
      have nn1 := w1.n
      have G1 := w1.same.get G4
      (refine Go.run (g:=?_))
      exact Go.joined (bb1, cc1, _, _, 0) ⟨w1, by simp [beB_length, be4s_len, be2s_len], .inl ⟨rfl, by rw [hcv]; simp [be4s]⟩⟩ ⟨rfl, rfl, trivial⟩ rfl rfl
    · have hcv : cval c d = some d.data := by
        unfold cval
        split <;> first | rfl | omega
      (refine Go.run (g:=?_))
      refine Go.loud (by kernel_rfl) rfl ?_
      have gw1 := w0.w
      (refine Go.runL (g:=?_))
      refine GoL.appendV rfl rfl rfl rfl rfl rfl w0.sv (ok4.dv.same w0.same) (fun i hi => w0.wr (n := h.n) (by omega) i (List.mem_cons_of_mem _ hi)) (by simp [beB_length, be4s_len, be2s_len]; omega) (by simp [beB_length, be4s_len, be2s_len]; omega) (by simp [bv, Value.oneCell']) ?_
      intro bb1 cc1 hh1 rd wr hwr hrd hs1 k1 o1
      have nk1 := k1.1
      have g1 := k1.get gw1 (fun hi => by have := w0.own _ hi; omega)
      (refine Go.runL (g:=?_))
      refine GoL.store' rfl rfl rfl rfl rfl (hl:=rfl) (h1:=rfl) (h3:=rfl) (g:=?_)
      refine GoL.end_ (hl := by (simp only [List.nil_append, List.cons_append]); repeat (first | exact loudP.nil | refine loudP.none ?_ | refine loudP.new (fun _ hb => absurd hb List.not_mem_nil) ?_ | refine loudP.row (by repeat (first | exact loudRowP.nil | refine loudRowP.none ?_ | refine loudRowP.bef (by decide +kernel) ?_)) ?_)) ?_
      simp only [List.length_nil, Nat.zero_add] at hs1
      have w1 := w0.append (Same.refl _) hs1 k1 o1 (by rw [ok.dl]; simp)
      (refine Go.run (g:=?_))
      exact Go.joined (bb1, cc1, _, _, 0) ⟨w1, by have := ok.dl; simp; omega, .inl ⟨rfl, by rw [hcv]; simp⟩⟩ ⟨rfl, rfl, trivial⟩ rfl rfl
  rintro ⟨b6, c6, h6, x, e⟩ ⟨w6, hx, hv⟩
  simp only at w6 hx hv ⊢
  have gw6 := w6.w
  have G6 := w6.same.get G4
  have nn6 := w6.n
  have hkk := ok.k
  have hff := ok.f
  rcases hv with ⟨rfl, hcv⟩ | ⟨rfl, hcv⟩
  · rw [hcv]
    simp only [PutV]
    rcases Nat.lt_or_ge 65531 x.length with g | g
    · simp only [if_neg (show ¬ x.length ≤ 65531 by omega)]
      (refine Go.run (g:=?_))
      refine GoR.call rfl rfl rfl rfl rfl rfl rfl (((wput_err3 true c.k c.f b6 x.length c6 hx (fun _ => by omega) (by simp) g _).args (by first | rfl | (simp; fail_if_success focus skip) | (simp; omega) | (congr 2; omega))).mono ?_)
      rintro _ h7 rfl s7
      (refine Go.run (g:=?_))
      (first|refine Go.finT (by first|exact .inr rfl|exact .inl rfl) rfl ?_|refine Go.fin1 (by first|exact .inr rfl|exact .inl rfl) rfl (hq:=?_))
      rfl
    · simp only [if_pos g]
      (refine Go.run (g:=?_))
      refine GoR.call rfl rfl rfl rfl rfl rfl rfl (((put_ok true c.k c.f b6 c6 (fun _ => by omega) (by simp) hff x g _ (Sv.rv w6.sv)).args (by first | rfl | (simp; fail_if_success focus skip) | (simp; omega) | (congr 2; omega))).mono ?_)
      rintro _ h7 ⟨b7, rfl, hb7, ob7⟩ s7
      (refine Go.run (g:=?_))
      (first|refine Go.finT (by first|exact .inr rfl|exact .inl rfl) rfl ?_|refine Go.fin1 (by first|exact .inr rfl|exact .inl rfl) rfl (hq:=?_))
      exact ⟨b7, _, rfl, hb7, ob7.mono (by omega)⟩
  · rw [hcv]
    simp only [PutV]
    (refine Go.run (g:=?_))
    (first|refine Go.finT (by first|exact .inr rfl|exact .inl rfl) rfl ?_|refine Go.fin1 (by first|exact .inr rfl|exact .inl rfl) rfl (hq:=?_))
    rfl
end Go.Proofs.Ytmelgnpogdilgaa
namespace Go.Proofs.Ytmelgnpogdilgaa
set_option maxRecDepth 100000
attribute [local irreducible] Go GoR GoL
theorem aEq_nil {P : Program} {h : AHeap} {t e : TypeId} (hu : P.underlying t = some (.slice e)) (a : Option Addr) (len cap : Nat) : aEq P h t (.slice a len cap) (.slice none 0 0) = some (a.isNone, []) := by
  unfold aEq
  rw [hu]
  cases a <;> rfl
theorem bytesU : Try.prog.underlying 23 = some (.slice 5) := by kernel_rfl
theorem clone_spec (a : Option Addr) (cap : Nat) (zs : List UInt8) (hl : zs.length ≤ 1000000000) (h : AHeap) (hz : Rv Try.prog h 1 a zs.length cap (zs.map bv)) : CallS Try.prog [] 45 [.slice a zs.length cap] h fun v h' => OwnS h h' v zs := by
  have hone : (zs.map bv).all Value.oneCell' = true := by simp [bv, Value.oneCell']
  generalize hlen : zs.length = len at *
  cases a with
  | none =>
    obtain ⟨rfl, rfl⟩ : len = 0 ∧ cap = 0 := by
      generalize zs.map bv = cs at hz
      cases hz
      exact ⟨rfl, rfl⟩
    obtain rfl : zs = [] := List.eq_nil_of_length_eq_zero hlen
    (refine CallS.of1 Try.func45 rfl Try.ntmps45 Try.results45 rfl ?_)
    (refine Go.run (g:=?_))
    refine GoR.eqRef rfl rfl rfl rfl (.inl rfl) rfl rfl (aEq_nil bytesU _ _ _) ?_
    (refine Go.run (g:=?_))
    (first|refine Go.finT (by first|exact .inr rfl|exact .inl rfl) rfl ?_|refine Go.fin1 (by first|exact .inr rfl|exact .inl rfl) rfl (hq:=?_))
    exact ⟨none, 0, rfl, .nil, Own.nil _⟩
  | some a =>
    (refine CallS.of1 Try.func45 rfl Try.ntmps45 Try.results45 rfl ?_)
    (refine Go.run (g:=?_))
    refine GoR.eqRef rfl rfl rfl rfl (.inl rfl) rfl rfl (aEq_nil bytesU _ _ _) ?_
    (refine Go.run (g:=?_))
    refine GoR.buildO (c := []) rfl rfl rfl rfl rfl (by decide) (by rfl) (by rfl) ?_
    intro b h1 hb ob s1 n1
    (refine Go.run (g:=?_))
    refine GoR.appendV rfl rfl rfl rfl rfl rfl hb (hz.same s1) (Own.ok ob (by omega)) (by omega) (by omega) hone ?_
    intro b2 c2 h2 hb2 k2 o2
    (refine Go.run (g:=?_))
    (first|refine Go.finT (by first|exact .inr rfl|exact .inl rfl) rfl ?_|refine Go.fin1 (by first|exact .inr rfl|exact .inl rfl) rfl (hq:=?_))
    subst hlen
    rw [Nat.zero_add] at hb2 ⊢
    exact ⟨b2, c2, rfl, hb2, ob.app (by omega) o2⟩
end Go.Proofs.Ytmelgnpogdilgaa