/- What the law leans on, part 6. No conditions. -/
import Derived.Test.YtccbmmnkiihkaaaProg
import Derived.KernelRfl
import Derived.Sort.AssemblyPlain
import Derived.Sort.LotD5
import Derived.Test.YtccbmmnkiihkaaaInboxTellsPart5
set_option linter.unusedVariables false
set_option linter.unusedSimpArgs false
namespace Go.Proofs.Ytccbmmnkiihkaaa
instance : CT Try.prog 3 none := ⟨by kernel_rfl⟩
instance : SZ Try.prog 3 1 := ⟨by kernel_rfl⟩
theorem un3 : Try.prog.underlying 3 = some (.int .i64) := by kernel_rfl
instance : CT Try.prog 4 none := ⟨by kernel_rfl⟩
instance : SZ Try.prog 4 1 := ⟨by kernel_rfl⟩
instance : CT Try.prog 5 none := ⟨by kernel_rfl⟩
instance : SZ Try.prog 5 1 := ⟨by kernel_rfl⟩
instance : CT Try.prog 22 none := ⟨by kernel_rfl⟩
instance : SZ Try.prog 22 1 := ⟨by kernel_rfl⟩
theorem un22 : Try.prog.underlying 22 = some (.int .u16) := by kernel_rfl
instance : CT Try.prog 23 none := ⟨by kernel_rfl⟩
instance : SZ Try.prog 23 1 := ⟨by kernel_rfl⟩
theorem un23 : Try.prog.underlying 23 = some (.int .u32) := by kernel_rfl
instance : CT Try.prog 27 none := ⟨by kernel_rfl⟩
instance : SZ Try.prog 27 1 := ⟨by kernel_rfl⟩
instance : AL Try.prog 27 [.pointer none] := ⟨by kernel_rfl⟩
instance : CT Try.prog 31 none := ⟨by kernel_rfl⟩
instance : SZ Try.prog 31 1 := ⟨by kernel_rfl⟩
instance : UN Try.prog 31 (.slice 5) := ⟨by kernel_rfl⟩
instance : BS Try.prog 31 5 1 (.int .u8 0) := .of (by kernel_rfl) (by kernel_rfl) (by kernel_rfl) (by kernel_rfl) (by kernel_rfl)
instance : AP Try.prog 31 31 5 1 1 := .of (inf := Try.t5) (z := .int .u8 0) (e₂ := 5) (by kernel_rfl) (by kernel_rfl) (by kernel_rfl) (by kernel_rfl) (by kernel_rfl) (by kernel_rfl) (by decide) (by kernel_rfl) (by kernel_rfl)
instance : CT Try.prog 33 (some 6) := ⟨by kernel_rfl⟩
instance : SZ Try.prog 33 6 := ⟨by kernel_rfl⟩
instance : FO Try.prog 33 0 0 := ⟨by kernel_rfl⟩
instance : FO Try.prog 33 1 1 := ⟨by kernel_rfl⟩
instance : FO Try.prog 33 2 2 := ⟨by kernel_rfl⟩
instance : FO Try.prog 33 3 3 := ⟨by kernel_rfl⟩
instance : FO Try.prog 33 4 4 := ⟨by kernel_rfl⟩
instance : FO Try.prog 33 5 5 := ⟨by kernel_rfl⟩
instance : ST Try.prog 33 [.int .u32 0, .int .u8 0, .int .u16 0, .int .u16 0, .int .u32 0, .slice none 0 0] [(0, 1), (1, 1), (2, 1), (3, 1), (4, 1), (5, 1)] := .of (z := .agg #[.int .u32 0, .int .u8 0, .int .u16 0, .int .u16 0, .int .u32 0, .slice none 0 0]) (fs := (match Try.prog.underlying 33 with | some (.struct fs) => fs | _ => #[])) (by kernel_rfl) (by kernel_rfl) (by kernel_rfl) (by kernel_rfl) (by kernel_rfl)
instance : AL Try.prog 33 [.int .u32 0, .int .u8 0, .int .u16 0, .int .u16 0, .int .u32 0, .slice none 0 0] := ⟨by kernel_rfl⟩
instance : CT Try.prog 39 (some 4) := ⟨by kernel_rfl⟩
instance : SZ Try.prog 39 4 := ⟨by kernel_rfl⟩
instance : FO Try.prog 39 0 0 := ⟨by kernel_rfl⟩
instance : FO Try.prog 39 1 1 := ⟨by kernel_rfl⟩
instance : FO Try.prog 39 2 2 := ⟨by kernel_rfl⟩
instance : FO Try.prog 39 3 3 := ⟨by kernel_rfl⟩
instance : ST Try.prog 39 [.int .u16 0, .bool false, .int .u32 0, .slice none 0 0] [(0, 1), (1, 1), (2, 1), (3, 1)] := .of (z := .agg #[.int .u16 0, .bool false, .int .u32 0, .slice none 0 0]) (fs := (match Try.prog.underlying 39 with | some (.struct fs) => fs | _ => #[])) (by kernel_rfl) (by kernel_rfl) (by kernel_rfl) (by kernel_rfl) (by kernel_rfl)
instance : AL Try.prog 39 [.int .u16 0, .bool false, .int .u32 0, .slice none 0 0] := ⟨by kernel_rfl⟩
instance : CT Try.prog 43 none := ⟨by kernel_rfl⟩
instance : SZ Try.prog 43 1 := ⟨by kernel_rfl⟩
instance : UN Try.prog 43 (.slice 23) := ⟨by kernel_rfl⟩
instance : BS Try.prog 43 23 1 (.int .u32 0) := .of (by kernel_rfl) (by kernel_rfl) (by kernel_rfl) (by kernel_rfl) (by kernel_rfl)
instance : AP Try.prog 43 43 23 1 4 := .of (inf := Try.t23) (z := .int .u32 0) (e₂ := 23) (by kernel_rfl) (by kernel_rfl) (by kernel_rfl) (by kernel_rfl) (by kernel_rfl) (by kernel_rfl) (by decide) (by kernel_rfl) (by kernel_rfl)
instance : CT Try.prog 59 none := ⟨by kernel_rfl⟩
instance : SZ Try.prog 59 1 := ⟨by kernel_rfl⟩
instance : EL Try.prog 59 (none, 4) := ⟨by kernel_rfl⟩
instance : UN Try.prog 59 (.slice 39) := ⟨by kernel_rfl⟩
instance : BS Try.prog 59 39 4 (.agg #[.int .u16 0, .bool false, .int .u32 0, .slice none 0 0]) := .of (by kernel_rfl) (by kernel_rfl) (by kernel_rfl) (by kernel_rfl) (by kernel_rfl)
instance : AP Try.prog 59 59 39 4 32 := .of (inf := Try.t39) (z := .agg #[.int .u16 0, .bool false, .int .u32 0, .slice none 0 0]) (e₂ := 39) (by kernel_rfl) (by kernel_rfl) (by kernel_rfl) (by kernel_rfl) (by kernel_rfl) (by kernel_rfl) (by decide) (by kernel_rfl) (by kernel_rfl)
instance : AL Try.prog 59 [.slice none 0 0] := ⟨by kernel_rfl⟩
instance : EL Try.prog 64 (none, 5) := ⟨by kernel_rfl⟩
instance : UN Try.prog 64 (.slice 72) := ⟨by kernel_rfl⟩
instance : EL Try.prog 65 (none, 1) := ⟨by kernel_rfl⟩
instance : UN Try.prog 65 (.slice 22) := ⟨by kernel_rfl⟩
instance : CT Try.prog 66 none := ⟨by kernel_rfl⟩
instance : SZ Try.prog 66 1 := ⟨by kernel_rfl⟩
instance : EL Try.prog 66 (none, 6) := ⟨by kernel_rfl⟩
instance : UN Try.prog 66 (.slice 33) := ⟨by kernel_rfl⟩
instance : BS Try.prog 66 33 6 (.agg #[.int .u32 0, .int .u8 0, .int .u16 0, .int .u16 0, .int .u32 0, .slice none 0 0]) := .of (by kernel_rfl) (by kernel_rfl) (by kernel_rfl) (by kernel_rfl) (by kernel_rfl)
instance : AP Try.prog 66 66 33 6 40 := .of (inf := Try.t33) (z := .agg #[.int .u32 0, .int .u8 0, .int .u16 0, .int .u16 0, .int .u32 0, .slice none 0 0]) (e₂ := 33) (by kernel_rfl) (by kernel_rfl) (by kernel_rfl) (by kernel_rfl) (by kernel_rfl) (by kernel_rfl) (by decide) (by kernel_rfl) (by kernel_rfl)
instance : AL Try.prog 66 [.slice none 0 0] := ⟨by kernel_rfl⟩
instance : EL Try.prog 70 (none, 1) := ⟨by kernel_rfl⟩
instance : MK Try.prog 70 4 1 (.bool false) := .of (inf := Try.t4) (by kernel_rfl) (by kernel_rfl) (by kernel_rfl) (by kernel_rfl) (by kernel_rfl) (by kernel_rfl) (by kernel_rfl)
instance : CT Try.prog 72 (some 5) := ⟨by kernel_rfl⟩
instance : SZ Try.prog 72 5 := ⟨by kernel_rfl⟩
instance : FO Try.prog 72 0 0 := ⟨by kernel_rfl⟩
instance : FO Try.prog 72 1 4 := ⟨by kernel_rfl⟩
instance : AL Try.prog 72 [.int .u16 0, .bool false, .int .u32 0, .slice none 0 0, .int .i64 0] := ⟨by kernel_rfl⟩
instance : CT Try.prog 77 none := ⟨by kernel_rfl⟩
instance : CT Try.prog 79 none := ⟨by kernel_rfl⟩
instance : CT Try.prog 81 none := ⟨by kernel_rfl⟩
instance : CT Try.prog 82 none := ⟨by kernel_rfl⟩
instance : SZ Try.prog 84 9 := ⟨by kernel_rfl⟩
instance : FO Try.prog 84 0 0 := ⟨by kernel_rfl⟩
instance : FO Try.prog 84 1 1 := ⟨by kernel_rfl⟩
instance : FO Try.prog 84 2 2 := ⟨by kernel_rfl⟩
instance : FO Try.prog 84 3 3 := ⟨by kernel_rfl⟩
instance : FO Try.prog 84 4 4 := ⟨by kernel_rfl⟩
instance : FO Try.prog 84 5 5 := ⟨by kernel_rfl⟩
instance : FO Try.prog 84 6 6 := ⟨by kernel_rfl⟩
instance : FO Try.prog 84 7 7 := ⟨by kernel_rfl⟩
instance : FO Try.prog 84 8 8 := ⟨by kernel_rfl⟩
instance : ST Try.prog 84 [.int .u16 0, .int .i64 0, .int .i64 0, .pointer none, .pointer none, .map none, .map none, .slice none 0 0, .int .i64 0] [(0, 1), (1, 1), (2, 1), (3, 1), (4, 1), (5, 1), (6, 1), (7, 1), (8, 1)] := .of (z := .agg #[.int .u16 0, .int .i64 0, .int .i64 0, .pointer none, .pointer none, .map none, .map none, .slice none 0 0, .int .i64 0]) (fs := (match Try.prog.underlying 84 with | some (.struct fs) => fs | _ => #[])) (by kernel_rfl) (by kernel_rfl) (by kernel_rfl) (by kernel_rfl) (by kernel_rfl)
instance : CT Try.prog 102 none := ⟨by kernel_rfl⟩
instance : SZ Try.prog 104 3 := ⟨by kernel_rfl⟩
instance : FO Try.prog 104 0 0 := ⟨by kernel_rfl⟩
instance : FO Try.prog 104 1 1 := ⟨by kernel_rfl⟩
instance : FO Try.prog 104 2 2 := ⟨by kernel_rfl⟩
instance : ST Try.prog 104 [.int .u32 0, .map none, .slice none 0 0] [(0, 1), (1, 1), (2, 1)] := .of (z := .agg #[.int .u32 0, .map none, .slice none 0 0]) (fs := (match Try.prog.underlying 104 with | some (.struct fs) => fs | _ => #[])) (by kernel_rfl) (by kernel_rfl) (by kernel_rfl) (by kernel_rfl) (by kernel_rfl)
instance : CT Try.prog 105 none := ⟨by kernel_rfl⟩
instance : SZ Try.prog 107 2 := ⟨by kernel_rfl⟩
instance : FO Try.prog 107 0 0 := ⟨by kernel_rfl⟩
instance : FO Try.prog 107 1 1 := ⟨by kernel_rfl⟩
instance : ST Try.prog 107 [.map none, .int .i64 0] [(0, 1), (1, 1)] := .of (z := .agg #[.map none, .int .i64 0]) (fs := (match Try.prog.underlying 107 with | some (.struct fs) => fs | _ => #[])) (by kernel_rfl) (by kernel_rfl) (by kernel_rfl) (by kernel_rfl) (by kernel_rfl)
instance : SZ Try.prog 108 0 := ⟨by kernel_rfl⟩
instance : ST Try.prog 108 [] [] := .of (z := .agg #[]) (fs := (match Try.prog.underlying 108 with | some (.struct fs) => fs | _ => #[])) (by kernel_rfl) (by kernel_rfl) (by kernel_rfl) (by kernel_rfl) (by kernel_rfl)
instance : AL Try.prog 108 [] := ⟨by kernel_rfl⟩
instance : CT Try.prog 115 (some 2) := ⟨by kernel_rfl⟩
instance : SZ Try.prog 115 2 := ⟨by kernel_rfl⟩
instance : FO Try.prog 115 1 1 := ⟨by kernel_rfl⟩
instance : ST Try.prog 115 [.int .u16 0, .int .u16 0] [(0, 1), (1, 1)] := .of (z := .agg #[.int .u16 0, .int .u16 0]) (fs := (match Try.prog.underlying 115 with | some (.struct fs) => fs | _ => #[])) (by kernel_rfl) (by kernel_rfl) (by kernel_rfl) (by kernel_rfl) (by kernel_rfl)
instance : AL Try.prog 115 [.int .u16 0, .int .u16 0] := ⟨by kernel_rfl⟩
instance : IC Try.prog 3 22 .u16 := .of un3 un22
instance : IC Try.prog 3 23 .u32 := .of un3 un23
instance : IC Try.prog 22 3 .i64 := .of un22 un3
instance : BY Try.prog 31 9 := ⟨⟨5, by kernel_rfl, by kernel_rfl⟩, by kernel_rfl⟩
theorem noGlobals : Try.prog.globals.size = 0 := by kernel_rfl
end Go.Proofs.Ytccbmmnkiihkaaa
namespace Go.Proofs.Ytccbmmnkiihkaaa
open Go.Sort
theorem Keeps.rf (wr : List Nat) (h : AHeap) : Keeps wr h h := ⟨Nat.le_refl _, fun _ _ _ => Eq.refl _⟩
theorem Keeps.tr {wr : List Nat} {a b c : AHeap} (h : Keeps wr a b) (k : Keeps wr b c) : Keeps wr a c := ⟨Nat.le_trans h.1 k.1, fun i hi hn => (k.2 i (by have := h.1; omega) hn).trans (h.2 i hi hn)⟩
theorem Keeps.pt {wr : List Nat} {h h' : AHeap} (k : Keeps wr h h') {b : Nat} (hb : b ∈ wr ∨ h.n ≤ b) (o : Option AObj) : Keeps wr h (h'.put b o) := ⟨k.1, fun i hi hn => by rw [AHeap.get_put_ne _ _ (fun e => by rcases hb with hb | hb; exact hn (by rw [← e]; exact hb); omega)]; exact k.2 i hi hn⟩
theorem Keeps.sm {wr : List Nat} {a b c : AHeap} (h : Keeps wr a b) (k : Same b c) : Keeps wr a c := ⟨Nat.le_trans h.1 k.1, fun i hi hn => (k.2 i (by have := h.1; omega)).trans (h.2 i hi hn)⟩
theorem Keeps.ofSame {wr : List Nat} {a b : AHeap} (k : Same a b) : Keeps wr a b := ⟨k.1, fun i hi _ => k.2 i hi⟩
end Go.Proofs.Ytccbmmnkiihkaaa
namespace Go.Proofs.Ytccbmmnkiihkaaa
set_option maxRecDepth 100000
attribute [local irreducible] Go GoR GoL
theorem aEq_rowNil9 {P : Program} {h : AHeap} {t e : TypeId} (hu : P.underlying t = some (.slice e)) (a : Option Addr) (l c : Nat) : aEq P h t (.slice a l c) (.slice none 0 0) = some (a.isNone, []) := by
 unfold aEq
 rw [hu]
 cases a <;> rfl
theorem aEq_ptrNil9 {P : Program} {h : AHeap} {t e : TypeId} (hu : P.underlying t = some (.pointer e)) (a : Addr) : aEq P h t (.pointer (some a)) (.pointer none) = some (false, []) := by
 unfold aEq
 rw [hu]
theorem bytesU9 : Try.prog.underlying 31 = some (.slice 5) := by kernel_rfl
theorem joinU : Try.prog.underlying 79 = some (.pointer 107) := by kernel_rfl
set_option maxHeartbeats 4000000 in
theorem bclone_spec (a : Option Addr) (cap : Nat) (zs : List UInt8) (hl : zs.length ≤ 1000000000) (h : AHeap) (hz : Rv Try.prog h 1 a zs.length cap (zs.map bv)) : CallS Try.prog [] 53 [.slice a zs.length cap] h fun v h' => ∃ b c, v = .slice b zs.length c ∧ Sv h' 5 1 b zs.length c (zs.map bv) ∧ Own h.n b := by
 have hone : (zs.map bv).all Value.oneCell' = true := by simp [bv, Value.oneCell']
 generalize hlen : zs.length = len at *
 cases a with
 | none =>
  obtain ⟨rfl, rfl⟩ : len = 0 ∧ cap = 0 := by
   generalize zs.map bv = cs at hz
   cases hz
   exact ⟨rfl, rfl⟩
  obtain rfl : zs = [] := List.eq_nil_of_length_eq_zero hlen
  (refine CallS.of1 Try.func53 rfl Try.ntmps53 Try.results53 rfl ?_)
  (refine Go.run (g:=?_))
  refine GoR.eqRef rfl rfl rfl rfl (.inl rfl) rfl rfl (aEq_rowNil9 bytesU9 _ _ _) ?_
  (refine Go.run (g:=?_))
  (first|refine Go.finA rfl ?_|refine Go.finB rfl (hq:=?_))
  exact ⟨none, 0, rfl, .nil, Own.nil _⟩
 | some a =>
  (refine CallS.of1 Try.func53 rfl Try.ntmps53 Try.results53 rfl ?_)
  (refine Go.run (g:=?_))
  refine GoR.eqRef rfl rfl rfl rfl (.inl rfl) rfl rfl (aEq_rowNil9 bytesU9 _ _ _) ?_
  (refine Go.run (g:=?_))
  refine GoR.buildO (c := []) rfl rfl rfl rfl rfl (by decide) (by rfl) (by rfl) ?_
  intro b h1 hb ob s1 n1
  (refine Go.run (g:=?_))
  refine GoR.appendV rfl rfl rfl rfl rfl rfl hb (hz.same s1) (Own.ok ob (by omega)) (by omega) (by omega) hone ?_
  intro b2 c2 h2 hb2 k2 o2
  (refine Go.run (g:=?_))
  (first|refine Go.finA rfl ?_|refine Go.finB rfl (hq:=?_))
  subst hlen
  rw [Nat.zero_add] at hb2 ⊢
  exact ⟨b2, c2, rfl, hb2, fun i hi => (o2 i hi).elim (ob i) fun q => by omega⟩
set_option maxHeartbeats 4000000 in
theorem alike_spec (q p : PV) (qb : PB q) (pb : PB p) (n3 : Nat) (h : AHeap) (g : h.get n3 = some (.cells (pC p) 33)) : CallS Try.prog [] 54 [pV q, .pointer (some ⟨n3, 0, none⟩)] h fun v h' => v = .bool (alikeB q p) := by
 obtain ⟨b1, b2, b3, b4, b5⟩ := qb
 obtain ⟨c1, c2, c3, c4, c5⟩ := pb
 have hx : (q.fl ^^^ p.fl) < 2 ^ 8 := Nat.xor_lt_two_pow b2 c2
 have hlt := AHeap.lt g
 unfold alikeB
 obtain ⟨t, fl, sid, ssn, ppid, a, cap, z⟩ := q
 obtain ⟨t', fl', sid', ssn', ppid', a', cap', z'⟩ := p
 simp only [pC, pV] at *
 (refine CallS.of2 Try.func54 rfl Try.ntmps54 Try.results54 rfl ?_)
 (refine Go.run (g:=?_))
 by_cases e1 : sid = sid'
 case neg =>
  rw [decide_eq_false e1, Bool.false_and]
  (refine Go.run (g:=?_))
  (first|refine Go.finA rfl ?_|refine Go.finB rfl (hq:=?_))
  rfl
 by_cases e2 : ssn = ssn'
 case neg =>
  rw [decide_eq_true e1, decide_eq_false e2, Bool.true_and, Bool.false_and]
  (refine Go.run (g:=?_))
  (first|refine Go.finA rfl ?_|refine Go.finB rfl (hq:=?_))
  rfl
 rw [decide_eq_true e1, decide_eq_true e2, Bool.true_and, Bool.true_and]
 (refine Go.run (g:=?_))
 refine GoR.xorN rfl rfl rfl rfl rfl rfl b2 c2 ?_
 generalize fl ^^^ fl' = x at *
 (refine Go.run (g:=?_))
 refine GoR.andN (i := x) (j := 4) rfl rfl rfl rfl rfl rfl hx (by decide) ?_
 (refine Go.run (g:=?_))
 (first|refine Go.finA rfl ?_|refine Go.finB rfl (hq:=?_))
 exact congrArg Value.bool (decide_eq_decide.2 (by omega))
structure FJ (h : AHeap) (jb mr : Nat) (l : List PV) (n0 : Nat) : Prop where
 jc : h.get jb = some (.cells [.map (some mr), .int .i64 (heldN l : Nat)] 107)
 mp : SMap h mr .u32 (pm l)
 dv : ∀ p ∈ l, Sv h 5 1 p.a p.z.length p.cap (p.z.map bv)
 pb : ∀ p ∈ l, PB p
 ow : n0 ≤ jb ∧ n0 ≤ mr
theorem FJ.same {h h' : AHeap} {jb mr : Nat} {l : List PV} {n0 : Nat} (j : FJ h jb mr l n0) (s : Same h h') : FJ h' jb mr l n0 := { j with jc := s.get j.jc, mp := j.mp.same s, dv := fun p hp => (j.dv p hp).same s }
theorem sv_notIn {h : AHeap} {a : Option Addr} {len cap : Nat} {cs : List Value} (k : Sv h 5 1 a len cap cs) {j : Nat} {o : AObj} (g : h.get j = some o) (ho : ∀ c, o ≠ .cells c 5) : j ∉ blk a := by
 intro hj
 cases k with
 | nil => cases hj
 | mk hg _ _ _ =>
  simp only [blk, List.mem_singleton] at hj
  subst hj
  rw [g] at hg
  cases hg
  exact ho _ rfl
theorem FJ.jm {h : AHeap} {jb mr : Nat} {l : List PV} {n0 : Nat} (j : FJ h jb mr l n0) : jb ≠ mr := fun e => by
 obtain ⟨es, ck, g, -⟩ := j.mp
 have := j.jc
 rw [e, g] at this
 cases this
theorem FJ.dj {h : AHeap} {jb mr : Nat} {l : List PV} {n0 : Nat} (j : FJ h jb mr l n0) {p : PV} (hp : p ∈ l) : jb ∉ blk p.a := sv_notIn (j.dv p hp) j.jc fun c e => by
 cases e
theorem FJ.dm {h : AHeap} {jb mr : Nat} {l : List PV} {n0 : Nat} (j : FJ h jb mr l n0) {p : PV} (hp : p ∈ l) : mr ∉ blk p.a := by
 obtain ⟨es, ck, g, -⟩ := j.mp
 exact sv_notIn (j.dv p hp) g fun c e => by cases e
theorem FJ.kept {h h' : AHeap} {jb mr : Nat} {l : List PV} {n0 : Nat} {wr : List Nat} (j : FJ h jb mr l n0) (k : Keeps wr h h') (h1 : jb ∉ wr) (h2 : mr ∉ wr) (h3 : ∀ p ∈ l, ∀ i ∈ blk p.a, i ∉ wr) : FJ h' jb mr l n0 := { j with jc := k.get j.jc h1, mp := j.mp.keeps k h2, dv := fun p hp => (j.dv p hp).keeps k (h3 p hp) }
instance miKept : MI Try.prog 105 .u32 (.agg #[.int .u32 0, .int .u8 0, .int .u16 0, .int .u16 0, .int .u32 0, .slice none 0 0]) := ⟨23, 33, by kernel_rfl, by kernel_rfl, by kernel_rfl, rfl, fun em n => by kernel_rfl⟩
set_option maxHeartbeats 4000000 in
theorem fnew_spec (h : AHeap) : CallS Try.prog [] 31 [] h fun v h' => ∃ jb mr, v = .pointer (some ⟨jb, 0, none⟩) ∧ FJ h' jb mr [] h.n := by
 (refine CallS.of0 Try.func31 rfl Try.ntmps31 Try.results31 rfl ?_)
 (refine Go.run (g:=?_))
 refine GoR.makeMapI rfl rfl rfl rfl ?_
 intro h1 M1 s1 n1
 (refine Go.run (g:=?_))
 refine Go.name ?_
 intro h2 e2
 have s2 : Same h1 h2 := by subst e2; exact (Same.refl h1).push _
 have g2 : h2.get h1.n = some (.cells [.map (some h.n), .int .i64 (0 : Nat)] 107) := by subst e2; exact AHeap.get_push_same _ _
 clear e2
 (first|refine Go.finA rfl ?_|refine Go.finB rfl (hq:=?_))
 exact ⟨_, _, rfl, g2, (M1 _).same s2, (fun p hp => by cases hp), (fun p hp => by cases hp), ⟨by omega, Nat.le_refl _⟩⟩
set_option maxHeartbeats 4000000 in
theorem fheld_spec (jb mr : Nat) (l : List PV) (n0 : Nat) (h : AHeap) (J : FJ h jb mr l n0) : CallS Try.prog [] 49 [.pointer (some ⟨jb, 0, none⟩)] h fun v h' => v = .int .i64 (heldN l : Nat) ∧ h' = h := by
 have gs := J.jc
 (refine CallS.of1 Try.func49 rfl Try.ntmps49 Try.results49 rfl ?_)
 (refine Go.run (g:=?_))
 refine GoR.eqRef rfl rfl rfl rfl (.inl rfl) rfl rfl (aEq_ptrNil9 joinU _) ?_
 (refine Go.run (g:=?_))
 (first|refine Go.finA rfl ?_|refine Go.finB rfl (hq:=?_))
 exact ⟨rfl, rfl⟩
end Go.Proofs.Ytccbmmnkiihkaaa
namespace Go.Proofs.Ytccbmmnkiihkaaa
set_option maxRecDepth 100000
attribute [local irreducible] Go GoR GoL
theorem add32p (t : Nat) : iBin .add .u32 (t : Int) ((1 : Nat) : Int) = some (.int .u32 ((nxt32 t : Nat) : Int)) := by
 have q : ((nxt32 t : Nat) : Int) = ((t : Int) + 1) % 4294967296 := by unfold nxt32; omega
 simp [iBin, IntKind.wrap, IntKind.bits, IntKind.signed, q]
theorem sub32p (t : Nat) : iBin .sub .u32 (t : Int) ((1 : Nat) : Int) = some (.int .u32 ((prev32 t : Nat) : Int)) := by
 have q : ((prev32 t : Nat) : Int) = ((t : Int) - 1) % 4294967296 := by unfold prev32; omega
 simp [iBin, IntKind.wrap, IntKind.bits, IntKind.signed, q]
abbrev zP : Value := .agg #[.int .u32 0, .int .u8 0, .int .u16 0, .int .u16 0, .int .u32 0, .slice none 0 0]
abbrev zM : List Value := [.int .u16 0, .bool false, .int .u32 0, .slice none 0 0]
theorem putN_there {l : List PV} {p q : PV} (h : pf l p.t = some q) : putN l p = (l, none) := by unfold putN; rw [h]
def PutV (h : AHeap) (n0 : Nat) (ssn : Nat) (v : Value) : Option MS → Prop
 | none => v = .tuple #[.agg zM.toArray, .int .u16 0, .bool false]
 | some (sid, un, ppid, D) => ∃ a cap, v = .tuple #[.agg #[.int .u16 (sid : Nat), .bool un, .int .u32 (ppid : Nat), .slice a D.length cap], .int .u16 (ssn : Nat), .bool true] ∧ Sv h 5 1 a D.length cap (D.map bv) ∧ Own n0 a
set_option maxHeartbeats 64000000 in
theorem put_spec (jb mr : Nat) (l : List PV) (n0 : Nat) (p : PV) (pb : PB p) (hl : l.length ≤ 1000000) (hh : heldN l + p.z.length ≤ 1000000000) (h : AHeap) (hn0 : n0 ≤ h.n) (J : FJ h jb mr l n0) (hz : Rv Try.prog h 1 p.a p.z.length p.cap (p.z.map bv)) : CallS Try.prog [jb, mr] 38 [.pointer (some ⟨jb, 0, none⟩), pV p] h fun v h' => ∃ a' cap', FJ h' jb mr (putN l { p with a := a', cap := cap' }).1 n0 ∧ PutV h' h.n p.ssn v (putN l { p with a := a', cap := cap' }).2 := by
 obtain ⟨b1, b2, b3, b4, b5⟩ := pb
 have gs := J.jc
 have hlt := AHeap.lt gs
 have hmr := J.mp.lt
 (refine CallS.of2 Try.func38 rfl Try.ntmps38 Try.results38 rfl ?_)
 simp only [pV, pC]
 (refine Go.run (g:=?_))
 refine GoR.eqRef rfl rfl rfl rfl (.inl rfl) rfl rfl (aEq_ptrNil9 joinU _) ?_
 refine Go.runN (g:=?_)
 refine Go.name ?_
 intro h1 e1
 have g3 : h1.get h.n = some (.cells (pC p) 33) := by subst e1; exact hg_
 have g4 : h1.get (h.n + 1) = some (.cells zM 39) := by subst e1; exact hg_
 have s1 : Same h h1 := by subst e1; exact ((Same.refl h).push _).push _
 have n1 : h1.n = h.n + 2 := by subst e1; rfl
 clear e1
 have J1 := J.same s1
 have gs1 := J1.jc
 simp only [pC] at g3
 clear gs J
 refine Go.kk 2 rfl ?_
 refine Go.loud (by kernel_rfl) rfl ?_
 (refine Go.runL (g:=?_))
 refine GoL.lookup2 rfl rfl rfl rfl rfl rfl J1.mp.imap ?_
 rw [al_pm]
 cases hpf : pf l p.t with
 | some q =>
  simp only [Option.map_some, Option.getD_some, Option.isSome_some, pV, pC]
  (refine Go.runL (g:=?_))
  refine GoL.st (g:=?_)
  (refine Go.runL (g:=?_))
  refine GoL.endN (g:=?_)
  refine Go.name ?_
  intro h2 e2
  have s2 : Same h1 h2 := by subst e2; exact ((Same.refl h1).push _).put (Nat.le_refl _) _
  have n2 := s2.1
  clear e2
  have J2 := J1.same s2
  have g42 := s2.get g4
  clear J1 g4 gs1 g3
  (refine Go.run (g:=?_))
  refine Go.name ?_
  intro h3 e3
  have k3 : Keeps [h.n + 1] h2 h3 := by subst e3; exact (Keeps.rf _ _).pt (.inl (by simp)) _
  have g43 : h3.get (h.n + 1) = some (.cells zM 39) := by subst e3; exact get_put_self g42
  clear e3
  have hjn : jb ≠ h.n + 1 := by omega
  have J3 := J2.kept k3 (by simp; omega) (by simp; omega) (fun p hp i hi hm => by
   simp only [List.mem_singleton] at hm
   subst hm
   exact sv_notIn (J2.dv p hp) g42 (fun c e => by cases e) hi)
  (refine Go.fin (by first|exact .inr rfl|exact .inl rfl) (.cellN rfl inferInstance hg_ (by first | exact Nat.le_refl _ | (simp [setL, cellsL]; fail_if_success focus skip) | (simp; omega)) rfl (.tmp rfl (.tmp rfl .nil))) ?_)
  have hpp : putN l { p with a := p.a, cap := p.cap } = (l, none) := putN_there hpf
  refine ⟨p.a, p.cap, ?_, ?_⟩
  · rw [hpp]; exact J3
  · rw [hpp]; rfl
 | none =>
  simp only [Option.map_none, Option.getD_none, Option.isSome_none]
  (refine Go.runL (g:=?_))
  refine GoL.st (g:=?_)
  (refine Go.runL (g:=?_))
  refine GoL.endN (g:=?_)
  refine Go.name ?_
  intro h2 e2
  have s2 : Same h1 h2 := by subst e2; exact ((Same.refl h1).push _).put (Nat.le_refl _) _
  have n2 := s2.1
  clear e2
  have J2 := J1.same s2
  have g32 := s2.get g3
  have g42 := s2.get g4
  have gs2 := J2.jc
  have hz2 := hz.same (s1.trans s2)
  clear J1 g4 gs1 g3
  (refine Go.run (g:=?_))
  refine GoR.call rfl rfl rfl rfl rfl rfl rfl (((bclone_spec p.a p.cap p.z (by omega) _ hz2).argA).mono ?_)
  rintro _ h3 ⟨a3, cap3, rfl, S3, O3⟩ s3
  have J3 := J2.same s3
  have g33 := s3.get g32
  have g43 := s3.get g42
  have n3 := s3.1
  clear J2 g32 g42 gs2 hz2 hz
  refine Go.runN (g:=?_)
  refine Go.name ?_
  intro h4 e4
  have k4 : Keeps [h.n] h3 h4 := by subst e4; exact (Keeps.rf _ _).pt (.inl (by simp)) _
  have g34 : h4.get h.n = some (.cells [.int .u32 p.t, .int .u8 p.fl, .int .u16 p.sid, .int .u16 p.ssn, .int .u32 p.ppid, .slice a3 p.z.length cap3] 33) := by subst e4; exact get_put_self g33
  have n4 : h4.n = h3.n := by subst e4; rfl
  clear e4
  obtain ⟨p', hp'⟩ : ∃ p' : PV, p' = { p with a := a3, cap := cap3 } := ⟨_, rfl⟩
  have pb' : PB p' := by subst hp'; exact ⟨b1, b2, b3, b4, b5⟩
  have pt' : p'.t = p.t := by subst hp'; rfl
  have hJmr := J3.mp.lt
  have J4 := J3.kept k4 (by simp; omega) (by simp; omega) (fun p hp i hi hm => by
   simp only [List.mem_singleton] at hm
   subst hm
   exact sv_notIn (J3.dv p hp) g33 (fun c e => by cases e) hi)
  have S4 := S3.keeps k4 (fun i hi hm => by
   simp only [List.mem_singleton] at hm
   subst hm
   exact sv_notIn S3 g33 (fun c e => by cases e) hi)
  have g44 := k4.get g43 (by simp)
  have gs4 := J4.jc
  have hjm := J4.jm
  clear J3 S3 g33 g43 k4
  refine Go.kk 2 rfl ?_
  refine Go.loud (by kernel_rfl) rfl ?_
  (refine Go.runL (g:=?_))
  refine GoL.mapUpdateS (.inl rfl) rfl rfl rfl rfl rfl J4.mp (.inl (by simp)) ?_
  intro h5 M5 k5 n5
  have hdis : ∀ b ∈ [mr], b ≠ h.n ∧ b ≠ jb := fun b hb => by simp only [List.mem_singleton] at hb; omega
  have hdis2 := hdis
  (refine Go.runL (g:=?_))
  refine GoL.endC (g:=?_)
  clear hdis hdis2
  have hpf' : pf l p'.t = none := by rw [pt']; exact hpf
  have M5' : SMap h5 mr .u32 (pm (l ++ [p'])) := by
   rw [← aset_pm l p' hpf']
   subst hp'
   exact M5
  have gs5 := k5.get gs4 (by simp; exact hjm)
  have dv5 : ∀ q ∈ l ++ [p'], Sv h5 5 1 q.a q.z.length q.cap (q.z.map bv) := fun q hq => by
   rcases List.mem_append.1 hq with hq | hq
   · exact (J4.dv q hq).keeps k5 (fun i hi hm => by simp only [List.mem_singleton] at hm; subst hm; exact J4.dm hq hi)
   ·
    simp only [List.mem_singleton] at hq
    subst hq hp'
    obtain ⟨es, ck, gm, -⟩ := J4.mp
    exact S4.keeps k5 (fun i hi hm => by simp only [List.mem_singleton] at hm; subst hm; exact sv_notIn S4 gm (fun c e => by cases e) hi)
  have g35 := k5.get g34 (by simp; omega)
  have g45 := k5.get g44 (by simp; omega)
  have pb5 : ∀ q ∈ l ++ [p'], PB q := fun q hq => by
   rcases List.mem_append.1 hq with hq | hq
   · exact J4.pb q hq
   · simp only [List.mem_singleton] at hq; subst hq; exact pb'
  have how := J4.ow
  clear M5 J4 S4 gs4 g34 g44 k5
  refine Go.runN (g:=?_)
  refine Go.kk 2 rfl ?_
  refine Go.loud (by kernel_rfl) rfl ?_
  (refine Go.runL (g:=?_))
  refine GoL.st (g:=?_)
  (refine Go.runL (g:=?_))
  refine GoL.endN (g:=?_)
  refine Go.name ?_
  intro h6 e6
  have k6 : Keeps [jb] h5 h6 := by subst e6; exact (Keeps.rf _ _).pt (.inl (by simp)) _
  have gs6 : h6.get jb = some (.cells [.map (some mr), .int .i64 (heldN l + p.z.length : Nat)] 107) := by subst e6; exact get_put_self gs5
  have n6 : h6.n = h5.n := by subst e6; rfl
  clear e6
  have hz' : p'.z = p.z := by subst hp'; rfl
  have J6 : FJ h6 jb mr (l ++ [p']) n0 := ⟨by rw [held_snoc, hz']; exact gs6, M5'.keeps k6 (by simp; exact Ne.symm hjm), fun q hq => (dv5 q hq).keeps k6 (fun i hi hm => by simp only [List.mem_singleton] at hm; subst hm; exact sv_notIn (dv5 q hq) gs5 (fun c e => by cases e) hi), pb5, how⟩
  have g36 : h6.get h.n = some (.cells (pC p') 33) := by subst hp'; exact k6.get g35 (by simp; omega)
  have g46 := k6.get g45 (by simp; omega)
  clear M5' dv5 gs5 g35 g45 k6 pb5 gs6
  have l1l : (l ++ [p']).length = l.length + 1 := by simp
  have h1h : heldN (l ++ [p']) ≤ 1000000000 := by rw [held_snoc, hz']; exact hh
  have hput : ∀ r, (match backN (l ++ [p']) p' (l.length + 1) p' with
   | none => (l ++ [p'], none)
   | some f => match fwdN (l ++ [p']) p' (l.length + 1) p' with
    | none => (l ++ [p'], none)
    | some g => ((gat (gone f.t g.t) f.t (l ++ [p']) []).2, some (f.sid, decide (¬ f.fl &&& 4 = 0), f.ppid, (gat (gone f.t g.t) f.t (l ++ [p']) []).1))) = r → putN l p' = r := fun r hr => by unfold putN; rw [hpf']; exact hr
  have hpm : p' ∈ l ++ [p'] := by simp
  have hssn : p'.ssn = p.ssn := by subst hp'; rfl
  clear hz' hpf hpf' pt' b1 b2 b3 b4 b5 hh
  generalize l ++ [p'] = l1 at *
  refine Go.runN (g:=?_)
  refine Go.kk 2 rfl ?_
  refine Go.loud (by kernel_rfl) rfl ?_
  simp only [pC] at g36
  (refine Go.runL (g:=?_))
  refine GoL.st (g:=?_)
  (refine Go.runL (g:=?_))
  refine GoL.st (g:=?_)
  (refine Go.runL (g:=?_))
  refine GoL.endN (g:=?_)
  refine Go.name ?_
  intro h7 e7
  have s7 : Same h6 h7 := by subst e7; exact ((((Same.refl h6).push _).push _).put (Nat.le_refl _) _).put (by simp only [AHeap.n_push]; omega) _
  have g10 : h7.get h6.n = some (.cells (pC p') 33) := by subst e7; simp only [pC]; exact hg_
  have g11 : h7.get (h6.n + 1) = some (.cells (pC p') 33) := by subst e7; simp only [pC]; exact hg_
  have n7 : h7.n = h6.n + 2 := by subst e7; rfl
  clear e7
  have J7 := J6.same s7
  have g37 := s7.get g36
  have g47 := s7.get g46
  have hJ7 := J7.mp.lt
  have hjlt := AHeap.lt J7.jc
  have hL : ∀ q ∈ l1, PB q := J7.pb
  clear J6 g36 g46 s7
  simp only [AHeap.n_push]
  (refine Go.run (g:=?_))
  obtain ⟨T, hT⟩ : ∃ T, T = backN l1 p' (l.length + 1) p' := ⟨_, rfl⟩
  rw [← hT] at hput
  have hpk : ∀ i j k : Nat, k ≤ 1000001 → i ≤ k → j ≤ k → (p'.t + 4294967296 - i) % 4294967296 = (p'.t + 4294967296 - j) % 4294967296 → i = j := fun i j k hk hi hj e => by omega
  refine Go.loop (α := Nat × Nat × PV × AHeap) (fun _ => [(10, .pointer (some ⟨h6.n, 0, none⟩)), (11, .pointer (some ⟨h6.n + 1, 0, none⟩)), (9, .func (.func 54) #[] #[.pointer (some ⟨h.n, 0, none⟩)]), (3, .pointer (some ⟨h.n, 0, none⟩)), (4, .pointer (some ⟨h.n + 1, 0, none⟩)), (0, .pointer (some ⟨jb, 0, none⟩))]) (fun _ => []) (fun x => x.2.2.2) (fun x => FJ x.2.2.2 jb mr l1 n0 ∧ x.2.2.2.get h.n = some (.cells (pC p') 33) ∧ x.2.2.2.get (h.n + 1) = some (.cells zM 39) ∧ x.2.2.2.get h6.n = some (.cells (pC x.2.2.1) 33) ∧ x.2.2.2.get (h6.n + 1) = some (.cells (pC p') 33) ∧ h7.n ≤ x.2.2.2.n ∧ backN l1 p' x.1 x.2.2.1 = T ∧ x.1 + x.2.1 = l.length + 1 ∧ PB x.2.2.1 ∧ x.2.2.1.t = (p'.t + 4294967296 - x.2.1) % 4294967296 ∧ ∀ i, i ≤ x.2.1 → (p'.t + 4294967296 - i) % 4294967296 ∈ l1.map (·.t)) (fun x => x.1) (l.length + 1, 0, p', h7) ⟨J7, by simpa only [pC] using g37, g47, g10, g11, Nat.le_refl _, hT.symm, rfl, pb', by have := pb'.t; simp only; omega, fun i hi => ?_⟩ ⟨rfl, rfl, rfl, rfl, rfl, rfl, trivial⟩ rfl rfl ?_
  ·
   obtain rfl : i = 0 := by simp only at hi; omega
   have := pb'.t
   rw [show (p'.t + 4294967296 - 0) % 4294967296 = p'.t by omega]
   exact List.mem_map_of_mem hpm
  clear J7 g37 g47 g10 g11 hT
  rintro ⟨n, k, f, H⟩ ⟨J, g3, g4, g10, g11, nH, hT, hnk, fb, ft, hk⟩
  simp only at J g3 g4 g10 g11 nH hT hnk fb ft hk ⊢
  have hpos : 0 < n := by
   rcases Nat.eq_zero_or_pos n with h0 | h0
   ·
    have := steps_le (g := fun i => (p'.t + 4294967296 - i) % 4294967296) (k := k) (K := l1.map (·.t)) (fun i j hi hj e => hpk i j k (by omega) hi hj e) hk
    rw [List.length_map] at this
    omega
   · exact h0
  obtain ⟨n, rfl⟩ : ∃ m, n = m + 1 := ⟨n - 1, by omega⟩
  have f8 := fb.fl
  have gsH := J.jc
  have bT := hT
  rw [backN_succ] at bT
  simp only [pC] at g10
  have hjH := AHeap.lt gsH
  have hmH := J.mp.lt
  by_cases hf2 : f.fl &&& 2 = 0
  ·
   rw [if_pos hf2] at bT
   (refine Go.run (g:=?_))
   refine GoR.andN (i := f.fl) (j := 2) rfl rfl rfl rfl rfl rfl f8 (by decide) ?_
   rw [hf2]
   refine Go.runN (g:=?_)
   refine Go.kk 2 rfl ?_
   refine Go.loud (by kernel_rfl) rfl ?_
   (refine Go.runL (g:=?_))
   refine GoL.bin rfl rfl rfl rfl rfl rfl (sub32p f.t) ?_
   (refine Go.runL (g:=?_))
   refine GoL.lookup2 rfl rfl rfl rfl rfl rfl J.mp.imap ?_
   rw [al_pm]
   cases hq : pf l1 (prev32 f.t) with
   | none =>
    rw [hq] at bT
    have hret : putN l p' = (l1, none) := hput _ (by rw [← bT])
    simp only [Option.map_none, Option.getD_none, Option.isSome_none]
    (refine Go.runL (g:=?_))
    refine GoL.st (g:=?_)
    (refine Go.runL (g:=?_))
    refine GoL.endN (g:=?_)
    refine Go.name ?_
    intro H2 e2
    have s2 : Same H H2 := by subst e2; exact ((Same.refl H).push _).put (Nat.le_refl _) _
    have n2 := s2.1
    clear e2
    have Jr := J.same s2
    have gr := s2.get g4
    clear J g4 g10 g11 g3 gsH
    (refine Go.run (g:=?_))
    refine Go.name ?_
    intro h9 e9
    have k9 : Keeps [h.n + 1] H2 h9 := by subst e9; exact (Keeps.rf _ _).pt (.inl (by simp)) _
    have J9 := Jr.kept k9 (by simp; omega) (by simp; omega) (fun p hp i hi hm => by
     simp only [List.mem_singleton] at hm
     subst hm
     exact sv_notIn (Jr.dv p hp) gr (fun c e => by cases e) hi)
    have g49 : h9.get (h.n + 1) = some (.cells zM 39) := by subst e9; exact get_put_self gr
    clear e9 k9 gr Jr
    (refine Go.fin (by first|exact .inr rfl|exact .inl rfl) (.cellN rfl inferInstance hg_ (by first | exact Nat.le_refl _ | (simp [setL, cellsL]; fail_if_success focus skip) | (simp; omega)) rfl (.tmp rfl (.tmp rfl .nil))) ?_)
    refine ⟨a3, cap3, ?_, ?_⟩
    · rw [← hp', hret]; exact J9
    · rw [← hp', hret]; rfl
   | some q =>
    rw [hq] at bT
    simp only at bT
    obtain ⟨qm, qt⟩ := pf_mem hq
    have qb := hL q qm
    have q8 := qb.fl
    simp only [Option.map_some, Option.getD_some, Option.isSome_some, pV, pC]
    (refine Go.runL (g:=?_))
    refine GoL.st (g:=?_)
    (refine Go.runL (g:=?_))
    refine GoL.endN (g:=?_)
    refine Go.name ?_
    intro H2 e2
    have s2 : Same H H2 := by subst e2; exact ((Same.refl H).push _).put (Nat.le_refl _) _
    have g12 : H2.get H.n = some (.cells (pC q) 33) := by subst e2; simp only [pC]; exact hg_
    have n2 : H2.n = H.n + 1 := by subst e2; rfl
    clear e2
    have Jr := J.same s2
    have gr := s2.get g4
    have g32 := s2.get g3
    have g102 := s2.get g10
    have g112 := s2.get g11
    simp only [pC] at g12
    clear J g4 g10 g11 g3 gsH s2
    (refine Go.run (g:=?_))
    refine GoR.call rfl rfl rfl rfl rfl rfl rfl (((alike_spec q p' qb pb' h.n _ g32).argA).mono ?_)
    rintro _ H3 rfl s3
    have n3' := s3.1
    have Jr := Jr.same s3
    have gr := s3.get gr
    have g33 := s3.get g32
    have g103 := s3.get g102
    have g113 := s3.get g112
    have g123 := s3.get g12
    clear g32 g102 g112 g12 s3
    cases hal : alikeB q p' with
    | false =>
     have hret : putN l p' = (l1, none) := hput _ (by rw [← bT, if_neg (by simp [hal])])
     clear g33 g103 g113 g123
     (refine Go.run (g:=?_))
     refine Go.name ?_
     intro h9 e9
     have k9 : Keeps [h.n + 1] H3 h9 := by subst e9; exact (Keeps.rf _ _).pt (.inl (by simp)) _
     have J9 := Jr.kept k9 (by simp; omega) (by simp; omega) (fun p hp i hi hm => by
      simp only [List.mem_singleton] at hm
      subst hm
      exact sv_notIn (Jr.dv p hp) gr (fun c e => by cases e) hi)
     have g49 : h9.get (h.n + 1) = some (.cells zM 39) := by subst e9; exact get_put_self gr
     clear e9 k9 gr Jr
     (refine Go.fin (by first|exact .inr rfl|exact .inl rfl) (.cellN rfl inferInstance hg_ (by first | exact Nat.le_refl _ | (simp [setL, cellsL]; fail_if_success focus skip) | (simp; omega)) rfl (.tmp rfl (.tmp rfl .nil))) ?_)
     refine ⟨a3, cap3, ?_, ?_⟩
     · rw [← hp', hret]; exact J9
     · rw [← hp', hret]; rfl
    | true =>
     (refine Go.run (g:=?_))
     refine GoR.andN (i := q.fl) (j := 1) rfl rfl rfl rfl rfl rfl q8 (by decide) ?_
     generalize q.fl &&& 1 = w1 at *
     by_cases hq1 : w1 = 0
     case neg =>
      have hret : putN l p' = (l1, none) := hput _ (by rw [← bT, if_neg (fun e => hq1 e.2)])
      clear g33 g103 g113 g123
      (refine Go.run (g:=?_))
      refine Go.name ?_
      intro h9 e9
      have k9 : Keeps [h.n + 1] H3 h9 := by subst e9; exact (Keeps.rf _ _).pt (.inl (by simp)) _
      have J9 := Jr.kept k9 (by simp; omega) (by simp; omega) (fun p hp i hi hm => by
       simp only [List.mem_singleton] at hm
       subst hm
       exact sv_notIn (Jr.dv p hp) gr (fun c e => by cases e) hi)
      have g49 : h9.get (h.n + 1) = some (.cells zM 39) := by subst e9; exact get_put_self gr
      clear e9 k9 gr Jr
      (refine Go.fin (by first|exact .inr rfl|exact .inl rfl) (.cellN rfl inferInstance hg_ (by first | exact Nat.le_refl _ | (simp [setL, cellsL]; fail_if_success focus skip) | (simp; omega)) rfl (.tmp rfl (.tmp rfl .nil))) ?_)
      refine ⟨a3, cap3, ?_, ?_⟩
      · rw [← hp', hret]; exact J9
      · rw [← hp', hret]; rfl
     rw [if_pos ⟨hal, hq1⟩] at bT
     rw [hq1]
     (refine Go.run (g:=?_))
     refine Go.name ?_
     intro H4 e4
     have k4 : Keeps [h6.n] H3 H4 := by subst e4; exact (Keeps.rf _ _).pt (.inl (by simp)) _
     have g104 : H4.get h6.n = some (.cells (pC q) 33) := by subst e4; simp only [pC]; exact get_put_self g103
     clear e4
     have J4 := Jr.kept k4 (by simp; omega) (by simp; omega) (fun p hp i hi hm => by
      simp only [List.mem_singleton] at hm
      subst hm
      exact sv_notIn (Jr.dv p hp) g103 (fun c e => by cases e) hi)
     have m4 := k4.1
     exact Go.again (n, k + 1, q, H4) ⟨J4, k4.get g33 (by simp; omega), k4.get gr (by simp; omega), g104, k4.get g113 (by simp), by simp only; omega, bT, by simp only; omega, qb, by simp only; rw [qt, ft]; unfold prev32; omega, fun i hi => by
      rcases Nat.lt_or_ge k i with hki | hki
      ·
       obtain rfl : i = k + 1 := by simp only at hi; omega
       have e : (p'.t + 4294967296 - (k + 1)) % 4294967296 = q.t := by rw [qt, ft]; unfold prev32; omega
       rw [e]; exact List.mem_map_of_mem qm
      · exact hk i hki⟩ (by simp only; omega) ⟨rfl, rfl, rfl, rfl, rfl, rfl, trivial⟩ rfl rfl
  ·
   rw [if_neg hf2] at bT
   subst bT
   simp only at hput
   (refine Go.run (g:=?_))
   refine GoR.andN (i := f.fl) (j := 2) rfl rfl rfl rfl rfl rfl f8 (by decide) ?_
   generalize f.fl &&& 2 = w0 at *
   (refine Go.run (g:=?_))
   clear hT hk hnk gsH hf2
   obtain ⟨T2, hT2⟩ : ∃ T2, T2 = fwdN l1 p' (l.length + 1) p' := ⟨_, rfl⟩
   rw [← hT2] at hput
   have hpk2 : ∀ i j k : Nat, k ≤ 1000001 → i ≤ k → j ≤ k → (p'.t + i) % 4294967296 = (p'.t + j) % 4294967296 → i = j := fun i j k hk hi hj e => by omega
   simp only [pC] at g11
   refine Go.loop (α := Nat × Nat × PV × AHeap) (fun _ => [(10, .pointer (some ⟨h6.n, 0, none⟩)), (11, .pointer (some ⟨h6.n + 1, 0, none⟩)), (9, .func (.func 54) #[] #[.pointer (some ⟨h.n, 0, none⟩)]), (3, .pointer (some ⟨h.n, 0, none⟩)), (4, .pointer (some ⟨h.n + 1, 0, none⟩)), (0, .pointer (some ⟨jb, 0, none⟩))]) (fun _ => []) (fun x => x.2.2.2) (fun x => FJ x.2.2.2 jb mr l1 n0 ∧ x.2.2.2.get h.n = some (.cells (pC p') 33) ∧ x.2.2.2.get (h.n + 1) = some (.cells zM 39) ∧ x.2.2.2.get h6.n = some (.cells (pC f) 33) ∧ x.2.2.2.get (h6.n + 1) = some (.cells (pC x.2.2.1) 33) ∧ h7.n ≤ x.2.2.2.n ∧ fwdN l1 p' x.1 x.2.2.1 = T2 ∧ x.1 + x.2.1 = l.length + 1 ∧ PB x.2.2.1 ∧ x.2.2.1.t = (p'.t + x.2.1) % 4294967296 ∧ ∀ i, i ≤ x.2.1 → (p'.t + i) % 4294967296 ∈ l1.map (·.t)) (fun x => x.1) (l.length + 1, 0, p', H) ⟨J, g3, g4, g10, g11, nH, hT2.symm, rfl, pb', by have := pb'.t; simp only; omega, fun i hi => ?_⟩ ⟨rfl, rfl, rfl, rfl, rfl, rfl, trivial⟩ rfl rfl ?_
   ·
    obtain rfl : i = 0 := by simp only at hi; omega
    have := pb'.t
    rw [show (p'.t + 0) % 4294967296 = p'.t by omega]
    exact List.mem_map_of_mem hpm
   clear J g3 g4 g10 g11 hT2
   rintro ⟨n, k, g, H⟩ ⟨J, g3, g4, g10, g11, nH, hT, hnk, gb, gt, hk⟩
   simp only at J g3 g4 g10 g11 nH hT hnk gb gt hk ⊢
   have hpos : 0 < n := by
    rcases Nat.eq_zero_or_pos n with h0 | h0
    ·
     have := steps_le (g := fun i => (p'.t + i) % 4294967296) (k := k) (K := l1.map (·.t)) (fun i j hi hj e => hpk2 i j k (by omega) hi hj e) hk
     rw [List.length_map] at this
     omega
    · exact h0
   obtain ⟨n, rfl⟩ : ∃ m, n = m + 1 := ⟨n - 1, by omega⟩
   have g8 := gb.fl
   have gsH := J.jc
   have bT := hT
   rw [fwdN_succ] at bT
   simp only [pC] at g11
   have hjH := AHeap.lt gsH
   have hmH := J.mp.lt
   by_cases hf2 : g.fl &&& 1 = 0
   ·
    rw [if_pos hf2] at bT
    (refine Go.run (g:=?_))
    refine GoR.andN (i := g.fl) (j := 1) rfl rfl rfl rfl rfl rfl g8 (by decide) ?_
    rw [hf2]
    refine Go.runN (g:=?_)
    refine Go.kk 2 rfl ?_
    refine Go.loud (by kernel_rfl) rfl ?_
    (refine Go.runL (g:=?_))
    refine GoL.bin rfl rfl rfl rfl rfl rfl (add32p g.t) ?_
    (refine Go.runL (g:=?_))
    refine GoL.lookup2 rfl rfl rfl rfl rfl rfl J.mp.imap ?_
    rw [al_pm]
    cases hq : pf l1 (nxt32 g.t) with
    | none =>
     rw [hq] at bT
     have hret : putN l p' = (l1, none) := hput _ (by rw [← bT])
     simp only [Option.map_none, Option.getD_none, Option.isSome_none]
     (refine Go.runL (g:=?_))
     refine GoL.st (g:=?_)
     (refine Go.runL (g:=?_))
     refine GoL.endN (g:=?_)
     refine Go.name ?_
     intro H2 e2
     have s2 : Same H H2 := by subst e2; exact ((Same.refl H).push _).put (Nat.le_refl _) _
     have n2 := s2.1
     clear e2
     have Jr := J.same s2
     have gr := s2.get g4
     clear J g4 g10 g11 g3 gsH
     (refine Go.run (g:=?_))
     refine Go.name ?_
     intro h9 e9
     have k9 : Keeps [h.n + 1] H2 h9 := by subst e9; exact (Keeps.rf _ _).pt (.inl (by simp)) _
     have J9 := Jr.kept k9 (by simp; omega) (by simp; omega) (fun p hp i hi hm => by
      simp only [List.mem_singleton] at hm
      subst hm
      exact sv_notIn (Jr.dv p hp) gr (fun c e => by cases e) hi)
     have g49 : h9.get (h.n + 1) = some (.cells zM 39) := by subst e9; exact get_put_self gr
     clear e9 k9 gr Jr
     (refine Go.fin (by first|exact .inr rfl|exact .inl rfl) (.cellN rfl inferInstance hg_ (by first | exact Nat.le_refl _ | (simp [setL, cellsL]; fail_if_success focus skip) | (simp; omega)) rfl (.tmp rfl (.tmp rfl .nil))) ?_)
     refine ⟨a3, cap3, ?_, ?_⟩
     · rw [← hp', hret]; exact J9
     · rw [← hp', hret]; rfl
    | some q =>
     rw [hq] at bT
     simp only at bT
     obtain ⟨qm, qt⟩ := pf_mem hq
     have qb := hL q qm
     have q8 := qb.fl
     simp only [Option.map_some, Option.getD_some, Option.isSome_some, pV, pC]
     (refine Go.runL (g:=?_))
     refine GoL.st (g:=?_)
     (refine Go.runL (g:=?_))
     refine GoL.endN (g:=?_)
     refine Go.name ?_
     intro H2 e2
     have s2 : Same H H2 := by subst e2; exact ((Same.refl H).push _).put (Nat.le_refl _) _
     have g12 : H2.get H.n = some (.cells (pC q) 33) := by subst e2; simp only [pC]; exact hg_
     have n2 : H2.n = H.n + 1 := by subst e2; rfl
     clear e2
     have Jr := J.same s2
     have gr := s2.get g4
     have g32 := s2.get g3
     have g102 := s2.get g10
     have g112 := s2.get g11
     simp only [pC] at g12
     clear J g4 g10 g11 g3 gsH s2
     (refine Go.run (g:=?_))
     refine GoR.call rfl rfl rfl rfl rfl rfl rfl (((alike_spec q p' qb pb' h.n _ g32).argA).mono ?_)
     rintro _ H3 rfl s3
     have n3' := s3.1
     have Jr := Jr.same s3
     have gr := s3.get gr
     have g33 := s3.get g32
     have g103 := s3.get g102
     have g113 := s3.get g112
     have g123 := s3.get g12
     clear g32 g102 g112 g12 s3
     cases hal : alikeB q p' with
     | false =>
      have hret : putN l p' = (l1, none) := hput _ (by rw [← bT, if_neg (by simp [hal])])
      clear g33 g103 g113 g123
      (refine Go.run (g:=?_))
      refine Go.name ?_
      intro h9 e9
      have k9 : Keeps [h.n + 1] H3 h9 := by subst e9; exact (Keeps.rf _ _).pt (.inl (by simp)) _
      have J9 := Jr.kept k9 (by simp; omega) (by simp; omega) (fun p hp i hi hm => by
       simp only [List.mem_singleton] at hm
       subst hm
       exact sv_notIn (Jr.dv p hp) gr (fun c e => by cases e) hi)
      have g49 : h9.get (h.n + 1) = some (.cells zM 39) := by subst e9; exact get_put_self gr
      clear e9 k9 gr Jr
      (refine Go.fin (by first|exact .inr rfl|exact .inl rfl) (.cellN rfl inferInstance hg_ (by first | exact Nat.le_refl _ | (simp [setL, cellsL]; fail_if_success focus skip) | (simp; omega)) rfl (.tmp rfl (.tmp rfl .nil))) ?_)
      refine ⟨a3, cap3, ?_, ?_⟩
      · rw [← hp', hret]; exact J9
      · rw [← hp', hret]; rfl
     | true =>
      (refine Go.run (g:=?_))
      refine GoR.andN (i := q.fl) (j := 2) rfl rfl rfl rfl rfl rfl q8 (by decide) ?_
      generalize q.fl &&& 2 = w1 at *
      by_cases hq1 : w1 = 0
      case neg =>
       have hret : putN l p' = (l1, none) := hput _ (by rw [← bT, if_neg (fun e => hq1 e.2)])
       clear g33 g103 g113 g123
       (refine Go.run (g:=?_))
       refine Go.name ?_
       intro h9 e9
       have k9 : Keeps [h.n + 1] H3 h9 := by subst e9; exact (Keeps.rf _ _).pt (.inl (by simp)) _
       have J9 := Jr.kept k9 (by simp; omega) (by simp; omega) (fun p hp i hi hm => by
        simp only [List.mem_singleton] at hm
        subst hm
        exact sv_notIn (Jr.dv p hp) gr (fun c e => by cases e) hi)
       have g49 : h9.get (h.n + 1) = some (.cells zM 39) := by subst e9; exact get_put_self gr
       clear e9 k9 gr Jr
       (refine Go.fin (by first|exact .inr rfl|exact .inl rfl) (.cellN rfl inferInstance hg_ (by first | exact Nat.le_refl _ | (simp [setL, cellsL]; fail_if_success focus skip) | (simp; omega)) rfl (.tmp rfl (.tmp rfl .nil))) ?_)
       refine ⟨a3, cap3, ?_, ?_⟩
       · rw [← hp', hret]; exact J9
       · rw [← hp', hret]; rfl
      rw [if_pos ⟨hal, hq1⟩] at bT
      rw [hq1]
      (refine Go.run (g:=?_))
      refine Go.name ?_
      intro H4 e4
      have k4 : Keeps [h6.n + 1] H3 H4 := by subst e4; exact (Keeps.rf _ _).pt (.inl (by simp)) _
      have g114 : H4.get (h6.n + 1) = some (.cells (pC q) 33) := by subst e4; simp only [pC]; exact get_put_self g113
      clear e4
      have J4 := Jr.kept k4 (by simp; omega) (by simp; omega) (fun p hp i hi hm => by
       simp only [List.mem_singleton] at hm
       subst hm
       exact sv_notIn (Jr.dv p hp) g113 (fun c e => by cases e) hi)
      have m4 := k4.1
      exact Go.again (n, k + 1, q, H4) ⟨J4, k4.get g33 (by simp; omega), k4.get gr (by simp; omega), k4.get g103 (by simp), g114, by simp only; omega, bT, by simp only; omega, qb, by simp only; rw [qt, gt]; unfold nxt32; omega, fun i hi => by
       rcases Nat.lt_or_ge k i with hki | hki
       ·
        obtain rfl : i = k + 1 := by simp only at hi; omega
        have e : (p'.t + (k + 1)) % 4294967296 = q.t := by rw [qt, gt]; unfold nxt32; omega
        rw [e]; exact List.mem_map_of_mem qm
       · exact hk i hki⟩ (by simp only; omega) ⟨rfl, rfl, rfl, rfl, rfl, rfl, trivial⟩ rfl rfl
   rw [if_neg hf2] at bT
   subst bT
   simp only at hput
   have hret := hput _ rfl
   clear hput
   (refine Go.run (g:=?_))
   refine GoR.andN (i := g.fl) (j := 1) rfl rfl rfl rfl rfl rfl g8 (by decide) ?_
   generalize g.fl &&& 1 = w2 at *
   have f16 := fb.sid
   have f4 := fb.fl
   (refine Go.run (g:=?_))
   refine GoR.andN (i := f.fl) (j := 4) rfl rfl rfl rfl rfl rfl f4 (by decide) ?_
   generalize f.fl &&& 4 = w4 at *
   obtain ⟨un, hun⟩ : ∃ un, un = (!decide ((w4 : Int) = 0)) := ⟨_, rfl⟩
   have hun2 : decide (¬ w4 = 0) = un := by
    rw [hun]
    by_cases q : w4 = 0
    · rw [decide_eq_true (show (w4 : Int) = 0 by omega), decide_eq_false (by omega)]; rfl
    · rw [decide_eq_false (show ¬ (w4 : Int) = 0 by omega), decide_eq_true q]; rfl
   rw [hun2] at hret
   (refine Go.run (g:=?_))
   rw [← hun]
   refine Go.name ?_
   intro Hs es
   have ks : Keeps [h.n + 1] H Hs := by subst es; exact (Keeps.rf _ _).pt (.inl (by simp)) _
   have gms : Hs.get (h.n + 1) = some (.cells [.int .u16 (f.sid : Nat), .bool un, .int .u32 (f.ppid : Nat), .slice none 0 0] 39) := by subst es; exact get_put_self g4
   have ns : Hs.n = H.n := by subst es; rfl
   clear es
   have Js := J.kept ks (by simp; omega) (by simp; omega) (fun p hp i hi hm => by
    simp only [List.mem_singleton] at hm
    subst hm
    exact sv_notIn (J.dv p hp) g4 (fun c e => by cases e) hi)
   have g3s := ks.get g3 (by simp)
   have g11s := ks.get g11 (by simp; omega)
   have hdl : ∀ q ∈ l1, ∀ i ∈ blk q.a, i < Hs.n := fun q hq i hi => (Js.dv q hq).lt i hi
   have gjs := Js.jc
   have ft32 := fb.t
   have gt32 := gb.t
   clear J g3 g4 g10 g11 hun hun2 ks gsH
   obtain ⟨X, hX⟩ : ∃ X, X = gat (gone f.t g.t) f.t l1 [] := ⟨_, rfl⟩
   rw [← hX] at hret
   refine Go.loop (α := Nat × List PV × List UInt8 × Option Addr × Nat × AHeap) (fun x => [(16, .int .u32 x.1), (11, .pointer (some ⟨h6.n + 1, 0, none⟩)), (3, .pointer (some ⟨h.n, 0, none⟩)), (4, .pointer (some ⟨h.n + 1, 0, none⟩)), (0, .pointer (some ⟨jb, 0, none⟩))]) (fun _ => []) (fun x => x.2.2.2.2.2) (fun x => x.1 < 4294967296 ∧ SMap x.2.2.2.2.2 mr .u32 (pm x.2.1) ∧ x.2.2.2.2.2.get jb = some (.cells [.map (some mr), .int .i64 (heldN l1 : Nat)] 107) ∧ x.2.2.2.2.2.get h.n = some (.cells (pC p') 33) ∧ x.2.2.2.2.2.get (h6.n + 1) = some (.cells (pC g) 33) ∧ x.2.2.2.2.2.get (h.n + 1) = some (.cells [.int .u16 (f.sid : Nat), .bool un, .int .u32 (f.ppid : Nat), .slice x.2.2.2.1 x.2.2.1.length x.2.2.2.2.1] 39) ∧ (∀ q ∈ x.2.1, q ∈ l1) ∧ (∀ q ∈ x.2.1, Sv x.2.2.2.2.2 5 1 q.a q.z.length q.cap (q.z.map bv)) ∧ Sv x.2.2.2.2.2 5 1 x.2.2.2.1 x.2.2.1.length x.2.2.2.2.1 (x.2.2.1.map bv) ∧ Own Hs.n x.2.2.2.1 ∧ Hs.n ≤ x.2.2.2.2.2.n ∧ x.2.2.1.length + heldN x.2.1 = heldN l1 ∧ gat (gone x.1 g.t) x.1 x.2.1 x.2.2.1 = X) (fun x => gone x.1 g.t) (f.t, l1, [], none, 0, Hs) ⟨ft32, Js.mp, gjs, g3s, g11s, gms, fun q hq => hq, Js.dv, Sv.nil, Own.nil _, Nat.le_refl _, by simp, hX.symm⟩ ⟨rfl, rfl, rfl, rfl, rfl, trivial⟩ rfl rfl ?_
   clear Js gjs g3s g11s gms hX
   rintro ⟨u, l2, D, ma, mc, K⟩ ⟨u32, M, gj, g3, g11, gm, hsub, dv, sm, om, nK, hsum, hX⟩
   simp only at u32 M gj g3 g11 gm hsub dv sm om nK hsum hX ⊢
   obtain ⟨x0, x1, x2, x3, x4, qa, qc, hval, hqs, hql⟩ : ∃ x0 x1 x2 x3 x4 qa qc, (Option.map pV (pf l2 u)).getD zP = .agg #[x0, x1, x2, x3, x4, .slice qa (zAt l2 u).length qc] ∧ Sv K 5 1 qa (zAt l2 u).length qc ((zAt l2 u).map bv) ∧ True := by
    unfold zAt
    cases hq : pf l2 u with
    | none => exact ⟨_, _, _, _, _, none, 0, rfl, Sv.nil, trivial⟩
    | some q => exact ⟨_, _, _, _, _, q.a, q.cap, rfl, dv q (pf_mem hq).1, trivial⟩
   have hdel := held_del l2 u
   have hone : ((zAt l2 u).map bv).all Value.oneCell' = true := by simp [bv, Value.oneCell']
   have hzb : D.length + (zAt l2 u).length ≤ 1000000000 := by omega
   have halu := al_pm l2 u
   simp only [pC] at g11
   refine Go.runN (g:=?_)
   refine Go.kk 2 rfl ?_
   refine Go.loud (by kernel_rfl) rfl ?_
   (refine Go.runL (g:=?_))
   refine GoL.lookup1 rfl rfl rfl rfl rfl rfl M.imap ?_
   rw [halu, hval]
   (refine Go.runL (g:=?_))
   refine GoL.field (v := .slice qa (zAt l2 u).length qc) rfl rfl rfl rfl rfl (by kernel_rfl) ?_
   refine GoL.appendV rfl rfl rfl rfl rfl rfl sm hqs.rv (fun i hi => .inr (by have := om i hi; omega)) (by omega) ?_ hone ?_
   ·
    show (D.length + (zAt l2 u).length) * 1 ≤ _
    omega
   intro b2 c2 K2 rd2 wr2 hwr2 hrd2 sm2 k2 o2
   have n2 := k2.1
   have hma : ∀ i, i < Hs.n → i ∉ blk ma := fun i hi hm => by have := om i hm; omega
   have gm2 := k2.get gm (hma _ (by omega))
   have hdis : ∀ b ∈ ([] : List Nat), b ≠ h.n := fun b hb => by cases hb
   have hdis2 := hdis
   (refine Go.runL (g:=?_))
   refine GoL.st (g:=?_)
   (refine Go.runL (g:=?_))
   refine GoL.endC (g:=?_)
   clear hdis hdis2
   refine Go.name ?_
   intro K3 e3
   have k3 : Keeps [h.n + 1] K2 K3 := by subst e3; exact (Keeps.rf _ _).pt (.inl (by simp)) _
   have gm3 : K3.get (h.n + 1) = some (.cells [.int .u16 (f.sid : Nat), .bool un, .int .u32 (f.ppid : Nat), .slice b2 (D.length + (zAt l2 u).length) c2] 39) := by subst e3; exact get_put_self gm2
   have n3 : K3.n = K2.n := by subst e3; rfl
   clear e3
   have M3 := (M.keeps k2 (hma _ (by omega))).keeps k3 (by simp; omega)
   have gj3 := k3.get (k2.get gj (hma _ (by omega))) (by simp; omega)
   have g33 := k3.get (k2.get g3 (hma _ (by omega))) (by simp)
   have g113 := k3.get (k2.get g11 (hma _ (by omega))) (by simp; omega)
   have dv3 : ∀ q ∈ l2, Sv K3 5 1 q.a q.z.length q.cap (q.z.map bv) := fun q hq => by
    have h2 := (dv q hq).keeps k2 (fun i hi => hma i (hdl q (hsub q hq) i hi))
    exact h2.keeps k3 (fun i hi hm => by
     simp only [List.mem_singleton] at hm
     subst hm
     exact sv_notIn h2 gm2 (fun c e => by cases e) hi)
   have sm3 := sm2.keeps k3 (fun i hi hm => by
    simp only [List.mem_singleton] at hm
    subst hm
    exact sv_notIn sm2 gm2 (fun c e => by cases e) hi)
   have om3 : Own Hs.n b2 := fun i hi => by
    rcases o2 i hi with z | z
    · exact om i z
    · omega
   clear M gj g3 g11 gm dv sm om hqs k2 k3 sm2 gm2 hval halu
   rw [← List.map_append] at sm3
   have hDl : D.length + (zAt l2 u).length = (D ++ zAt l2 u).length := by rw [List.length_append]
   rw [hDl] at sm3 gm3 hzb
   (refine Go.run (g:=?_))
   refine GoR.deleteS rfl rfl rfl rfl rfl M3 (.inl (by simp)) ?_
   intro K4 M4 k4 n4
   rw [adel_pm] at M4
   have hmrs : mr < Hs.n := by omega
   have gj4 := k4.get gj3 (by simp; exact hjm)
   have g34 := k4.get g33 (by simp; omega)
   have g114 := k4.get g113 (by simp; omega)
   have gm4 := k4.get gm3 (by simp; omega)
   obtain ⟨es3, ck3, gmr3, -⟩ := M3
   have dv4 : ∀ q ∈ pdel l2 u, Sv K4 5 1 q.a q.z.length q.cap (q.z.map bv) := fun q hq => (dv3 q (pdel_sub hq)).keeps k4 (fun i hi hm => by
    simp only [List.mem_singleton] at hm
    subst hm
    exact sv_notIn (dv3 q (pdel_sub hq)) gmr3 (fun c e => by cases e) hi)
   have sm4 := sm3.keeps k4 (fun i hi hm => by
    simp only [List.mem_singleton] at hm
    subst hm
    exact sv_notIn sm3 gmr3 (fun c e => by cases e) hi)
   clear gj3 g33 g113 gm3 dv3 sm3 k4 gmr3
   by_cases hug : u = g.t
   case neg =>
    (refine Go.run (g:=?_))
    refine GoR.bin rfl rfl rfl rfl rfl rfl (add32p u) ?_
    (refine Go.run (g:=?_))
    have hgn : gone u g.t = gone (nxt32 u) g.t + 1 := by unfold gone nxt32; omega
    rw [hgn, gat_succ] at hX
    exact Go.again (nxt32 u, pdel l2 u, D ++ zAt l2 u, b2, c2, K4) ⟨nxt32_lt u, M4, gj4, g34, g114, gm4, fun q hq => hsub q (pdel_sub hq), dv4, sm4, om3, by simp only; omega, by simp only; omega, hX⟩ (by simp only; omega) ⟨rfl, rfl, rfl, rfl, rfl, trivial⟩ rfl rfl
   have hg0 : gone u g.t = 0 := by unfold gone; omega
   rw [hg0] at hX
   rw [gat_zero] at hX
   subst hX
   simp only at hret
   have hsub2 : ∀ q ∈ pdel l2 u, q ∈ l1 := fun q hq => hsub q (pdel_sub hq)
   have hsum2 : heldN (pdel l2 u) = heldN l1 - (D ++ zAt l2 u).length := by omega
   have hsum3 : (D ++ zAt l2 u).length ≤ heldN l1 := by omega
   generalize D ++ zAt l2 u = D2 at *
   generalize pdel l2 u = l3 at *
   clear hsum hdel hone hsub hDl
   subst hug
   refine Go.runN (g:=?_)
   refine Go.kk 2 rfl ?_
   refine Go.loud (by kernel_rfl) rfl ?_
   (refine Go.runL (g:=?_))
   refine GoL.st (g:=?_)
   (refine Go.runL (g:=?_))
   refine GoL.endN (g:=?_)
   refine Go.name ?_
   intro K5 e5
   have k5 : Keeps [jb] K4 K5 := by subst e5; exact (Keeps.rf _ _).pt (.inl (by simp)) _
   have gj5 : K5.get jb = some (.cells [.map (some mr), .int .i64 (heldN l1 - D2.length : Nat)] 107) := by subst e5; exact get_put_self gj4
   have n5 : K5.n = K4.n := by subst e5; rfl
   clear e5
   rw [← hsum2] at gj5
   have J5 : FJ K5 jb mr l3 n0 := ⟨gj5, M4.keeps k5 (by simp; exact Ne.symm hjm), fun q hq => (dv4 q hq).keeps k5 (fun i hi hm => by simp only [List.mem_singleton] at hm; subst hm; exact sv_notIn (dv4 q hq) gj4 (fun c e => by cases e) hi), fun q hq => hL q (hsub2 q hq), how⟩
   have sm5 := sm4.keeps k5 (fun i hi hm => by simp only [List.mem_singleton] at hm; subst hm; exact sv_notIn sm4 gj4 (fun c e => by cases e) hi)
   have g35 := k5.get g34 (by simp; omega)
   have gm5 := k5.get gm4 (by simp; omega)
   clear gj4 M4 g34 g114 gm4 dv4 sm4 k5 hsub2
   simp only [pC] at g35
   refine Go.runN (g:=?_)
   refine Go.kk 2 rfl ?_
   refine Go.loud (by kernel_rfl) rfl ?_
   (refine Go.runL (g:=?_))
   refine GoL.st (g:=?_)
   (refine Go.runL (g:=?_))
   refine GoL.endN (g:=?_)
   refine Go.name ?_
   intro K6 e6
   have k6 : Keeps [h.n + 1] K5 K6 := by subst e6; exact (Keeps.rf _ _).pt (.inl (by simp)) _
   have gm6 : K6.get (h.n + 1) = some (.cells [.int .u16 (f.sid : Nat), .bool un, .int .u32 (f.ppid : Nat), .slice b2 D2.length c2] 39) := by subst e6; exact get_put_self gm5
   clear e6
   have J6 := J5.kept k6 (by simp; omega) (by simp; omega) (fun p hp i hi hm => by
    simp only [List.mem_singleton] at hm
    subst hm
    exact sv_notIn (J5.dv p hp) gm5 (fun c e => by cases e) hi)
   have sm6 := sm5.keeps k6 (fun i hi hm => by
    simp only [List.mem_singleton] at hm
    subst hm
    exact sv_notIn sm5 gm5 (fun c e => by cases e) hi)
   clear J5 gm5 sm5 k6 g35
   rw [hssn]
   (refine Go.run (g:=?_))
   (refine Go.fin (by first|exact .inr rfl|exact .inl rfl) (.cellN rfl inferInstance hg_ (by first | exact Nat.le_refl _ | (simp [setL, cellsL]; fail_if_success focus skip) | (simp; omega)) rfl (.tmp rfl (.tmp rfl .nil))) ?_)
   refine ⟨a3, cap3, ?_, ?_⟩
   · rw [← hp', hret]; exact J6
   ·
    rw [← hp', hret]
    exact ⟨b2, c2, rfl, sm6, fun i hi => by have := om3 i hi; omega⟩
end Go.Proofs.Ytccbmmnkiihkaaa
namespace Go.Proofs.Ytccbmmnkiihkaaa
set_option maxRecDepth 100000
structure IM where
 sid : Nat
 un : Bool
 ppid : Nat
 a : Option Addr
 cap : Nat
 z : List UInt8
def iC (m : IM) : List Value := [.int .u16 (m.sid : Nat), .bool m.un, .int .u32 (m.ppid : Nat), .slice m.a m.z.length m.cap]
def iV (m : IM) : Value := .agg (iC m).toArray
def ics (l : List IM) : List Value := (l.map iC).flatten
theorem ics_len (l : List IM) : (ics l).length = l.length * 4 := by
 induction l with
 | nil => rfl
 | cons x l ih => simp only [ics, List.map_cons, List.flatten_cons, List.length_append, iC, List.length_cons, List.length_nil] at ih ⊢; omega
theorem ics_snoc (l : List IM) (m : IM) : ics (l ++ [m]) = ics l ++ iC m := by simp [ics]
def tf (k : Nat × Nat) : Value := .agg #[.int .u16 (k.1 : Nat), .int .u16 (k.2 : Nat)]
abbrev WL := List ((Nat × Nat) × IM)
def wv (l : WL) : List ((Nat × Nat) × Value) := l.map fun p => (p.1, iV p.2)
theorem gl_wv (l : WL) (k : Nat × Nat) : gl (wv l) k = (gl l k).map iV := by
 induction l with
 | nil => rfl
 | cons p l ih =>
  show (if p.1 = k then some (iV p.2) else gl (wv l) k) = (if p.1 = k then some p.2 else gl l k).map iV
  by_cases h : p.1 = k
  · rw [if_pos h, if_pos h]; rfl
  · rw [if_neg h, if_neg h, ih]
theorem gdel_wv (l : WL) (k : Nat × Nat) : gdel (wv l) k = wv (gdel l k) := by
 induction l with
 | nil => rfl
 | cons p l ih =>
  show (if p.1 = k then wv l else (p.1, iV p.2) :: gdel (wv l) k) = wv (if p.1 = k then l else p :: gdel l k)
  by_cases h : p.1 = k
  · rw [if_pos h, if_pos h]
  · rw [if_neg h, if_neg h, ih]; rfl
theorem gset_wv (l : WL) (k : Nat × Nat) (m : IM) (h : gl l k = none) : gset (wv l) k (iV m) = wv (l ++ [(k, m)]) := by
 induction l with
 | nil => rfl
 | cons p l ih =>
  show (if p.1 = k then _ else _) = _
  unfold gl at h
  by_cases e : p.1 = k
  · rw [if_pos e] at h; cases h
  ·
   rw [if_neg e] at h
   rw [if_neg e]
   show _ :: gset (wv l) k (iV m) = _
   rw [ih h]; rfl
def nv (l : List (Nat × Nat)) : List (Int × Value) := l.map fun p => ((p.1 : Int), Value.int .u16 (p.2 : Nat))
def nget : List (Nat × Nat) → Nat → Nat
 | [], _ => 0
 | p :: l, k => if p.1 = k then p.2 else nget l k
def nput : List (Nat × Nat) → Nat → Nat → List (Nat × Nat)
 | [], k, v => [(k, v)]
 | p :: l, k, v => if p.1 = k then (k, v) :: l else p :: nput l k v
theorem al_nv : ∀ (l : List (Nat × Nat)) (k : Nat), (al (nv l) k).getD (.int .u16 0) = .int .u16 (nget l k : Nat)
 | [], k => rfl
 | p :: l, k => by
  show (if ((p.1 : Nat) : Int) = (k : Int) then some (Value.int .u16 (p.2 : Nat)) else al (nv l) k).getD _ = _
  unfold nget
  by_cases h : p.1 = k
  · rw [if_pos h, if_pos (by omega)]; rfl
  · rw [if_neg h, if_neg (by omega)]; exact al_nv l k
theorem aset_nv : ∀ (l : List (Nat × Nat)) (k v : Nat), aset (nv l) k (.int .u16 (v : Nat)) = nv (nput l k v)
 | [], k, v => rfl
 | p :: l, k, v => by
  show (if ((p.1 : Nat) : Int) = (k : Int) then _ else _) = _
  unfold nput
  by_cases h : p.1 = k
  · rw [if_pos h, if_pos (by omega)]; subst h; rfl
  ·
   rw [if_neg h, if_neg (by omega)]
   show _ :: aset (nv l) k (.int .u16 (v : Nat)) = _
   rw [aset_nv l k v]; rfl
theorem nput_lt {l : List (Nat × Nat)} {k v : Nat} (h : ∀ p ∈ l, p.2 < 65536) (hv : v < 65536) : ∀ p ∈ nput l k v, p.2 < 65536 := by
 induction l with
 | nil => intro p hp; simp only [nput, List.mem_singleton] at hp; subst hp; exact hv
 | cons x l ih =>
  intro p hp
  unfold nput at hp
  split at hp
  ·
   rcases List.mem_cons.1 hp with rfl | q
   · exact hv
   · exact h p (by simp [q])
  ·
   rcases List.mem_cons.1 hp with rfl | q
   · exact h _ (by simp)
   · exact ih (fun p hp => h p (by simp [hp])) p q
theorem nget_lt {l : List (Nat × Nat)} {k : Nat} (h : ∀ p ∈ l, p.2 < 65536) : nget l k < 65536 := by
 induction l with
 | nil => exact Nat.zero_lt_succ _
 | cons x l ih =>
  unfold nget
  split
  · exact h x (by simp)
  · exact ih fun p hp => h p (by simp [hp])
def lenI (l : List IM) : Nat := (l.map fun m => m.z.length).sum
def lenW (l : WL) : Nat := (l.map fun p => p.2.z.length).sum
theorem lenI_snoc (l : List IM) (m : IM) : lenI (l ++ [m]) = lenI l + m.z.length := by simp [lenI]
theorem lenW_snoc (l : WL) (p : (Nat × Nat) × IM) : lenW (l ++ [p]) = lenW l + p.2.z.length := by simp [lenW]
theorem lenW_del : ∀ (l : WL) (k : Nat × Nat) (m : IM), gl l k = some m → lenW (gdel l k) + m.z.length = lenW l
 | p :: l, k, m, h => by
  unfold gl at h
  unfold gdel
  by_cases e : p.1 = k
  ·
   rw [if_pos e] at h; cases h
   rw [if_pos e]; simp only [lenW, List.map_cons, List.sum_cons]; omega
  ·
   rw [if_neg e] at h
   rw [if_neg e]
   have := lenW_del l k m h
   simp only [lenW, List.map_cons, List.sum_cons] at this ⊢; omega
theorem gl_memW {l : WL} {k : Nat × Nat} {m : IM} (h : gl l k = some m) : m ∈ l.map (·.2) := by
 induction l with
 | nil => cases h
 | cons p l ih =>
  unfold gl at h
  split at h
  · cases h; simp
  · simp only [List.map_cons, List.mem_cons]; exact .inr (ih h)
theorem gdel_memW {l : WL} {k : Nat × Nat} {m : IM} (h : m ∈ (gdel l k).map (·.2)) : m ∈ l.map (·.2) := by
 induction l with
 | nil => exact h
 | cons p l ih =>
  unfold gdel at h
  split at h
  · simp only [List.map_cons, List.mem_cons]; exact .inr h
  ·
   simp only [List.map_cons, List.mem_cons] at h ⊢
   exact h.imp id ih
theorem gdel_len {l : WL} {k : Nat × Nat} {m : IM} (h : gl l k = some m) : (gdel l k).length + 1 = l.length := by
 induction l with
 | nil => cases h
 | cons p l ih =>
  unfold gl at h
  unfold gdel
  split at h
  · rename_i e; rw [if_pos e]; rfl
  · rename_i e; rw [if_neg e]; simp only [List.length_cons]; rw [ih h]
def nx16 (t : Nat) : Nat := (t + 1) % 65536
def drainN : Nat → Nat → Nat → WL → List IM → Nat × WL × List IM
 | 0, sid, t, w, rd => (t, w, rd)
 | n + 1, sid, t, w, rd => match gl w (sid, t) with
  | some m => drainN n sid (nx16 t) (gdel w (sid, t)) (rd ++ [m])
  | none => (t, w, rd)
theorem drain_len : ∀ (n sid t : Nat) (w : WL) (rd : List IM), lenW (drainN n sid t w rd).2.1 + lenI (drainN n sid t w rd).2.2 = lenW w + lenI rd
 | 0, sid, t, w, rd => rfl
 | n + 1, sid, t, w, rd => by
  unfold drainN
  cases h : gl w (sid, t) with
  | none => rfl
  | some m =>
   have h1 := drain_len n sid (nx16 t) (gdel w (sid, t)) (rd ++ [m])
   have h2 := lenW_del w (sid, t) m h
   rw [lenI_snoc] at h1
   simp only
   omega
def bef16 (a b : Nat) : Bool := decide (0 < (b + 65536 - a) % 65536) && decide ((b + 65536 - a) % 65536 < 32768)
structure IS where
 next : List (Nat × Nat)
 waits : WL
 ready : List IM
def msgN (s : IS) (m : IM) (ssn : Nat) : Option IS :=
 if m.un = true then some { s with ready := s.ready ++ [m] }
 else if ssn = nget s.next m.sid then some { next := nput s.next m.sid (drainN (s.waits.length + 1) m.sid (nx16 ssn) s.waits (s.ready ++ [m])).1, waits := (drainN (s.waits.length + 1) m.sid (nx16 ssn) s.waits (s.ready ++ [m])).2.1, ready := (drainN (s.waits.length + 1) m.sid (nx16 ssn) s.waits (s.ready ++ [m])).2.2 }
 else if bef16 (nget s.next m.sid) ssn = true ∧ gl s.waits (m.sid, ssn) = none then some { s with waits := s.waits ++ [((m.sid, ssn), m)] }
 else none
def lenS (s : IS) : Nat := lenW s.waits + lenI s.ready
theorem msg_len {s s' : IS} {m : IM} {ssn : Nat} (h : msgN s m ssn = some s') : lenS s' = lenS s + m.z.length := by
 unfold msgN at h
 split at h
 · cases h; simp only [lenS, lenI_snoc]; omega
 ·
  split at h
  ·
   cases h
   have := drain_len (s.waits.length + 1) m.sid (nx16 ssn) s.waits (s.ready ++ [m])
   rw [lenI_snoc] at this
   simp only [lenS]; omega
  ·
   split at h
   · cases h; simp only [lenS, lenW_snoc]; omega
   · cases h
end Go.Proofs.Ytccbmmnkiihkaaa
namespace Go.Proofs.Ytccbmmnkiihkaaa
set_option maxRecDepth 100000
attribute [local irreducible] Go GoR GoL
theorem calm_bind {α β : Type} (P : Program) (x : Sem α) (f : α → Sem β) : calm P (x >>= f) = (calm P x).bind fun a => calm P (f a) := by
 induction x with
 | pure a => rfl
 | program k ih => exact ih P
 | mark m k ih => exact ih
 | _ => rfl
theorem calm_ite {α : Type} (P : Program) (c : Prop) [Decidable c] (x y : Sem α) : calm P (if c then x else y) = if c then calm P x else calm P y := by split <;> rfl
theorem calm_pure {α : Type} (P : Program) (a : α) : calm P (pure a) = some a := rfl
theorem calm_prog (P : Program) : calm P program = some P := rfl
theorem calm_under {P : Program} {t : TypeId} {d : TypeDesc} (h : P.underlying t = some d) : calm P (underlying t) = some d := by
 simp only [underlying, calm_bind, calm_prog, Option.bind_some, h, calm_pure]
theorem turn_calm (n : Nat) (a b : Nat × Nat) : calm Try.prog (Op.equalIn (n + 2) 115 (tf a) (tf b)) = some (((a.1 : Int) == (b.1 : Int)) && ((a.2 : Int) == (b.2 : Int))) := by
 have hu := Try.underlying115
 have h16 : Try.prog.underlying 22 = some (.int .u16) := by kernel_rfl
 have hs : Try.prog.stoodInHeld 115 = false := by kernel_rfl
 have leaf : ∀ x y : Int, calm Try.prog (Op.equalIn (n + 1) 22 (.int .u16 x) (.int .u16 y)) = some (x == y) := fun x y => by
  rw [Op.equalIn, calm_bind, calm_under h16]
  rfl
 have p0 : ∀ k : Nat × Nat, calm Try.prog (part 22 #[.int .u16 (k.1 : Nat), .int .u16 (k.2 : Nat)] 0) = some (.int .u16 (k.1 : Nat)) := fun k => by kernel_rfl
 have p1 : ∀ k : Nat × Nat, calm Try.prog (part 22 #[.int .u16 (k.1 : Nat), .int .u16 (k.2 : Nat)] 1) = some (.int .u16 (k.2 : Nat)) := fun k => by kernel_rfl
 unfold tf
 rw [Op.equalIn, calm_bind, calm_under hu]
 simp only [Option.bind_some, calm_bind, calm_prog, hs, Bool.false_eq_true, if_false, calm_pure]
 rw [← Array.forIn_toList]
 simp only [List.forIn_cons, List.forIn_nil, calm_bind, calm_ite, calm_pure, p0, p1, leaf, Option.bind_some]
 generalize ((a.1 : Int) == (b.1 : Int)) = r0
 cases r0 with
 | false => rfl
 | true =>
  have e1 : calm Try.prog (if "ssn" ≠ "_" then do
    let x ← part 22 #[.int .u16 (a.1 : Nat), .int .u16 (a.2 : Nat)] 1
    let y ← part 22 #[.int .u16 (b.1 : Nat), .int .u16 (b.2 : Nat)] 1
    let r ← Op.equalIn (n + 1) 22 x y
    if (!r) = true then pure (ForInStep.done (some false, ())) else pure (ForInStep.yield (none, ()))
    else pure (ForInStep.yield (none, ()))) = some (if (!((a.2 : Int) == (b.2 : Int))) = true then ForInStep.done (some false, ()) else ForInStep.yield (none, ())) := by
   rw [if_pos (by decide), calm_bind, p1, Option.bind_some, calm_bind, p1, Option.bind_some, calm_bind, leaf, Option.bind_some, calm_ite]
   split <;> rfl
  generalize ((a.2 : Int) == (b.2 : Int)) = r1 at *
  rw [if_pos (by decide), if_neg (by decide), Option.bind_some]
  dsimp only
  rw [calm_bind, e1]
  cases r1 <;> rfl
theorem turn_eq (a b : Nat × Nat) : eqKey Try.prog ((Try.prog.underlying 115).getD default) 115 (tf a) (tf b) = some (decide (a = b)) := by
 have h : eqKey Try.prog ((Try.prog.underlying 115).getD default) 115 (tf a) (tf b) = calm Try.prog (Op.equalIn (9998 + 2) 115 (tf a) (tf b)) := by
  rw [Try.underlying115]
  rfl
 rw [h, turn_calm]
 congr 1
 obtain ⟨a1, a2⟩ := a
 obtain ⟨b1, b2⟩ := b
 simp only
 by_cases q : a1 = b1
 ·
  by_cases r : a2 = b2
  · subst q r; simp
  ·
   rw [decide_eq_false (fun e => r (Prod.mk.inj e).2)]
   have : ((a2 : Int) == (b2 : Int)) = false := beq_eq_false_iff_ne.2 (by omega)
   rw [this]; simp
 ·
  rw [decide_eq_false (fun e => q (Prod.mk.inj e).1)]
  have : ((a1 : Int) == (b1 : Int)) = false := beq_eq_false_iff_ne.2 (by omega)
  rw [this]; simp
instance mgWaits : MG Try.prog 82 tf (.agg #[.int .u16 0, .bool false, .int .u32 0, .slice none 0 0]) := ⟨115, 39, (Try.prog.underlying 115).getD default, by kernel_rfl, by kernel_rfl, by kernel_rfl, rfl, fun em n => by kernel_rfl, turn_eq, fun a => rfl, fun a => by simp [tf, Instr.sameBits]⟩
instance miNext : MI Try.prog 81 .u16 (.int .u16 0) := ⟨22, 22, by kernel_rfl, by kernel_rfl, by kernel_rfl, rfl, fun em n => by kernel_rfl⟩
abbrev xC (st rm sp sb jb nx wt : Nat) (ra : Option Addr) (rl rc wh : Nat) : List Value := [.int .u16 (st : Nat), .int .i64 (rm : Nat), .int .i64 (sp : Nat), .pointer (some ⟨sb, 0, none⟩), .pointer (some ⟨jb, 0, none⟩), .map (some nx), .map (some wt), .slice ra rl rc, .int .i64 (wh : Nat)]
structure IA where
 st : Nat
 rm : Nat
 sp : Nat
 sb : Nat
 jb : Nat
 nx : Nat
 wt : Nat
structure IX (h : AHeap) (xb : Nat) (A : IA) (ra : Option Addr) (rc wh : Nat) (s : IS) (n0 : Nat) : Prop where
 xc : h.get xb = some (.cells (xC A.st A.rm A.sp A.sb A.jb A.nx A.wt ra s.ready.length rc wh) 84)
 nm : SMap h A.nx .u16 (nv s.next)
 wm : GMap tf h A.wt (wv s.waits)
 rv : Sv h 39 4 ra s.ready.length rc (ics s.ready)
 dr : ∀ m ∈ s.ready, Sv h 5 1 m.a m.z.length m.cap (m.z.map bv)
 dw : ∀ m ∈ s.waits.map (·.2), Sv h 5 1 m.a m.z.length m.cap (m.z.map bv)
 mr : ∀ m ∈ s.ready, m.sid < 65536 ∧ m.ppid < 4294967296
 mw : ∀ m ∈ s.waits.map (·.2), m.sid < 65536 ∧ m.ppid < 4294967296
 nb : ∀ p ∈ s.next, p.2 < 65536
 ne : A.nx ≠ A.wt
 ow : n0 ≤ xb ∧ n0 ≤ A.nx ∧ n0 ≤ A.wt ∧ Own n0 ra
theorem sv_out {h : AHeap} {t : TypeId} {sz : Nat} {a : Option Addr} {len cap : Nat} {cs : List Value} (k : Sv h t sz a len cap cs) {j : Nat} {o : AObj} (g : h.get j = some o) (ho : ∀ c, o ≠ .cells c t) : j ∉ blk a := by
 intro hj
 cases k with
 | nil => cases hj
 | mk hg _ _ _ =>
  simp only [blk, List.mem_singleton] at hj
  subst hj
  rw [g] at hg
  cases hg
  exact ho _ rfl
theorem sv_sv {h : AHeap} {t t' : TypeId} {sz sz' : Nat} {a a' : Option Addr} {len cap len' cap' : Nat} {cs cs' : List Value} (k : Sv h t sz a len cap cs) (k' : Sv h t' sz' a' len' cap' cs') (ht : t ≠ t') : ∀ j ∈ blk a, j ∉ blk a' := by
 intro j hj
 cases k with
 | nil => cases hj
 | mk hg _ _ _ =>
  simp only [blk, List.mem_singleton] at hj
  subst hj
  exact sv_out k' hg fun c e => by cases e; exact ht rfl
section
variable {h h' : AHeap} {xb : Nat} {A : IA} {ra : Option Addr} {rc wh : Nat} {s : IS} {n0 : Nat}
theorem IX.xr (X : IX h xb A ra rc wh s n0) : xb ∉ blk ra := sv_out X.rv X.xc fun c e => by cases e
theorem IX.nr (X : IX h xb A ra rc wh s n0) : A.nx ∉ blk ra := by obtain ⟨es, ck, g, -⟩ := X.nm; exact sv_out X.rv g fun c e => by cases e
theorem IX.wr (X : IX h xb A ra rc wh s n0) : A.wt ∉ blk ra := by obtain ⟨es, ck, g, -⟩ := X.wm; exact sv_out X.rv g fun c e => by cases e
theorem IX.xn (X : IX h xb A ra rc wh s n0) : A.nx ≠ xb := fun e => by obtain ⟨es, ck, g, -⟩ := X.nm; have := X.xc; rw [← e, g] at this; cases this
theorem IX.xw (X : IX h xb A ra rc wh s n0) : A.wt ≠ xb := fun e => by obtain ⟨es, ck, g, -⟩ := X.wm; have := X.xc; rw [← e, g] at this; cases this
theorem IX.out (X : IX h xb A ra rc wh s n0) {a : Option Addr} {len cap : Nat} {cs : List Value} (k : Sv h 5 1 a len cap cs) : ∀ i ∈ blk a, i ∉ [xb, A.nx, A.wt] ++ blk ra := fun i hi hm => by
 simp only [List.cons_append, List.nil_append, List.mem_cons] at hm
 rcases hm with rfl | rfl | rfl | q
 · exact sv_out k X.xc (fun c e => by cases e) hi
 · obtain ⟨es, ck, g, -⟩ := X.nm; exact sv_out k g (fun c e => by cases e) hi
 · obtain ⟨es, ck, g, -⟩ := X.wm; exact sv_out k g (fun c e => by cases e) hi
 · exact sv_sv k X.rv (by decide) i hi q
theorem IX.same (X : IX h xb A ra rc wh s n0) (k : Same h h') : IX h' xb A ra rc wh s n0 := { X with xc := k.get X.xc, nm := X.nm.same k, wm := X.wm.same k, rv := X.rv.same k, dr := fun m hm => (X.dr m hm).same k, dw := fun m hm => (X.dw m hm).same k }
end
set_option maxHeartbeats 8000000 in
theorem tells_spec (xb : Nat) (A : IA) (ra : Option Addr) (rc wh : Nat) (s : IS) (n0 : Nat) (m : IM) (hl : s.ready.length ≤ 1000000) (h : AHeap) (hn0 : n0 ≤ h.n) (X : IX h xb A ra rc wh s n0) (hm : m.sid < 65536 ∧ m.ppid < 4294967296) (hz : Sv h 5 1 m.a m.z.length m.cap (m.z.map bv)) : CallS Try.prog ([xb] ++ blk ra) 55 [.pointer (some ⟨xb, 0, none⟩), iV m] h fun v h' => ∃ ra' rc', IX h' xb A ra' rc' wh { s with ready := s.ready ++ [m] } n0 ∧ ∀ i ∈ blk ra', i ∈ blk ra ∨ h.n ≤ i := by
 have gx := X.xc
 have hlt := AHeap.lt gx
 have xr := X.xr
 have rlt := X.rv.lt
 (refine CallS.of2 Try.func55 rfl Try.ntmps55 Try.results55 rfl ?_)
 simp only [iV, iC]
 refine Go.runN (g:=?_)
 refine Go.name ?_
 intro h1 e1
 have s1 : Same h h1 := by subst e1; exact (Same.refl h).push _
 have g1 : h1.get h.n = some (.cells [.int .u16 (m.sid : Nat), .bool m.un, .int .u32 (m.ppid : Nat), .slice m.a m.z.length m.cap] 39) := by subst e1; exact AHeap.get_push_same _ _
 have n1 : h1.n = h.n + 1 := by subst e1; rfl
 clear e1
 have X1 := X.same s1
 have gx1 := X1.xc
 clear X gx
 refine Go.kk 2 rfl ?_
 refine Go.loud (by kernel_rfl) rfl ?_
 (refine Go.runL (g:=?_))
 refine GoL.buildRo (c := iC m) rfl rfl rfl rfl rfl (by decide) (by rfl) (by rfl) ?_
 intro b2 h2 hb2 rb2 ob2 s2 n2
 have m2 := s2.1
 have X2 := X1.same s2
 refine GoL.appendV rfl rfl rfl rfl rfl rfl X2.rv hb2 (fun i hi => .inl (by simp [hi])) (by omega) (by omega) (by rfl) ?_
 intro b3 c3 h3 rd3 wr3 hwr3 hrd3 sv3 k3 o3
 have m3 := k3.1
 have gx3 := k3.get X2.xc xr
 have hdis : ∀ b ∈ wr3, b ≠ h.n ∧ b ≠ xb := fun b hb => by
  have q := hwr3 b hb
  have := rlt b q
  exact ⟨by omega, fun e => xr (by rw [← e]; exact q)⟩
 have hdis2 := hdis
 (refine Go.runL (g:=?_))
 refine GoL.st (g:=?_)
 (refine Go.runL (g:=?_))
 refine GoL.endC (g:=?_)
 clear hdis hdis2
 refine Go.name ?_
 intro h4 e4
 have k4 : Keeps [xb] h3 h4 := by subst e4; exact (Keeps.rf _ _).pt (.inl (by simp)) _
 have gx4 : h4.get xb = some (.cells (xC A.st A.rm A.sp A.sb A.jb A.nx A.wt b3 (s.ready.length + 1) c3 wh) 84) := by subst e4; exact get_put_self gx3
 clear e4
 have o4 : ∀ i ∈ blk b3, i ∈ blk ra ∨ h.n ≤ i := fun i hi => (o3 i hi).imp id fun q => by omega
 have xb3 : xb ∉ blk b3 := fun q => by
  rcases o4 _ q with z | z
  · exact xr z
  · omega
 have k24 : Keeps ([xb] ++ blk ra) h2 h4 := ⟨by have := k3.1; have := k4.1; omega, fun i hi hn => by
  simp only [List.cons_append, List.nil_append, List.mem_cons, not_or] at hn
  rw [k4.2 i (by have := k3.1; omega) (by simpa using hn.1), k3.2 i hi hn.2]⟩
 have dat : ∀ {a : Option Addr} {len cap : Nat} {cs : List Value}, Sv h2 5 1 a len cap cs → Sv h4 5 1 a len cap cs := fun k => k.keeps k24 fun i hi q => X2.out k i hi (by simp only [List.cons_append, List.nil_append, List.mem_cons] at q ⊢; rcases q with q | q; exact .inl q; exact .inr (.inr (.inr q)))
 have nxk : A.nx ∉ [xb] ++ blk ra := fun q => by
  simp only [List.cons_append, List.nil_append, List.mem_cons] at q
  rcases q with q | q
  · exact X2.xn q
  · exact X2.nr q
 have wtk : A.wt ∉ [xb] ++ blk ra := fun q => by
  simp only [List.cons_append, List.nil_append, List.mem_cons] at q
  rcases q with q | q
  · exact X2.xw q
  · exact X2.wr q
 have hl4 : (s.ready ++ [m]).length = s.ready.length + 1 := by simp
 (first|refine Go.finA rfl ?_|refine Go.finB rfl (hq:=?_))
 refine ⟨b3, c3, ⟨by simp only [hl4]; exact gx4, X2.nm.keeps k24 nxk, X2.wm.keeps k24 wtk, ?_, fun q hq => ?_, fun q hq => dat (X2.dw q hq), fun q hq => ?_, X2.mw, X2.nb, X2.ne, ⟨X2.ow.1, X2.ow.2.1, X2.ow.2.2.1, fun i hi => ?_⟩⟩, o4⟩
 ·
  simp only [hl4]
  rw [ics_snoc]
  exact sv3.keeps k4 (fun i hi q => by simp only [List.mem_singleton] at q; subst q; exact xb3 hi)
 ·
  rcases List.mem_append.1 hq with z | z
  · exact dat (X2.dr q z)
  ·
   simp only [List.mem_singleton] at z
   subst z
   exact dat (hz.same (s1.trans s2))
 ·
  rcases List.mem_append.1 hq with z | z
  · exact X2.mr q z
  ·
   simp only [List.mem_singleton] at z
   subst z
   exact hm
 ·
  rcases o4 i hi with z | z
  · exact X2.ow.2.2.2 i z
  · omega
end Go.Proofs.Ytccbmmnkiihkaaa
namespace Go.Proofs.Ytccbmmnkiihkaaa
set_option maxRecDepth 100000
attribute [local irreducible] Go GoR GoL
def span16 (a b : Nat) : Nat := (b + 65536 - a) % 65536
theorem span16_lt (a b : Nat) : span16 a b < 65536 := Nat.mod_lt _ (by decide)
theorem sub16 (a b : Nat) (ha : a < 65536) (hb : b < 65536) : iBin .sub .u16 (b : Int) (a : Int) = some (.int .u16 ((span16 a b : Nat) : Int)) := by
 have e : ((span16 a b : Nat) : Int) = ((b : Int) - (a : Int)) % 65536 := by unfold span16; omega
 simp [iBin, IntKind.wrap, IntKind.bits, IntKind.signed, e]
theorem add16n (e : Nat) : iBin .add .u16 (e : Int) ((1 : Nat) : Int) = some (.int .u16 ((nx16 e : Nat) : Int)) := by
 have q : ((nx16 e : Nat) : Int) = ((e : Int) + 1) % 65536 := by unfold nx16; omega
 simp [iBin, IntKind.wrap, IntKind.bits, IntKind.signed, q]
theorem nx16_lt (e : Nat) : nx16 e < 65536 := Nat.mod_lt _ (by decide)
set_option maxHeartbeats 8000000 in
theorem before16_spec (a b : Nat) (ha : a < 65536) (hb : b < 65536) (h : AHeap) : CallS Try.prog [] 56 [.int .u16 a, .int .u16 b] h fun v h' => v = .bool (bef16 a b) ∧ h' = h := by
 have hs := sub16 a b ha hb
 have hl := span16_lt a b
 have hb16 : bef16 a b = (decide (0 < span16 a b) && decide (span16 a b < 32768)) := rfl
 rw [hb16]
 generalize span16 a b = s at *
 (refine CallS.of2 Try.func56 rfl Try.ntmps56 Try.results56 rfl ?_)
 (iterate 8 (refine Go.one (g:=?_)))
 refine GoR.bin rfl rfl rfl rfl rfl rfl hs ?_
 rcases Nat.lt_or_ge 0 s with s0 | s0
 case inr =>
  obtain rfl : s = 0 := by omega
  (refine Go.run (g:=?_))
  (first|refine Go.finA rfl ?_|refine Go.finB rfl (hq:=?_))
  exact ⟨rfl, rfl⟩
 (refine Go.run (g:=?_))
 refine GoR.com (v := .int .u16 (65535 : Nat)) rfl rfl rfl rfl rfl (by kernel_rfl) ?_
 (refine Go.run (g:=?_))
 (first|refine Go.finA rfl ?_|refine Go.finB rfl (hq:=?_))
 refine ⟨?_, rfl⟩
 simp only [retV]
 rw [decide_eq_true s0, Bool.true_and]
 exact congrArg Value.bool (decide_eq_decide.2 (by omega))
section
variable {h h' : AHeap} {xb : Nat} {A : IA} {ra : Option Addr} {rc wh wh' : Nat} {s : IS} {n0 : Nat}
theorem IX.kept {wr : List Nat} (X : IX h xb A ra rc wh s n0) (k : Keeps wr h h') (hx : ∀ j ∈ [xb, A.nx, A.wt] ++ blk ra, j ∉ wr) (hd : ∀ {a : Option Addr} {len cap : Nat} {cs : List Value}, Sv h 5 1 a len cap cs → ∀ i ∈ blk a, i ∉ wr) : IX h' xb A ra rc wh s n0 := { X with xc := k.get X.xc (hx _ (by simp)), nm := X.nm.keeps k (hx _ (by simp)), wm := X.wm.keeps k (hx _ (by simp)), rv := X.rv.keeps k (fun j hj => hx j (by simp [hj])), dr := fun m hm => (X.dr m hm).keeps k (hd (X.dr m hm)), dw := fun m hm => (X.dw m hm).keeps k (hd (X.dw m hm)) }
theorem IX.whole (X : IX h xb A ra rc wh s n0) (k : Keeps [xb] h h') (g : h'.get xb = some (.cells (xC A.st A.rm A.sp A.sb A.jb A.nx A.wt ra s.ready.length rc wh') 84)) : IX h' xb A ra rc wh' s n0 := { X with xc := g, nm := X.nm.keeps k (by simpa using X.xn), wm := X.wm.keeps k (by simpa using X.xw), rv := X.rv.keeps k (fun j hj hm => by simp only [List.mem_singleton] at hm; subst hm; exact X.xr hj), dr := fun m hm => (X.dr m hm).keeps k (fun i hi q => X.out (X.dr m hm) i hi (by simp only [List.mem_singleton] at q; simp [q])), dw := fun m hm => (X.dw m hm).keeps k (fun i hi q => X.out (X.dw m hm) i hi (by simp only [List.mem_singleton] at q; simp [q])) }
theorem IX.setNext (X : IX h xb A ra rc wh s n0) {l : List (Nat × Nat)} (k : Keeps [A.nx] h h') (M : SMap h' A.nx .u16 (nv l)) (hl : ∀ p ∈ l, p.2 < 65536) : IX h' xb A ra rc wh { s with next := l } n0 := { X with xc := k.get X.xc (by simpa using Ne.symm X.xn), nm := M, nb := hl, wm := X.wm.keeps k (by simpa using Ne.symm X.ne), rv := X.rv.keeps k (fun j hj hm => by simp only [List.mem_singleton] at hm; subst hm; exact X.nr hj), dr := fun m hm => (X.dr m hm).keeps k (fun i hi q => X.out (X.dr m hm) i hi (by simp only [List.mem_singleton] at q; simp [q])), dw := fun m hm => (X.dw m hm).keeps k (fun i hi q => X.out (X.dw m hm) i hi (by simp only [List.mem_singleton] at q; simp [q])) }
theorem IX.setWaits (X : IX h xb A ra rc wh s n0) {w : WL} (k : Keeps [A.wt] h h') (M : GMap tf h' A.wt (wv w)) (hd : ∀ m ∈ w.map (·.2), Sv h 5 1 m.a m.z.length m.cap (m.z.map bv)) (hb : ∀ m ∈ w.map (·.2), m.sid < 65536 ∧ m.ppid < 4294967296) : IX h' xb A ra rc wh { s with waits := w } n0 := { X with xc := k.get X.xc (by simpa using Ne.symm X.xw), nm := X.nm.keeps k (by simpa using X.ne), wm := M, rv := X.rv.keeps k (fun j hj hm => by simp only [List.mem_singleton] at hm; subst hm; exact X.wr hj), dr := fun m hm => (X.dr m hm).keeps k (fun i hi q => X.out (X.dr m hm) i hi (by simp only [List.mem_singleton] at q; simp [q])), dw := fun m hm => (hd m hm).keeps k (fun i hi q => X.out (hd m hm) i hi (by simp only [List.mem_singleton] at q; simp [q])), mw := hb }
theorem IX.lts (X : IX h xb A ra rc wh s n0) : ∀ j ∈ [xb, A.nx, A.wt] ++ blk ra, j < h.n := fun j hj => by
 simp only [List.cons_append, List.nil_append, List.mem_cons] at hj
 rcases hj with rfl | rfl | rfl | q
 · exact AHeap.lt X.xc
 · exact X.nm.lt
 · exact X.wm.lt
 · exact X.rv.lt j q
theorem IX.owns (X : IX h xb A ra rc wh s n0) : ∀ j ∈ [xb, A.nx, A.wt] ++ blk ra, n0 ≤ j := fun j hj => by
 simp only [List.cons_append, List.nil_append, List.mem_cons] at hj
 rcases hj with rfl | rfl | rfl | q
 · exact X.ow.1
 · exact X.ow.2.1
 · exact X.ow.2.2.1
 · exact X.ow.2.2.2 j q
end
theorem drainN_some {n sid t : Nat} {w : WL} {rd : List IM} {q : IM} (h : gl w (sid, t) = some q) : drainN (n + 1) sid t w rd = drainN n sid (nx16 t) (gdel w (sid, t)) (rd ++ [q]) := by
 rw [drainN, h]
theorem drainN_none {n sid t : Nat} {w : WL} {rd : List IM} (h : gl w (sid, t) = none) : drainN (n + 1) sid t w rd = (t, w, rd) := by
 rw [drainN, h]
theorem keeps_push {wr : List Nat} {h h' : AHeap} (k : Keeps wr h h') (o : AObj) : Keeps wr h (h'.push o) := ⟨by have := k.1; simp only [AHeap.n_push]; omega, fun i hi hn => by rw [AHeap.get_push_ne _ _ (by have := k.1; omega)]; exact k.2 i hi hn⟩
set_option maxHeartbeats 32000000 in
theorem message_spec (xb : Nat) (A : IA) (ra : Option Addr) (rc wh : Nat) (s : IS) (n0 : Nat) (m : IM) (ssn : Nat) (hss : ssn < 65536) (hl : s.ready.length + s.waits.length ≤ 900000) (hwh : wh + m.z.length ≤ 1000000000) (h : AHeap) (hn0 : n0 ≤ h.n) (X : IX h xb A ra rc wh s n0) (hm : m.sid < 65536 ∧ m.ppid < 4294967296) (hz : Sv h 5 1 m.a m.z.length m.cap (m.z.map bv)) : CallS Try.prog ([xb, A.nx, A.wt] ++ blk ra) 39 [.pointer (some ⟨xb, 0, none⟩), iV m, .int .u16 ssn] h fun v h' => ∃ ra' rc', (match msgN s m ssn with
  | none => IX h' xb A ra' rc' wh s n0
  | some s' => IX h' xb A ra' rc' (wh + m.z.length) s' n0) ∧ ∀ i ∈ blk ra', i ∈ blk ra ∨ h.n ≤ i := by
 have xlt := X.lts
 obtain ⟨hm1, hm2⟩ := hm
 (refine CallS.of3 Try.func39 rfl Try.ntmps39 Try.results39 rfl ?_)
 simp only [iV, iC]
 refine Go.runN (g:=?_)
 refine Go.name ?_
 intro h1 e1
 have s1 : Same h h1 := by subst e1; exact (((Same.refl h).push _).push _).put (by simp only [AHeap.n_push]; omega) _
 have g4 : h1.get h.n = some (.cells [.int .u16 (m.sid : Nat), .bool m.un, .int .u32 (m.ppid : Nat), .slice m.a m.z.length m.cap] 39) := by subst e1; exact hg_
 have g6 : h1.get (h.n + 1) = some (.cells [.int .u16 (m.sid : Nat), .int .u16 (ssn : Nat)] 115) := by subst e1; exact hg_
 have n1 : h1.n = h.n + 2 := by subst e1; rfl
 clear e1
 have X1 := X.same s1
 have gx1 := X1.xc
 have hz1 := hz.same s1
 simp only [AHeap.n_push]
 clear X hz s1
 refine Go.kk 2 rfl ?_
 refine Go.loud (by kernel_rfl) rfl ?_
 (refine Go.runL (g:=?_))
 refine GoL.lookupG2 (n := (m.sid, ssn)) rfl rfl rfl rfl rfl rfl X1.wm ?_
 rw [gl_wv]
 obtain ⟨y0, y1, y2, y3, y4, y5, hy⟩ : ∃ (y0 : Nat) (y1 : Bool) (y2 : Nat) (y3 : Option Addr) (y4 y5 : Nat), (Option.map iV (gl s.waits (m.sid, ssn))).getD (.agg #[.int .u16 0, .bool false, .int .u32 0, .slice none 0 0]) = .agg #[.int .u16 (y0 : Nat), .bool y1, .int .u32 (y2 : Nat), .slice y3 y4 y5] := by
  cases gl s.waits (m.sid, ssn) with
  | none => exact ⟨0, false, 0, none, 0, 0, rfl⟩
  | some w => exact ⟨_, _, _, _, _, _, rfl⟩
 have htw : (Option.map iV (gl s.waits (m.sid, ssn))).isSome = (gl s.waits (m.sid, ssn)).isSome := by cases gl s.waits (m.sid, ssn) <;> rfl
 rw [hy, htw]
 have htn : gl s.waits (m.sid, ssn) = none ↔ (gl s.waits (m.sid, ssn)).isSome = false := by cases gl s.waits (m.sid, ssn) <;> simp
 generalize htwb : (gl s.waits (m.sid, ssn)).isSome = tw at *
 clear hy htw
 (refine Go.runL (g:=?_))
 refine GoL.st (g:=?_)
 (refine Go.runL (g:=?_))
 refine GoL.endN (g:=?_)
 refine Go.name ?_
 intro h2 e2
 have s2 : Same h1 h2 := by subst e2; exact ((Same.refl h1).push _).put (Nat.le_refl _) _
 have n2 := s2.1
 clear e2
 have X2 := X1.same s2
 have gx2 := X2.xc
 have g42 := s2.get g4
 have g62 := s2.get g6
 have hz2 := hz1.same s2
 have nbx := X2.nb
 clear X1 g4 g6 hz1 gx1 s2
 (refine Go.run (g:=?_))
 refine GoR.lookup rfl rfl rfl rfl rfl rfl X2.nm.imap ?_
 rw [al_nv]
 have nlt := nget_lt (k := m.sid) nbx
 cases hun : m.un with
 | true =>
  have hmsg : msgN s m ssn = some { s with ready := s.ready ++ [m] } := by unfold msgN; rw [if_pos hun]
  (refine Go.run (g:=?_))
  refine GoR.callW rfl rfl rfl rfl rfl rfl rfl (((tells_spec xb A ra rc wh s n0 m (by omega) _ (by omega) X2 ⟨hm1, hm2⟩ hz2).argA).mono ?_)
  rintro _ h3 ⟨ra3, rc3, XE, o3⟩ k3
  refine ⟨fun i hi => .inl (by simp only [List.cons_append, List.nil_append, List.mem_cons] at hi ⊢; rcases hi with q | q; exact .inl q; exact .inr (.inr (.inr q))), ?_⟩
  have n3 := k3.1
  have oE : ∀ i ∈ blk ra3, i ∈ blk ra ∨ h.n ≤ i := fun i hi => (o3 i hi).imp id fun q => by omega
  have g43 := k3.get g42 (fun q => by
   have := xlt h.n (by simp only [List.cons_append, List.nil_append, List.mem_cons] at q ⊢; rcases q with q | q; exact .inl q; exact .inr (.inr (.inr q)))
   omega)
  clear X2 gx2 g42 g62 hz2 k3
  have gxE := XE.xc
  have ltE := XE.lts
  refine Go.runN (g:=?_)
  refine Go.kk 2 rfl ?_
  refine Go.loud (by kernel_rfl) rfl ?_
  (refine Go.runL (g:=?_))
  refine GoL.st (g:=?_)
  (refine Go.runL (g:=?_))
  refine GoL.endN (g:=?_)
  refine Go.name ?_
  intro h9 e9
  have k9 : Keeps [xb] h3 h9 := by subst e9; exact (Keeps.rf _ _).pt (.inl (by simp)) _
  have XF := XE.whole (wh' := wh + m.z.length) k9 (by subst e9; exact get_put_self gxE)
  clear e9
  (first|refine Go.finA rfl ?_|refine Go.finB rfl (hq:=?_))
  rw [hmsg]
  exact ⟨_, _, XF, oE⟩
 | false =>
  have hunf : ¬ m.un = true := by rw [hun]; decide
  by_cases hnx : ssn = nget s.next m.sid
  case neg =>
   have hbs := before16_spec (nget s.next m.sid) ssn nlt hss
   (refine Go.run (g:=?_))
   refine GoR.call rfl rfl rfl rfl rfl rfl rfl (((hbs _).argA).mono ?_)
   rintro _ h3 ⟨rfl, rfl⟩ -
   by_cases hc : bef16 (nget s.next m.sid) ssn = true ∧ gl s.waits (m.sid, ssn) = none
   ·
    have hmsg : msgN s m ssn = some { s with waits := s.waits ++ [((m.sid, ssn), m)] } := by unfold msgN; rw [if_neg hunf, if_neg hnx, if_pos hc]
    have htw0 := htn.1 hc.2
    rw [hc.1]
    subst htw0
    refine Go.runN (g:=?_)
    refine Go.kk 2 rfl ?_
    refine Go.loud (by kernel_rfl) rfl ?_
    (refine Go.runL (g:=?_))
    refine GoL.mapUpdateG (n := (m.sid, ssn)) (.inl rfl) rfl rfl rfl rfl rfl X2.wm (.inl (by simp)) ?_
    intro h4 M4 k4 n4
    have hdis : ∀ b ∈ ([] : List Nat), b ≠ h.n := fun b hb => by cases hb
    have hdis2 := hdis
    (refine Go.runL (g:=?_))
    refine GoL.endC (g:=?_)
    clear hdis hdis2
    have M4' : GMap tf h4 A.wt (wv (s.waits ++ [((m.sid, ssn), m)])) := by rw [← gset_wv _ _ _ hc.2]; exact M4
    have XE := X2.setWaits k4 M4' (fun q hq => by
     rw [List.map_append] at hq
     rcases List.mem_append.1 hq with z | z
     · exact X2.dw q z
     · simp only [List.map_cons, List.map_nil, List.mem_singleton] at z; subst z; exact hz2) (fun q hq => by
     rw [List.map_append] at hq
     rcases List.mem_append.1 hq with z | z
     · exact X2.mw q z
     · simp only [List.map_cons, List.map_nil, List.mem_singleton] at z; subst z; exact ⟨hm1, hm2⟩)
    have wlt := xlt A.wt (by simp)
    have g43 := k4.get g42 (by simp; omega)
    have oE : ∀ i ∈ blk ra, i ∈ blk ra ∨ h.n ≤ i := fun i hi => .inl hi
    clear X2 gx2 g42 g62 hz2 k4 M4 M4'
    have gxE := XE.xc
    have ltE := XE.lts
    refine Go.runN (g:=?_)
    refine Go.kk 2 rfl ?_
    refine Go.loud (by kernel_rfl) rfl ?_
    (refine Go.runL (g:=?_))
    refine GoL.st (g:=?_)
    (refine Go.runL (g:=?_))
    refine GoL.endN (g:=?_)
    refine Go.name ?_
    intro h9 e9
    have k9 : Keeps [xb] h4 h9 := by subst e9; exact (Keeps.rf _ _).pt (.inl (by simp)) _
    have XF := XE.whole (wh' := wh + m.z.length) k9 (by subst e9; exact get_put_self gxE)
    clear e9
    (first|refine Go.finA rfl ?_|refine Go.finB rfl (hq:=?_))
    rw [hmsg]
    exact ⟨_, _, XF, oE⟩
   ·
    have hmsg : msgN s m ssn = none := by unfold msgN; rw [if_neg hunf, if_neg hnx, if_neg hc]
    have hbt : bef16 (nget s.next m.sid) ssn = true → tw = true := fun e => by
     cases htv : tw with
     | true => rfl
     | false => exact absurd ⟨e, htn.2 htv⟩ hc
    cases hbv : bef16 (nget s.next m.sid) ssn with
    | false =>
     (refine Go.run (g:=?_))
     (first|refine Go.finA rfl ?_|refine Go.finB rfl (hq:=?_))
     exact ⟨ra, rc, by rw [hmsg]; exact X2, fun i hi => .inl hi⟩
    | true =>
     obtain rfl := hbt hbv
     (refine Go.run (g:=?_))
     (first|refine Go.finA rfl ?_|refine Go.finB rfl (hq:=?_))
     exact ⟨ra, rc, by rw [hmsg]; exact X2, fun i hi => .inl hi⟩
  (refine Go.run (g:=?_))
  refine GoR.callW rfl rfl rfl rfl rfl rfl rfl (((tells_spec xb A ra rc wh s n0 m (by omega) _ (by omega) X2 ⟨hm1, hm2⟩ hz2).argA).mono ?_)
  rintro _ h3 ⟨ra3, rc3, X3, o3⟩ k3
  refine ⟨fun i hi => .inl (by simp only [List.cons_append, List.nil_append, List.mem_cons] at hi ⊢; rcases hi with q | q; exact .inl q; exact .inr (.inr (.inr q))), ?_⟩
  have n3 := k3.1
  have hkk : ∀ j, h.n ≤ j → j ∉ [xb] ++ blk ra := fun j hj q => by
   have := xlt j (by simp only [List.cons_append, List.nil_append, List.mem_cons] at q ⊢; rcases q with q | q; exact .inl q; exact .inr (.inr (.inr q)))
   omega
  have g43 := k3.get g42 (hkk _ (Nat.le_refl _))
  have g63 := k3.get g62 (hkk _ (by omega))
  obtain ⟨T, hT⟩ : ∃ T, T = drainN (s.waits.length + 1) m.sid (nx16 ssn) s.waits (s.ready ++ [m]) := ⟨_, rfl⟩
  have hmsgT : msgN s m ssn = some { next := nput s.next m.sid T.1, waits := T.2.1, ready := T.2.2 } := by unfold msgN; rw [if_neg hunf, if_pos hnx, ← hT]
  clear X2 gx2 g42 g62 hz2 k3
  (refine Go.run (g:=?_))
  refine Go.loop (α := Bool × Nat × Nat × WL × List IM × Option Addr × Nat × AHeap) (fun x => [(10, .bool x.1), (6, .pointer (some ⟨h.n + 1, 0, none⟩)), (4, .pointer (some ⟨h.n, 0, none⟩)), (0, .pointer (some ⟨xb, 0, none⟩))]) (fun _ => []) (fun x => x.2.2.2.2.2.2.2) (fun x => IX x.2.2.2.2.2.2.2 xb A x.2.2.2.2.2.1 x.2.2.2.2.2.2.1 wh ⟨s.next, x.2.2.2.1, x.2.2.2.2.1⟩ n0 ∧ x.2.2.2.2.2.2.2.get h.n = some (.cells [.int .u16 (m.sid : Nat), .bool m.un, .int .u32 (m.ppid : Nat), .slice m.a m.z.length m.cap] 39) ∧ x.2.2.2.2.2.2.2.get (h.n + 1) = some (.cells [.int .u16 (m.sid : Nat), .int .u16 (x.2.2.1 : Nat)] 115) ∧ h2.n ≤ x.2.2.2.2.2.2.2.n ∧ (∀ i ∈ blk x.2.2.2.2.2.1, i ∈ blk ra ∨ h2.n ≤ i) ∧ x.2.2.2.2.1.length + x.2.2.2.1.length ≤ 900001 ∧ x.2.2.1 < 65536 ∧ (x.1 = true → drainN x.2.1 m.sid (nx16 x.2.2.1) x.2.2.2.1 x.2.2.2.2.1 = T ∧ x.2.2.2.1.length < x.2.1) ∧ (x.1 = false → (x.2.2.1, x.2.2.2.1, x.2.2.2.2.1) = T)) (fun x => if x.1 = true then x.2.1 else 0) (true, s.waits.length + 1, ssn, s.waits, s.ready ++ [m], ra3, rc3, h3) ⟨X3, g43, g63, n3, o3, by simp only [List.length_append, List.length_cons, List.length_nil]; omega, hss, fun _ => ⟨hT.symm, Nat.lt_succ_self _⟩, fun e => by cases e⟩ ⟨rfl, rfl, rfl, rfl, trivial⟩ rfl rfl ?_
  clear X3 g43 g63 hT
  rintro ⟨is, n, t, w, rd, ra', rc', H⟩ ⟨X, g4, g6, nH, oR, hlen, ht, hT, hF⟩
  simp only at X g4 g6 nH oR hlen ht hT hF ⊢
  have gx := X.xc
  have hnin : ∀ j, h.n ≤ j → j < h2.n → j ∉ [xb, A.nx, A.wt] ++ blk ra' := fun j h1' h2' q => by
   simp only [List.cons_append, List.nil_append, List.mem_cons] at q
   have l1 := xlt xb (by simp)
   have l2 := xlt A.nx (by simp)
   have l3 := xlt A.wt (by simp)
   rcases q with q | q | q | q
   · omega
   · omega
   · omega
   ·
    rcases oR j q with z | z
    · have := xlt j (by simp [z]); omega
    · omega
  have l1 := xlt xb (by simp)
  have l2 := xlt A.nx (by simp)
  have l3 := xlt A.wt (by simp)
  have oE : ∀ i ∈ blk ra', i ∈ blk ra ∨ h.n ≤ i := fun i hi => (oR i hi).imp id fun q => by omega
  cases is with
  | false =>
   have hF := hF rfl
   subst hF
   simp only at hmsgT
   have hmsg := hmsgT
   clear hT
   refine Go.runN (g:=?_)
   refine Go.kk 2 rfl ?_
   refine Go.loud (by kernel_rfl) rfl ?_
   (refine Go.runL (g:=?_))
   refine GoL.mapUpdateS (.inl rfl) rfl rfl rfl rfl rfl X.nm (.inl (by simp)) ?_
   intro H5 M5 k5 n5
   rw [aset_nv] at M5
   have hdis : ∀ b ∈ ([] : List Nat), b ≠ h.n := fun b hb => by cases hb
   have hdis2 := hdis
   (refine Go.runL (g:=?_))
   refine GoL.endC (g:=?_)
   clear hdis hdis2
   have XE := X.setNext k5 M5 (nput_lt X.nb ht)
   have g45 := k5.get g4 (by simp; omega)
   clear X g4 g6 gx k5 M5
   have gxE := XE.xc
   have ltE := XE.lts
   refine Go.runN (g:=?_)
   refine Go.kk 2 rfl ?_
   refine Go.loud (by kernel_rfl) rfl ?_
   (refine Go.runL (g:=?_))
   refine GoL.st (g:=?_)
   (refine Go.runL (g:=?_))
   refine GoL.endN (g:=?_)
   refine Go.name ?_
   intro h9 e9
   have k9 : Keeps [xb] H5 h9 := by subst e9; exact (Keeps.rf _ _).pt (.inl (by simp)) _
   have XF := XE.whole (wh' := wh + m.z.length) k9 (by subst e9; exact get_put_self gxE)
   clear e9
   (first|refine Go.finA rfl ?_|refine Go.finB rfl (hq:=?_))
   rw [hmsg]
   exact ⟨_, _, XF, oE⟩
  | true =>
   obtain ⟨hT, hwn⟩ := hT rfl
   obtain ⟨n, rfl⟩ : ∃ k, n = k + 1 := ⟨n - 1, by omega⟩
   clear hF
   (refine Go.run (g:=?_))
   refine GoR.bin rfl rfl rfl rfl rfl rfl (add16n t) ?_
   refine Go.runN (g:=?_)
   have Xlt := X.lts
   refine Go.name ?_
   intro H1 e1
   have k1 : Keeps [h.n + 1] H H1 := by subst e1; exact keeps_push ((Keeps.rf _ _).pt (.inl (by simp)) _) _
   have g61 : H1.get (h.n + 1) = some (.cells [.int .u16 (m.sid : Nat), .int .u16 (nx16 t : Nat)] 115) := by subst e1; exact get_push_lt (get_put_self g6)
   have g111 : H1.get H.n = some (.cells [.int .u16 0, .bool false, .int .u32 0, .slice none 0 0] 39) := by subst e1; exact AHeap.get_push_same _ _
   have n1' : H1.n = H.n + 1 := by subst e1; rfl
   clear e1
   have X1 := X.kept k1 (fun j hj q => by simp only [List.mem_singleton] at q; subst q; exact hnin _ (by omega) (by omega) hj) (fun k i hi q => by simp only [List.mem_singleton] at q; subst q; exact sv_out k g6 (fun c e => by cases e) hi)
   have g41 := k1.get g4 (by simp)
   simp only [AHeap.n_put, AHeap.n_push]
   clear X g4 g6 gx k1
   have gx1 := X1.xc
   refine Go.kk 2 rfl ?_
   refine Go.loud (by kernel_rfl) rfl ?_
   (refine Go.runL (g:=?_))
   refine GoL.lookupG2 (n := (m.sid, nx16 t)) rfl rfl rfl rfl rfl rfl X1.wm ?_
   rw [gl_wv]
   cases hg : gl w (m.sid, nx16 t) with
   | none =>
    simp only [Option.map_none, Option.getD_none, Option.isSome_none]
    (refine Go.runL (g:=?_))
    refine GoL.st (g:=?_)
    (refine Go.runL (g:=?_))
    refine GoL.endN (g:=?_)
    refine Go.name ?_
    intro H2 e2
    have k2 : Keeps [H.n] H1 H2 := by subst e2; exact (Keeps.rf _ _).pt (.inl (by simp)) _
    clear e2
    have n2' := k2.1
    have X2 := X1.kept k2 (fun j hj q => by simp only [List.mem_singleton] at q; subst q; have := Xlt _ hj; omega) (fun k i hi q => by simp only [List.mem_singleton] at q; subst q; exact sv_out k g111 (fun c e => by cases e) hi)
    have g42 := k2.get g41 (by simp; omega)
    have g62 := k2.get g61 (by simp; omega)
    clear X1 g41 g61 g111 gx1 k2
    (refine Go.run (g:=?_))
    exact Go.again (false, n, nx16 t, w, rd, ra', rc', H2) ⟨X2, g42, g62, by simp only; omega, oR, hlen, nx16_lt t, (fun e => by cases e), fun _ => by rw [drainN_none hg] at hT; exact hT⟩ (by simp) ⟨rfl, rfl, rfl, rfl, trivial⟩ rfl rfl
   | some q =>
    simp only [Option.map_some, Option.getD_some, Option.isSome_some, iV, iC]
    (refine Go.runL (g:=?_))
    refine GoL.st (g:=?_)
    (refine Go.runL (g:=?_))
    refine GoL.endN (g:=?_)
    refine Go.name ?_
    intro H2 e2
    have k2 : Keeps [H.n] H1 H2 := by subst e2; exact (Keeps.rf _ _).pt (.inl (by simp)) _
    have g112 : H2.get H.n = some (.cells [.int .u16 (q.sid : Nat), .bool q.un, .int .u32 (q.ppid : Nat), .slice q.a q.z.length q.cap] 39) := by subst e2; exact get_put_self g111
    clear e2
    have n2' := k2.1
    have X2 := X1.kept k2 (fun j hj q => by simp only [List.mem_singleton] at q; subst q; have := Xlt _ hj; omega) (fun k i hi q => by simp only [List.mem_singleton] at q; subst q; exact sv_out k g111 (fun c e => by cases e) hi)
    have g42 := k2.get g41 (by simp; omega)
    have g62 := k2.get g61 (by simp; omega)
    clear X1 g41 g61 g111 gx1 k2
    (refine Go.run (g:=?_))
    refine GoR.callW rfl rfl rfl rfl rfl rfl rfl (((tells_spec xb A ra' rc' wh ⟨s.next, w, rd⟩ n0 q (by simp only; omega) _ (by omega) X2 (X2.mw q (gl_memW hg)) (X2.dw q (gl_memW hg))).argA).mono ?_)
    rintro _ H3 ⟨ra4, rc4, X3, o4⟩ k3
    refine ⟨fun i hi => ?_, ?_⟩
    ·
     simp only [List.cons_append, List.nil_append, List.mem_cons] at hi ⊢
     rcases hi with z | z
     · exact .inl (.inl z)
     ·
      rcases oE i z with y | y
      · exact .inl (.inr (.inr (.inr y)))
      · exact .inr y
    have n3' := k3.1
    have hk3 : ∀ j, h.n ≤ j → j < h2.n → j ∉ [xb] ++ blk ra' := fun j a b z => hnin j a b (by simp only [List.cons_append, List.nil_append, List.mem_cons] at z ⊢; rcases z with z | z; exact .inl z; exact .inr (.inr (.inr z)))
    have g43 := k3.get g42 (hk3 _ (Nat.le_refl _) (by omega))
    have g63 := k3.get g62 (hk3 _ (by omega) (by omega))
    have gx3 := X3.xc
    clear X2 g42 g62 g112 k3
    refine Go.runN (g:=?_)
    refine Go.kk 2 rfl ?_
    refine Go.loud (by kernel_rfl) rfl ?_
    (refine Go.runL (g:=?_))
    refine GoL.deleteG (n := (m.sid, nx16 t)) rfl rfl rfl rfl rfl X3.wm (.inl (by simp)) ?_
    intro H4 M4 k4 n4'
    rw [gdel_wv] at M4
    have hdis : ∀ b ∈ ([] : List Nat), b ≠ h.n := fun b hb => by cases hb
    have hdis2 := hdis
    (refine Go.runL (g:=?_))
    refine GoL.endC (g:=?_)
    clear hdis hdis2
    have X4 := X3.setWaits k4 M4 (fun z hz => X3.dw z (gdel_memW hz)) (fun z hz => X3.mw z (gdel_memW hz))
    have g44 := k4.get g43 (by simp; omega)
    have g64 := k4.get g63 (by simp; omega)
    clear X3 g43 g63 gx3 M4 k4
    have hgl := gdel_len hg
    (refine Go.run (g:=?_))
    exact Go.again (true, n, nx16 t, gdel w (m.sid, nx16 t), rd ++ [q], ra4, rc4, H4) ⟨X4, g44, g64, by simp only; omega, fun i hi => by
     rcases o4 i hi with z | z
     · exact oR i z
     · exact .inr (by omega), by simp only [List.length_append, List.length_cons, List.length_nil]; omega, nx16_lt t, fun _ => ⟨by rw [drainN_some hg] at hT; exact hT, by simp only; omega⟩, fun e => by cases e⟩ (by simp) ⟨rfl, rfl, rfl, rfl, trivial⟩ rfl rfl
end Go.Proofs.Ytccbmmnkiihkaaa
namespace Go.Proofs.Ytccbmmnkiihkaaa
open Go.Sort
set_option maxRecDepth 100000
attribute [local irreducible] Go GoR GoL
end Go.Proofs.Ytccbmmnkiihkaaa
namespace Go.Proofs.Ytccbmmnkiihkaaa
open Go.Sort
set_option maxRecDepth 100000
attribute [local irreducible] Go GoR GoL
end Go.Proofs.Ytccbmmnkiihkaaa
namespace Go.Proofs.Ytccbmmnkiihkaaa
open Go.Sort
set_option maxRecDepth 100000
attribute [local irreducible] Go GoR GoL
end Go.Proofs.Ytccbmmnkiihkaaa
namespace Go.Proofs.Ytccbmmnkiihkaaa
open Go.Sort
set_option maxRecDepth 100000
attribute [local irreducible] Go GoR GoL
end Go.Proofs.Ytccbmmnkiihkaaa
namespace Go.Proofs.Ytccbmmnkiihkaaa
open Go.Sort
set_option maxRecDepth 100000
attribute [local irreducible] Go GoR GoL
end Go.Proofs.Ytccbmmnkiihkaaa
namespace Go.Proofs.Ytccbmmnkiihkaaa
open Go.Sort
set_option maxRecDepth 100000
attribute [local irreducible] Go GoR GoL
end Go.Proofs.Ytccbmmnkiihkaaa
namespace Go.Proofs.Ytccbmmnkiihkaaa
open Go.Sort
set_option maxRecDepth 100000
attribute [local irreducible] Go GoR GoL
section
variable {P : Program} {W : Nat → Prop} {q : Bool} {N : Nat} {k k' : List It} {x : Exit} {ov : Ov} {tm : List Value} {df : List Nat} {h : AHeap} {Q : PQ} {a b c : Code}
theorem Gx.seq (g : Gx P W q (.code a :: .code b :: k) x tm df h Q) : Gx P W q (.code (.seq a b) :: k) x tm df h Q := by
 refine ⟨fun e => ?_, fun hx => (g.2 hx).2 hx⟩
 obtain ⟨x₁, tm₁, df₁, h₁, r₁, n₁, g₁⟩ := g.1 e
 by_cases hx : x₁ = .normal
 ·
  obtain ⟨x₂, tm₂, df₂, h₂, r₂, n₂, g₂⟩ := g₁.1 hx
  subst hx
  exact ⟨x₂, tm₂, df₂, h₂, .seq r₁ r₂, n₂.trans n₁, g₂⟩
 · exact ⟨x₁, tm₁, df₁, h₁, .seq_out r₁ hx, n₁, g₁.2 hx⟩
end
end Go.Proofs.Ytccbmmnkiihkaaa
namespace Go.Proofs.Ytccbmmnkiihkaaa
open Go.Sort
set_option maxRecDepth 100000
attribute [local irreducible] Go GoR GoL
end Go.Proofs.Ytccbmmnkiihkaaa
namespace Go.Proofs.Ytccbmmnkiihkaaa
open Go.Sort
set_option maxRecDepth 100000
attribute [local irreducible] Go GoR GoL
end Go.Proofs.Ytccbmmnkiihkaaa
namespace Go.Proofs.Ytccbmmnkiihkaaa
open Go.Sort
set_option maxRecDepth 100000
attribute [local irreducible] Go GoR GoL
def spanN (a b : Nat) : Nat := (b + 4294967296 - a) % 4294967296
theorem sub32 (a b : Nat) (ha : a < 4294967296) (hb : b < 4294967296) : iBin .sub .u32 (b : Int) (a : Int) = some (.int .u32 ((spanN a b : Nat) : Int)) := by
 have e : ((spanN a b : Nat) : Int) = ((b : Int) - (a : Int)) % 4294967296 := by unfold spanN; omega
 simp [iBin, IntKind.wrap, IntKind.bits, IntKind.signed, e]
theorem span_lt (a b : Nat) : spanN a b < 4294967296 := Nat.mod_lt _ (by decide)
set_option maxHeartbeats 4000000 in
theorem span_spec (a b : Nat) (ha : a < 4294967296) (hb : b < 4294967296) (h : AHeap) : CallS Try.prog [] 35 [.int .u32 a, .int .u32 b] h fun v h' => v = .int .u32 (spanN a b : Nat) ∧ h' = h := by
 have hs := sub32 a b ha hb
 generalize spanN a b = s at *
 (refine CallS.of2 Try.func35 rfl Try.ntmps35 Try.results35 rfl ?_)
 (iterate 8 (refine Go.one (g:=?_)))
 refine GoR.bin rfl rfl rfl rfl rfl rfl hs ?_
 (refine Go.run (g:=?_))
 (first|refine Go.finA rfl ?_|refine Go.finB rfl (hq:=?_))
 exact ⟨rfl, rfl⟩
structure GSt (h : AHeap) (sb r : Nat) (cum : Nat) (es : Array MapEntry) (ck : Nat) (ks : List Nat) (da : Option Addr) (dl dc : Nat) : Prop where
 sc : h.get sb = some (.cells [.int .u32 cum, .map (some r), .slice da dl dc] 104)
 mp : h.get r = some (.map es ck)
 ky : es.toList.map (fun e => (e.key, e.val)) = ks.map fun (k : Nat) => (Value.int .u32 (k : Int), Value.agg #[])
 bo : ∀ e ∈ es.toList, e.born < ck
 nd : (es.toList.map (·.born)).Nodup
 kb : ∀ k ∈ ks, k < 4294967296
 cb : cum < 4294967296
 dw : low h.n (.slice da dl dc) = true
def keyN (e : MapEntry) : Nat := match e.key with
 | .int _ n => n.toNat
 | _ => 0
theorem GSt.keys {h : AHeap} {sb r cum ck : Nat} {es : Array MapEntry} {ks : List Nat} {da : Option Addr} {dl dc : Nat} (g : GSt h sb r cum es ck ks da dl dc) : es.toList.map keyN = ks := by
 have h1 := congrArg (List.map fun x : Value × Value => match x.1 with | .int _ n => n.toNat | _ => 0) g.ky
 rw [List.map_map, List.map_map] at h1
 have e2 : ks.map ((fun x : Value × Value => match x.1 with | .int _ n => n.toNat | _ => 0) ∘ fun (k : Nat) => (Value.int .u32 (k : Int), Value.agg #[])) = ks := by
  rw [show ((fun x : Value × Value => match x.1 with | .int _ n => n.toNat | _ => 0) ∘ fun k : Nat => (Value.int .u32 (k : Int), Value.agg #[])) = id from funext fun k => rfl]
  simp
 rw [e2] at h1
 exact h1
theorem aEq_ptrNil {P : Program} {h : AHeap} {t e : TypeId} (hu : P.underlying t = some (.pointer e)) (a : Addr) : aEq P h t (.pointer (some a)) (.pointer none) = some (false, []) := by
 unfold aEq
 rw [hu]
theorem setU : Try.prog.underlying 77 = some (.pointer 104) := by kernel_rfl
end Go.Proofs.Ytccbmmnkiihkaaa
namespace Go.Proofs.Ytccbmmnkiihkaaa
open Go.Sort
set_option maxRecDepth 100000
attribute [local irreducible] Go GoR GoL
def bef32 (a b : Nat) : Bool := decide (0 < spanN a b) && decide (spanN a b < 2147483648)
set_option maxHeartbeats 8000000 in
theorem before_spec (a b : Nat) (ha : a < 4294967296) (hb : b < 4294967296) (h : AHeap) : CallS Try.prog [] 52 [.int .u32 a, .int .u32 b] h fun v h' => v = .bool (bef32 a b) ∧ h' = h := by
 have hs := sub32 a b ha hb
 have hl := span_lt a b
 unfold bef32
 generalize spanN a b = s at *
 (refine CallS.of2 Try.func52 rfl Try.ntmps52 Try.results52 rfl ?_)
 (iterate 8 (refine Go.one (g:=?_)))
 refine GoR.bin rfl rfl rfl rfl rfl rfl hs ?_
 rcases Nat.lt_or_ge 0 s with s0 | s0
 case inr =>
  obtain rfl : s = 0 := by omega
  (refine Go.run (g:=?_))
  (first|refine Go.finA rfl ?_|refine Go.finB rfl (hq:=?_))
  exact ⟨rfl, rfl⟩
 (refine Go.run (g:=?_))
 refine GoR.com (v := .int .u32 (4294967295 : Nat)) rfl rfl rfl rfl rfl (by kernel_rfl) ?_
 (refine Go.run (g:=?_))
 (first|refine Go.finA rfl ?_|refine Go.finB rfl (hq:=?_))
 refine ⟨?_, rfl⟩
 simp only [retV]
 rw [decide_eq_true s0, Bool.true_and]
 exact congrArg Value.bool (decide_eq_decide.2 (by omega))
instance miAhead : MI Try.prog 102 .u32 (.agg #[]) := ⟨23, 108, by kernel_rfl, by kernel_rfl, by kernel_rfl, rfl, fun em n => by kernel_rfl⟩
def dn32 (ks : List Nat) : List (Int × Value) := ks.map fun (k : Nat) => ((k : Int), Value.agg #[])
theorem al_dn32 (ks : List Nat) (n : Nat) : al (dn32 ks) n = if n ∈ ks then some (.agg #[]) else none := by
 induction ks with
 | nil => rfl
 | cons k ks ih =>
  show (if (k : Int) = n then some (Value.agg #[]) else al (dn32 ks) n) = _
  rw [ih]
  by_cases h : k = n
  · subst h; simp
  · rw [if_neg (by omega)]; simp [Ne.symm h]
theorem aset_dn32 (ks : List Nat) (n : Nat) (h : n ∉ ks) : aset (dn32 ks) n (.agg #[]) = dn32 (ks ++ [n]) := by
 induction ks with
 | nil => rfl
 | cons k ks ih =>
  simp only [List.mem_cons, not_or] at h
  show (if (k : Int) = n then _ else _) = _
  rw [if_neg (by omega)]
  show ((k : Int), Value.agg #[]) :: aset (dn32 ks) n (.agg #[]) = _
  rw [ih h.2]; rfl
theorem adel_dn32 (ks : List Nat) (n : Nat) : adel (dn32 ks) n = dn32 (ks.erase n) := by
 induction ks with
 | nil => rfl
 | cons k ks ih =>
  show (if (k : Int) = n then dn32 ks else ((k : Int), Value.agg #[]) :: adel (dn32 ks) n) = _
  by_cases h : k = n
  · subst h; simp
  · rw [if_neg (by omega), ih, List.erase_cons_tail (by simpa using h)]; rfl
abbrev u32s' (ds : List Nat) : List Value := ds.map fun (n : Nat) => Value.int .u32 (n : Int)
structure GSet (h : AHeap) (sb r cum : Nat) (ks : List Nat) (da : Option Addr) (dc : Nat) (ds : List Nat) (n0 : Nat) : Prop where
 sc : h.get sb = some (.cells [.int .u32 cum, .map (some r), .slice da ds.length dc] 104)
 mp : SMap h r .u32 (dn32 ks)
 dv : Sv h 23 1 da ds.length dc (u32s' ds)
 kb : ∀ k ∈ ks, k < 4294967296
 db : ∀ k ∈ ds, k < 4294967296
 cb : cum < 4294967296
 ap : sb ≠ r ∧ sb ∉ blk da ∧ r ∉ blk da
 ow : n0 ≤ sb ∧ n0 ≤ r ∧ Own n0 da
theorem GSet.same {h h' : AHeap} {sb r cum : Nat} {ks : List Nat} {da : Option Addr} {dc : Nat} {ds : List Nat} {n0 : Nat} (g : GSet h sb r cum ks da dc ds n0) (s : Same h h') : GSet h' sb r cum ks da dc ds n0 := { g with sc := s.get g.sc, mp := g.mp.same s, dv := g.dv.same s }
def hasN (cum : Nat) (ks : List Nat) (t : Nat) : Bool := decide (t ∈ ks) || (decide (t = cum) || bef32 t cum)
set_option maxHeartbeats 8000000 in
theorem has_spec (sb r cum : Nat) (ks : List Nat) (da : Option Addr) (dc : Nat) (ds : List Nat) (n0 t : Nat) (ht : t < 4294967296) (h : AHeap) (G : GSet h sb r cum ks da dc ds n0) : CallS Try.prog [] 34 [.pointer (some ⟨sb, 0, none⟩), .int .u32 t] h fun v h' => v = .bool (hasN cum ks t) := by
 have gs := G.sc
 have gm := G.mp.imap
 have hlt := AHeap.lt gs
 unfold hasN
 (refine CallS.of2 Try.func34 rfl Try.ntmps34 Try.results34 rfl ?_)
 (refine Go.run (g:=?_))
 refine GoR.eqRef rfl rfl rfl rfl (.inl rfl) rfl rfl (aEq_ptrNil setU _) ?_
 (refine Go.run (g:=?_))
 refine GoR.lookup2 rfl rfl rfl rfl rfl rfl gm ?_
 rw [al_dn32]
 have hbs := before_spec t cum ht G.cb
 by_cases hk : t ∈ ks
 ·
  rw [if_pos hk, decide_eq_true hk, Bool.true_or]
  simp only [Option.getD_some, Option.isSome_some]
  (refine Go.run (g:=?_))
  (first|refine Go.finA rfl ?_|refine Go.finB rfl (hq:=?_))
  rfl
 ·
  rw [if_neg hk, decide_eq_false hk, Bool.false_or]
  simp only [Option.getD_none, Option.isSome_none]
  by_cases hc : t = cum
  ·
   rw [decide_eq_true hc, Bool.true_or]
   (refine Go.run (g:=?_))
   (first|refine Go.finA rfl ?_|refine Go.finB rfl (hq:=?_))
   rfl
  ·
   rw [decide_eq_false hc, Bool.false_or]
   (refine Go.run (g:=?_))
   refine GoR.call rfl rfl rfl rfl rfl rfl rfl (((hbs _).argA).mono ?_)
   rintro _ H2 ⟨rfl, rfl⟩ -
   (refine Go.run (g:=?_))
   (first|refine Go.finA rfl ?_|refine Go.finB rfl (hq:=?_))
   simp [retV]
set_option maxHeartbeats 4000000 in
theorem cum_spec (sb r cum : Nat) (ks : List Nat) (da : Option Addr) (dc : Nat) (ds : List Nat) (n0 : Nat) (h : AHeap) (G : GSet h sb r cum ks da dc ds n0) : CallS Try.prog [] 36 [.pointer (some ⟨sb, 0, none⟩)] h fun v h' => v = .int .u32 (cum : Nat) ∧ h' = h := by
 have gs := G.sc
 (refine CallS.of1 Try.func36 rfl Try.ntmps36 Try.results36 rfl ?_)
 (refine Go.run (g:=?_))
 refine GoR.eqRef rfl rfl rfl rfl (.inl rfl) rfl rfl (aEq_ptrNil setU _) ?_
 (refine Go.run (g:=?_))
 (first|refine Go.finA rfl ?_|refine Go.finB rfl (hq:=?_))
 exact ⟨rfl, rfl⟩
end Go.Proofs.Ytccbmmnkiihkaaa
namespace Go.Proofs.Ytccbmmnkiihkaaa
open Go.Sort
set_option maxRecDepth 100000
attribute [local irreducible] Go GoR GoL
def next32 (c : Nat) : Nat := (c + 1) % 4294967296
def settleN : Nat → Nat → List Nat → Nat × List Nat
 | 0, c, ks => (c, ks)
 | n + 1, c, ks => if next32 c ∈ ks then settleN n (next32 c) (ks.erase (next32 c)) else (c, ks)
def addN (cum : Nat) (ks ds : List Nat) (t : Nat) : Nat × Nat × List Nat × List Nat :=
 if hasN cum ks t = true then (1, cum, ks, if ds.length < 16 then ds ++ [t] else ds)
 else if 65535 < spanN cum t then (2, cum, ks, ds)
 else (0, (settleN (ks.length + 1) cum (ks ++ [t])).1, (settleN (ks.length + 1) cum (ks ++ [t])).2, ds)
theorem add32 (c : Nat) : iBin .add .u32 (c : Int) ((1 : Nat) : Int) = some (.int .u32 ((next32 c : Nat) : Int)) := by
 have q : ((next32 c : Nat) : Int) = ((c : Int) + 1) % 4294967296 := by unfold next32; omega
 simp [iBin, IntKind.wrap, IntKind.bits, IntKind.signed, q]
theorem next32_lt (c : Nat) : next32 c < 4294967296 := Nat.mod_lt _ (by decide)
set_option maxHeartbeats 32000000 in
theorem add_spec (sb r cum : Nat) (ks : List Nat) (da : Option Addr) (dc : Nat) (ds : List Nat) (n0 t : Nat) (ht : t < 4294967296) (hds : ds.length ≤ 16) (h : AHeap) (hn0 : n0 ≤ h.n) (G : GSet h sb r cum ks da dc ds n0) : CallS Try.prog ([sb, r] ++ blk da) 37 [.pointer (some ⟨sb, 0, none⟩), .int .u32 t] h fun v h' => v = .int .u8 ((addN cum ks ds t).1 : Nat) ∧ ∃ da' dc', GSet h' sb r (addN cum ks ds t).2.1 (addN cum ks ds t).2.2.1 da' dc' (addN cum ks ds t).2.2.2 n0 ∧ ∀ i ∈ blk da', i ∈ blk da ∨ h.n ≤ i := by
 have gs := G.sc
 have hlt := AHeap.lt gs
 have hsp := span_spec cum t G.cb ht
 have hhs := has_spec sb r cum ks da dc ds n0 t ht h G
 (refine CallS.of2 Try.func37 rfl Try.ntmps37 Try.results37 rfl ?_)
 (refine Go.run (g:=?_))
 refine GoR.eqRef rfl rfl rfl rfl (.inl rfl) rfl rfl (aEq_ptrNil setU _) ?_
 (refine Go.run (g:=?_))
 refine GoR.call rfl rfl rfl rfl rfl rfl rfl (((hhs).argA).mono ?_)
 rintro _ h2 rfl s2
 have G2 := G.same s2
 have gs2 := G2.sc
 have m2 := s2.1
 cases hH : hasN cum ks t with
 | true =>
  rcases Nat.lt_or_ge ds.length 16 with l0 | l0
  ·
   have hA : addN cum ks ds t = (1, cum, ks, ds ++ [t]) := by unfold addN; rw [if_pos hH, if_pos l0]
   rw [hA]
   (refine Go.run (g:=?_))
   refine GoR.buildRo (c := [.int .u32 (t : Nat)]) rfl rfl rfl rfl rfl (by decide) (by rfl) (by rfl) ?_
   intro b8 h8 hb8 rb8 ob8 s8 n8
   have m8 := s8.1
   refine GoR.appendV rfl rfl rfl rfl rfl rfl (G2.dv.same s8) hb8 (fun j hj => .inl (by simp [hj])) (by omega) (by omega) (by rfl) ?_
   intro b9 c9 h9 hs9 k9 o9
   have m9 := k9.1
   have gs9 := k9.get (s8.get gs2) G.ap.2.1
   have gm9 := (G2.mp.same s8).keeps k9 G.ap.2.2
   have n9 : ∀ j, j < h.n → j ∉ blk da → j ∉ blk b9 := fun j hj hn hm => by rcases o9 j hm with q | q; exact hn q; omega
   have sr := G.mp.lt
   (refine Go.run (g:=?_))
   refine Go.name ?_
   intro h10 e10
   have k10 : Keeps [sb] h9 h10 := by subst e10; exact (Keeps.rf _ _).pt (.inl (by simp)) _
   have gs10 : h10.get sb = some (.cells [.int .u32 cum, .map (some r), .slice b9 (ds.length + 1) c9] 104) := by subst e10; exact get_put_self gs9
   clear e10
   (first|refine Go.finA rfl ?_|refine Go.finB rfl (hq:=?_))
   refine ⟨rfl, b9, c9, ⟨?_, gm9.keeps k10 (by simp; exact Ne.symm G.ap.1), ?_, G.kb, fun k hk => ?_, G.cb, ⟨G.ap.1, n9 _ hlt G.ap.2.1, n9 _ sr G.ap.2.2⟩, ⟨G.ow.1, G.ow.2.1, fun j hj => ?_⟩⟩, fun i hi => ?_⟩
   · rw [List.length_append]; exact gs10
   ·
    have := hs9.keeps k10 (fun j hj hm => by simp only [List.mem_singleton] at hm; subst hm; exact n9 _ hlt G.ap.2.1 hj)
    rw [List.length_append]
    simpa [u32s'] using this
   ·
    rcases List.mem_append.1 hk with q | q
    · exact G.db k q
    · simp only [List.mem_singleton] at q; omega
   ·
    rcases o9 j hj with q | q
    · exact G.ow.2.2 j q
    · omega
   ·
    rcases o9 i hi with q | q
    · exact .inl q
    · exact .inr (by omega)
  ·
   have hA : addN cum ks ds t = (1, cum, ks, ds) := by unfold addN; rw [if_pos hH, if_neg (by omega)]
   rw [hA]
   (refine Go.run (g:=?_))
   (first|refine Go.finA rfl ?_|refine Go.finB rfl (hq:=?_))
   exact ⟨rfl, da, dc, G2, fun i hi => .inl hi⟩
 | false =>
  have hH' : ¬ hasN cum ks t = true := by rw [hH]; decide
  (refine Go.run (g:=?_))
  refine GoR.call rfl rfl rfl rfl rfl rfl rfl (((hsp _).argA).mono ?_)
  rintro _ h3 ⟨rfl, rfl⟩ -
  rcases Nat.lt_or_ge 65535 (spanN cum t) with w0 | w0
  ·
   have hA : addN cum ks ds t = (2, cum, ks, ds) := by unfold addN; rw [if_neg hH', if_pos w0]
   rw [hA]
   (refine Go.run (g:=?_))
   (first|refine Go.finA rfl ?_|refine Go.finB rfl (hq:=?_))
   exact ⟨rfl, da, dc, G2, fun i hi => .inl hi⟩
  ·
   have hA : addN cum ks ds t = (0, (settleN (ks.length + 1) cum (ks ++ [t])).1, (settleN (ks.length + 1) cum (ks ++ [t])).2, ds) := by unfold addN; rw [if_neg hH', if_neg (by omega)]
   rw [hA]
   have hni : t ∉ ks := fun q => by unfold hasN at hH; rw [decide_eq_true q, Bool.true_or] at hH; cases hH
   (refine Go.run (g:=?_))
   refine GoR.mapUpdateS (.inl rfl) rfl rfl rfl rfl rfl G2.mp (.inl (by simp)) ?_
   intro h4 M4 k4 n4
   rw [aset_dn32 ks t hni] at M4
   have gs4 := k4.get gs2 (by simp; exact G.ap.1)
   have G4 : GSet h4 sb r cum (ks ++ [t]) da dc ds n0 := ⟨gs4, M4, G2.dv.keeps k4 (fun j hj hm => by simp only [List.mem_singleton] at hm; subst hm; exact G.ap.2.2 hj), fun k hk => by
    rcases List.mem_append.1 hk with q | q
    · exact G.kb k q
    · simp only [List.mem_singleton] at q; omega, G.db, G.cb, G.ap, G.ow⟩
   have n4' : h.n ≤ h4.n := by omega
   clear G2 gs2 M4 gs4 k4 n4 hhs hsp
   (refine Go.run (g:=?_))
   obtain ⟨T, hT⟩ : ∃ T, T = settleN (ks.length + 1) cum (ks ++ [t]) := ⟨_, rfl⟩
   rw [← hT]
   refine Go.loop (α := Nat × Nat × List Nat × AHeap) (fun _ => [(0, .pointer (some ⟨sb, 0, none⟩))]) (fun _ => []) (fun x => x.2.2.2) (fun x => x.2.2.1.length ≤ x.1 ∧ settleN x.1 x.2.1 x.2.2.1 = T ∧ h.n ≤ x.2.2.2.n ∧ GSet x.2.2.2 sb r x.2.1 x.2.2.1 da dc ds n0) (fun x => x.2.2.1.length) (ks.length + 1, cum, ks ++ [t], h4) ?_ ?_ rfl rfl ?_
   · exact ⟨by simp, hT.symm, n4', G4⟩
   · exact ⟨rfl, trivial⟩
   clear G4 hT n4'
   rintro ⟨f, c, ks', H⟩ ⟨hf, hset, hHn, G5⟩
   simp only at hf hset hHn G5 ⊢
   have gs5 := G5.sc
   have hnb := next32_lt c
   have ha := add32 c
   generalize hnc : next32 c = nc at *
   refine Go.runN (g:=?_)
   refine Go.loud (by kernel_rfl) rfl ?_
   (refine Go.runL (g:=?_))
   refine GoL.bin rfl rfl rfl rfl rfl rfl ha ?_
   (refine Go.runL (g:=?_))
   refine GoL.lookup2 rfl rfl rfl rfl rfl rfl G5.mp.imap ?_
   rw [al_dn32]
   have sr5 := G5.mp.lt
   have sl5 := AHeap.lt gs5
   have stop : nc ∉ ks' → T = (c, ks') := fun hk => by
    rw [← hset]
    cases f with
    | zero => rfl
    | succ f => unfold settleN; rw [hnc, if_neg hk]
   by_cases hk : nc ∈ ks'
   ·
    rw [if_pos hk]
    simp only [Option.getD_some, Option.isSome_some]
    (refine Go.runL (g:=?_))
    refine GoL.st (g:=?_)
    (refine Go.runL (g:=?_))
    refine GoL.endN (g:=?_)
    refine Go.name ?_
    intro H2 e2
    have s2' : Same H H2 := by subst e2; exact ((Same.refl H).push _).put (Nat.le_refl _) _
    clear e2
    have G6 := G5.same s2'
    have gs6 := G6.sc
    have m6 := s2'.1
    (refine Go.run (g:=?_))
    refine GoR.bin rfl rfl rfl rfl rfl rfl ha ?_
    (refine Go.run (g:=?_))
    have gm6 := G6.mp
    refine Go.name ?_
    intro h7 e7
    have k7 : Keeps [sb] H2 h7 := by subst e7; exact (Keeps.rf _ _).pt (.inl (by simp)) _
    have gs7 : h7.get sb = some (.cells [.int .u32 nc, .map (some r), .slice da ds.length dc] 104) := by subst e7; exact get_put_self gs6
    have n7 : h7.n = H2.n := by subst e7; rfl
    have M7 := gm6.keeps k7 (by simp; exact Ne.symm G6.ap.1)
    clear e7
    have V7 := G6.dv.keeps k7 (fun j hj hm => by simp only [List.mem_singleton] at hm; subst hm; exact G6.ap.2.1 hj)
    refine Go.loud (by kernel_rfl) rfl ?_
    (refine Go.runL (g:=?_))
    refine GoL.deleteS rfl rfl rfl rfl rfl M7 (.inl (by simp)) ?_
    intro h8 M8 k8 n8
    (refine Go.runL (g:=?_))
    refine GoL.endN (g:=?_)
    rw [adel_dn32] at M8
    have gs8 := k8.get gs7 (by simp; exact G6.ap.1)
    have V8 := V7.keeps k8 (fun j hj hm => by simp only [List.mem_singleton] at hm; subst hm; exact G6.ap.2.2 hj)
    have le : (ks'.erase nc).length + 1 = ks'.length := by
     have := List.length_erase_of_mem hk
     have := List.length_pos_of_mem hk
     omega
    (refine Go.run (g:=?_))
    obtain ⟨f', rfl⟩ : ∃ f', f = f' + 1 := ⟨f - 1, by omega⟩
    have hset' : settleN f' nc (ks'.erase nc) = T := by
     rw [← hset]
     conv => rhs; unfold settleN
     rw [hnc, if_pos hk]
    refine Go.again (f', nc, ks'.erase nc, h8) ⟨by simp only; omega, hset', by simp only; omega, gs8, M8, V8, fun k hk => G6.kb k (List.mem_of_mem_erase hk), G6.db, hnb, G6.ap, G6.ow⟩ (by simp only; omega) ⟨rfl, trivial⟩ rfl rfl
   ·
    rw [if_neg hk]
    simp only [Option.getD_none, Option.isSome_none]
    (refine Go.runL (g:=?_))
    refine GoL.st (g:=?_)
    (refine Go.runL (g:=?_))
    refine GoL.endN (g:=?_)
    refine Go.name ?_
    intro H2 e2
    have s2' : Same H H2 := by subst e2; exact ((Same.refl H).push _).put (Nat.le_refl _) _
    clear e2
    have G6 := G5.same s2'
    (refine Go.run (g:=?_))
    (first|refine Go.finA rfl ?_|refine Go.finB rfl (hq:=?_))
    rw [stop hk]
    exact ⟨rfl, da, dc, G6, fun i hi => .inl hi⟩
end Go.Proofs.Ytccbmmnkiihkaaa
namespace Go.Proofs.Ytccbmmnkiihkaaa
open Go.Sort
set_option maxRecDepth 100000
attribute [local irreducible] Go GoR GoL
section
variable {P : Program} {h : AHeap} {o : Oper} {ov : Ov} {W : Nat → Prop} {q : Bool} {N : Nat} {ops : Array Oper} {os : List Oper} {k : List It} {df : List Nat} {Q : PQ} {d : Nat} {b₀ : Bool}
theorem GoR.makeMapS {t : TypeId} (ho : o.op = .makeMap t none) (hd : o.dst = some d) (hN : dOk d N = true) (hgd : o.guard = none) (g : ∀ h', (∀ K, SMap h' h.n K []) → Same h h' → h'.n = h.n + 1 → GoR P W q N ops b₀ os k ((d, .map (some h.n)) :: ov) df h' Q) : GoR P W q N ops b₀ (o :: os) k ov df h Q := GoR.step (r := ⟨.map (some h.n), h.push (.map #[] 0), [], [], false, false⟩) hgd hd hN (S.makeMap ho) (.inr rfl) (fun i hi => by cases hi) (g _ (fun K => ⟨_, _, AHeap.get_push_same _ _, rfl, by simp [stampsOk]⟩) ((Same.refl h).push _) rfl)
end
set_option maxHeartbeats 4000000 in
theorem gnew_spec (cum : Nat) (hc : cum < 4294967296) (h : AHeap) : CallS Try.prog [] 30 [.int .u32 cum] h fun v h' => ∃ sb r, v = .pointer (some ⟨sb, 0, none⟩) ∧ GSet h' sb r cum [] none 0 [] h.n := by
 (refine CallS.of1 Try.func30 rfl Try.ntmps30 Try.results30 rfl ?_)
 (refine Go.run (g:=?_))
 refine GoR.makeMapS rfl rfl rfl rfl ?_
 intro h1 M1 s1 n1
 (refine Go.run (g:=?_))
 refine Go.name ?_
 intro h2 e2
 have s2 : Same h1 h2 := by subst e2; exact (Same.refl h1).push _
 have g2 : h2.get h1.n = some (.cells [.int .u32 cum, .map (some h.n), .slice none 0 0] 104) := by subst e2; exact AHeap.get_push_same _ _
 clear e2
 (first|refine Go.finA rfl ?_|refine Go.finB rfl (hq:=?_))
 have m1 := s1.1
 refine ⟨_, _, rfl, g2, (M1 _).same s2, ?_, ?_, ?_, hc, ⟨by omega, ?_, ?_⟩, ⟨by omega, Nat.le_refl _, ?_⟩⟩
 · exact Sv.nil
 · intro k hk; cases hk
 · intro k hk; cases hk
 · simp [blk]
 · simp [blk]
 · intro j hj; simp [blk] at hj
set_option maxHeartbeats 4000000 in
theorem gnext_spec (sb r cum : Nat) (ks : List Nat) (da : Option Addr) (dc : Nat) (ds : List Nat) (n0 t : Nat) (ht : t < 4294967296) (h : AHeap) (G : GSet h sb r cum ks da dc ds n0) : CallS Try.prog [] 33 [.pointer (some ⟨sb, 0, none⟩), .int .u32 t] h fun v h' => v = .bool (decide (t = next32 cum)) ∧ h' = h := by
 have gs := G.sc
 have ha := add32 cum
 generalize next32 cum = nc at *
 (refine CallS.of2 Try.func33 rfl Try.ntmps33 Try.results33 rfl ?_)
 (refine Go.run (g:=?_))
 refine GoR.eqRef rfl rfl rfl rfl (.inr rfl) rfl rfl (aEq_ptrNil setU _) ?_
 (refine Go.run (g:=?_))
 refine GoR.bin rfl rfl rfl rfl rfl rfl ha ?_
 (refine Go.run (g:=?_))
 (first|refine Go.finA rfl ?_|refine Go.finB rfl (hq:=?_))
 refine ⟨?_, rfl⟩
 simp only [retV]
 exact congrArg Value.bool (decide_eq_decide.2 (by omega))
end Go.Proofs.Ytccbmmnkiihkaaa
namespace Go.Proofs.Ytccbmmnkiihkaaa
open Go.Sort
set_option maxRecDepth 100000
attribute [local irreducible] Go GoR GoL
end Go.Proofs.Ytccbmmnkiihkaaa
namespace Go.Proofs.Ytccbmmnkiihkaaa
open Go.Sort
set_option maxRecDepth 100000
attribute [local irreducible] Go GoR GoL
abbrev i64s (ws : List Nat) : List Value := ws.map fun (n : Nat) => Value.int .i64 (n : Int)
structure RSet (h : AHeap) (rb cum : Nat) (wa : Option Addr) (wc : Nat) (ws : List Nat) (da : Option Addr) (dc : Nat) (ds : List Nat) (n0 : Nat) : Prop where
 sc : h.get rb = some (.cells [.int .u32 cum, .slice wa ws.length wc, .slice da ds.length dc] 54)
 wv : Sv h 2 1 wa ws.length wc (i64s ws)
 dv : Sv h 23 1 da ds.length dc (u32s' ds)
 wb : ∀ w ∈ ws, w < 65536
 db : ∀ k ∈ ds, k < 4294967296
 cb : cum < 4294967296
 ap : rb ∉ blk wa ∧ rb ∉ blk da ∧ ∀ j ∈ blk wa, j ∉ blk da
 ow : n0 ≤ rb ∧ Own n0 wa ∧ Own n0 da
theorem RSet.same {h h' : AHeap} {rb cum : Nat} {wa da : Option Addr} {wc dc : Nat} {ws ds : List Nat} {n0 : Nat} (g : RSet h rb cum wa wc ws da dc ds n0) (s : Same h h') : RSet h' rb cum wa wc ws da dc ds n0 := { g with sc := s.get g.sc, wv := g.wv.same s, dv := g.dv.same s }
end Go.Proofs.Ytccbmmnkiihkaaa
namespace Go.Proofs.Ytccbmmnkiihkaaa
open Go.Sort
set_option maxRecDepth 100000
attribute [local irreducible] Go GoR GoL
end Go.Proofs.Ytccbmmnkiihkaaa
namespace Go.Proofs.Ytccbmmnkiihkaaa
open Go.Sort
set_option maxRecDepth 100000
attribute [local irreducible] Go GoR GoL
def hasW (cum : Nat) (ws : List Nat) (t : Nat) : Bool := decide (spanN cum t ∈ ws) || (decide (spanN cum t = 0) || bef32 t cum)
end Go.Proofs.Ytccbmmnkiihkaaa
namespace Go.Proofs.Ytccbmmnkiihkaaa
open Go.Sort
set_option maxRecDepth 100000
attribute [local irreducible] Go GoR GoL
end Go.Proofs.Ytccbmmnkiihkaaa
namespace Go.Proofs.Ytccbmmnkiihkaaa
open Go.Sort
set_option maxRecDepth 100000
attribute [local irreducible] Go GoR GoL
end Go.Proofs.Ytccbmmnkiihkaaa
namespace Go.Proofs.Ytccbmmnkiihkaaa
open Go.Sort
set_option maxRecDepth 100000
attribute [local irreducible] Go GoR GoL
def atW (w : Nat) : List Nat → Nat
 | [] => 0
 | x :: l => if x < w then atW w l + 1 else 0
def insW (ws : List Nat) (w : Nat) : List Nat := ws.take (atW w ws) ++ w :: ws.drop (atW w ws)
def settleW : Nat → Nat → List Nat → Nat × List Nat
 | 0, c, ws => (c, ws)
 | n + 1, c, ws => if ws.head? = some 1 then settleW n (next32 c) (ws.tail.map (· - 1)) else (c, ws)
def addW (cum : Nat) (ws ds : List Nat) (t : Nat) : Nat × Nat × List Nat × List Nat :=
 if hasW cum ws t = true then (1, cum, ws, if ds.length < 16 then ds ++ [t] else ds)
 else if 65535 < spanN cum t then (2, cum, ws, ds)
 else (0, (settleW (ws.length + 1) cum (insW ws (spanN cum t))).1, (settleW (ws.length + 1) cum (insW ws (spanN cum t))).2, ds)
theorem insW_nil (w : Nat) : insW [] w = [w] := rfl
theorem insW_cons (x w : Nat) (l : List Nat) : insW (x :: l) w = if x < w then x :: insW l w else w :: x :: l := by
 unfold insW
 by_cases h : x < w
 · rw [if_pos h]; simp [atW, h]
 · rw [if_neg h]; simp [atW, h]
theorem insW_perm (w : Nat) (l : List Nat) : (insW l w).Perm (w :: l) := by
 unfold insW
 have := List.perm_middle (a := w) (l₁ := l.take (atW w l)) (l₂ := l.drop (atW w l))
 rwa [List.take_append_drop] at this
theorem insW_mem {w y : Nat} {l : List Nat} : y ∈ insW l w ↔ y = w ∨ y ∈ l := by
 rw [(insW_perm w l).mem_iff, List.mem_cons]
theorem insW_sorted {w : Nat} : ∀ {l : List Nat}, l.Pairwise (· < ·) → w ∉ l → (insW l w).Pairwise (· < ·)
 | [], _, _ => by rw [insW_nil]; exact List.pairwise_singleton _ _
 | x :: l, h, hn => by
  rw [insW_cons]
  rw [List.pairwise_cons] at h
  simp only [List.mem_cons, not_or] at hn
  split
  ·
   rename_i q
   refine List.pairwise_cons.2 ⟨fun y hy => ?_, insW_sorted h.2 hn.2⟩
   rcases insW_mem.1 hy with rfl | z
   · exact q
   · exact h.1 y z
  ·
   rename_i q
   refine List.pairwise_cons.2 ⟨fun y hy => ?_, List.pairwise_cons.2 h⟩
   rcases List.mem_cons.1 hy with rfl | z
   · omega
   · have := h.1 y z; omega
end Go.Proofs.Ytccbmmnkiihkaaa
namespace Go.Proofs.Ytccbmmnkiihkaaa
open Go.Sort
set_option maxRecDepth 100000
attribute [local irreducible] Go GoR GoL
end Go.Proofs.Ytccbmmnkiihkaaa
namespace Go.Proofs.Ytccbmmnkiihkaaa
open Go.Sort
theorem span_inj {c a b : Nat} (hc : c < 4294967296) (ha : a < 4294967296) (hb : b < 4294967296) (e : spanN c a = spanN c b) : a = b := by unfold spanN at e; omega
theorem span_zero {c a : Nat} (hc : c < 4294967296) (ha : a < 4294967296) : spanN c a = 0 ↔ a = c := by unfold spanN; omega
theorem span_one {c : Nat} (hc : c < 4294967296) : spanN c (next32 c) = 1 := by unfold spanN next32; omega
theorem span_next {c k : Nat} (hc : c < 4294967296) (hk : k < 4294967296) (h : 1 ≤ spanN c k) : spanN (next32 c) k = spanN c k - 1 := by unfold spanN next32 at *; omega
structure Alike (c : Nat) (ks ws : List Nat) : Prop where
 pm : ws.Perm (ks.map (spanN c))
 so : ws.Pairwise (· < ·)
 po : ∀ w ∈ ws, 1 ≤ w
 lt : ∀ w ∈ ws, w < 65536
 kb : ∀ k ∈ ks, k < 4294967296
 cb : c < 4294967296
theorem Alike.len {c : Nat} {ks ws : List Nat} (r : Alike c ks ws) : ws.length = ks.length := by have := r.pm.length_eq; rwa [List.length_map] at this
theorem Alike.mem {c t : Nat} {ks ws : List Nat} (r : Alike c ks ws) (ht : t < 4294967296) : t ∈ ks ↔ spanN c t ∈ ws := by
 rw [r.pm.mem_iff, List.mem_map]
 constructor
 · exact fun h => ⟨t, h, rfl⟩
 ·
  rintro ⟨k, hk, e⟩
  rw [← span_inj r.cb (r.kb k hk) ht e]; exact hk
theorem Alike.has {c t : Nat} {ks ws : List Nat} (r : Alike c ks ws) (ht : t < 4294967296) : hasN c ks t = hasW c ws t := by
 unfold hasN hasW
 rw [decide_eq_decide.2 (r.mem ht), decide_eq_decide.2 (span_zero r.cb ht)]
theorem Alike.start {c : Nat} (hc : c < 4294967296) : Alike c [] [] := ⟨.refl _, .nil, (fun w h => by cases h), (fun w h => by cases h), (fun w h => by cases h), hc⟩
theorem settleN_succ (n c : Nat) (ks : List Nat) : settleN (n + 1) c ks = if next32 c ∈ ks then settleN n (next32 c) (ks.erase (next32 c)) else (c, ks) := rfl
theorem settleW_succ (n c : Nat) (ws : List Nat) : settleW (n + 1) c ws = if ws.head? = some 1 then settleW n (next32 c) (ws.tail.map (· - 1)) else (c, ws) := rfl
theorem settleN_yes {n c : Nat} {ks : List Nat} (h : next32 c ∈ ks) : settleN (n + 1) c ks = settleN n (next32 c) (ks.erase (next32 c)) := by rw [settleN_succ, if_pos h]
theorem settleN_no {n c : Nat} {ks : List Nat} (h : ¬ next32 c ∈ ks) : settleN (n + 1) c ks = (c, ks) := by rw [settleN_succ, if_neg h]
theorem settleW_yes {n c : Nat} {l : List Nat} : settleW (n + 1) c (1 :: l) = settleW n (next32 c) (l.map (· - 1)) := by rw [settleW_succ, if_pos List.head?_cons]; rw [List.tail_cons]
theorem settleW_no {n c : Nat} {ws : List Nat} (h : ¬ ws.head? = some 1) : settleW (n + 1) c ws = (c, ws) := by rw [settleW_succ, if_neg h]
theorem map_pred {f g : Nat → Nat} {l ks : List Nat} (hp : l.Perm (ks.map f)) (h : ∀ k ∈ ks, f k - 1 = g k) : (l.map (· - 1)).Perm (ks.map g) := by
 have h2 := hp.map (· - 1)
 rw [List.map_map] at h2
 exact h2.trans (.of_eq (List.map_congr_left fun k hk => h k hk))
theorem perm_erase_map {f : Nat → Nat} {n : Nat} {l ks : List Nat} (hp : (1 :: l).Perm (ks.map f)) (hn : n ∈ ks) (h1 : f n = 1) : l.Perm ((ks.erase n).map f) := by
 have h := hp.trans ((List.perm_cons_erase hn).map f)
 rw [List.map_cons, h1] at h
 exact h.cons_inv
theorem sorted_pred {l : List Nat} (hs : (1 :: l).Pairwise (· < ·)) : (l.map (· - 1)).Pairwise (· < ·) ∧ (∀ w ∈ l.map (· - 1), 1 ≤ w) := by
 have hl : ∀ w ∈ l, 1 < w := fun w hw => (List.pairwise_cons.1 hs).1 w hw
 refine ⟨List.pairwise_map.2 ((List.pairwise_cons.1 hs).2.imp_of_mem fun ha hb hab => by have := hl _ ha; have := hl _ hb; omega), fun y hy => ?_⟩
 obtain ⟨z, hz, rfl⟩ := List.mem_map.1 hy
 have := hl z hz; omega
theorem Alike.settle (n : Nat) : ∀ {c : Nat} {ks ws : List Nat}, Alike c ks ws → (settleN n c ks).1 = (settleW n c ws).1 ∧ Alike (settleN n c ks).1 (settleN n c ks).2 (settleW n c ws).2 := by
 induction n with
 | zero => intro c ks ws r; exact ⟨rfl, r⟩
 | succ n ih =>
  intro c ks ws r
  have key : next32 c ∈ ks ↔ ws.head? = some 1 := by
   rw [r.mem (next32_lt c), span_one r.cb]
   cases hw : ws with
   | nil => simp
   | cons x l =>
    have so := r.so
    have po := r.po
    rw [hw] at so po
    rw [List.head?_cons, Option.some.injEq]
    constructor
    ·
     intro h
     rcases List.mem_cons.1 h with h | h
     · exact h.symm
     ·
      have := (List.pairwise_cons.1 so).1 1 h
      have := po x (by simp)
      omega
    · rintro rfl; simp
  by_cases hk : next32 c ∈ ks
  ·
   have hh := key.1 hk
   obtain ⟨l, rfl⟩ : ∃ l, ws = 1 :: l := by
    cases ws with
    | nil => cases hh
    | cons x l => rw [List.head?_cons, Option.some.injEq] at hh; exact ⟨l, by rw [hh]⟩
   rw [settleN_yes hk, settleW_yes]
   refine ih ?_
   have hsp := sorted_pred r.so
   refine ⟨map_pred (perm_erase_map r.pm hk (span_one r.cb)) fun k hk => ?_, hsp.1, hsp.2, fun y hy => ?_, fun k hk => r.kb k (List.mem_of_mem_erase hk), next32_lt c⟩
   ·
    have hks := List.mem_of_mem_erase hk
    exact (span_next r.cb (r.kb k hks) (r.po _ ((r.mem (r.kb k hks)).1 hks))).symm
   ·
    obtain ⟨z, hz, rfl⟩ := List.mem_map.1 hy
    have := r.lt z (List.mem_cons_of_mem _ hz); omega
  ·
   have hh : ¬ ws.head? = some 1 := fun q => hk (key.2 q)
   rw [settleN_no hk, settleW_no hh]
   exact ⟨rfl, r⟩
theorem addN_has {c t : Nat} {ks : List Nat} (ds : List Nat) (h : hasN c ks t = true) : addN c ks ds t = (1, c, ks, if ds.length < 16 then ds ++ [t] else ds) := by unfold addN; rw [if_pos h]
theorem addN_far {c t : Nat} {ks : List Nat} (ds : List Nat) (h : ¬ hasN c ks t = true) (h2 : 65535 < spanN c t) : addN c ks ds t = (2, c, ks, ds) := by unfold addN; rw [if_neg h, if_pos h2]
theorem addN_new {c t : Nat} {ks : List Nat} (ds : List Nat) (h : ¬ hasN c ks t = true) (h2 : ¬ 65535 < spanN c t) {X : Nat × List Nat} (hX : settleN (ks.length + 1) c (ks ++ [t]) = X) : addN c ks ds t = (0, X.1, X.2, ds) := by unfold addN; rw [if_neg h, if_neg h2, hX]
theorem addW_has {c t : Nat} {ws : List Nat} (ds : List Nat) (h : hasW c ws t = true) : addW c ws ds t = (1, c, ws, if ds.length < 16 then ds ++ [t] else ds) := by unfold addW; rw [if_pos h]
theorem addW_far {c t : Nat} {ws : List Nat} (ds : List Nat) (h : ¬ hasW c ws t = true) (h2 : 65535 < spanN c t) : addW c ws ds t = (2, c, ws, ds) := by unfold addW; rw [if_neg h, if_pos h2]
theorem addW_new {c t : Nat} {ws : List Nat} (ds : List Nat) (h : ¬ hasW c ws t = true) (h2 : ¬ 65535 < spanN c t) {X : Nat × List Nat} (hX : settleW (ws.length + 1) c (insW ws (spanN c t)) = X) : addW c ws ds t = (0, X.1, X.2, ds) := by unfold addW; rw [if_neg h, if_neg h2, hX]
theorem insW_perm_map {f : Nat → Nat} {t : Nat} {ws ks : List Nat} (p : ws.Perm (ks.map f)) : (insW ws (f t)).Perm ((ks ++ [t]).map f) := by
 rw [List.map_append, List.map_cons, List.map_nil]
 exact (insW_perm _ _).trans ((p.cons _).trans (List.perm_append_singleton _ _).symm)
theorem Alike.ins {c t : Nat} {ks ws : List Nat} (r : Alike c ks ws) (ht : t < 4294967296) (h : ¬ hasW c ws t = true) (h2 : ¬ 65535 < spanN c t) : Alike c (ks ++ [t]) (insW ws (spanN c t)) := by
 have hwn : spanN c t ∉ ws := fun q => h (by unfold hasW; rw [decide_eq_true q, Bool.true_or])
 have hw0 : spanN c t ≠ 0 := fun q => h (by unfold hasW; rw [decide_eq_true q, Bool.true_or, Bool.or_true])
 have hp := insW_perm_map (t := t) r.pm
 refine ⟨hp, insW_sorted r.so hwn, fun y hy => ?_, fun y hy => ?_, fun k hk => ?_, r.cb⟩
 ·
  rcases insW_mem.1 hy with q | q
  · omega
  · exact r.po y q
 ·
  rcases insW_mem.1 hy with q | q
  · omega
  · exact r.lt y q
 ·
  rcases List.mem_append.1 hk with q | q
  · exact r.kb k q
  · rw [List.mem_singleton.1 q]; exact ht
theorem Alike.news {c t : Nat} {ks ws : List Nat} (r : Alike c ks ws) (ht : t < 4294967296) (hH : ¬ hasW c ws t = true) (h2 : ¬ 65535 < spanN c t) : ∃ X Y, settleN (ks.length + 1) c (ks ++ [t]) = X ∧ settleW (ws.length + 1) c (insW ws (spanN c t)) = Y ∧ X.1 = Y.1 ∧ Alike X.1 X.2 Y.2 := by
 have hs := (r.ins ht hH h2).settle (ks.length + 1)
 rw [r.len]
 exact ⟨_, _, rfl, rfl, hs⟩
theorem Alike.add {c t : Nat} {ks ws ds : List Nat} (r : Alike c ks ws) (ht : t < 4294967296) : (addN c ks ds t).1 = (addW c ws ds t).1 ∧ (addN c ks ds t).2.1 = (addW c ws ds t).2.1 ∧ (addN c ks ds t).2.2.2 = (addW c ws ds t).2.2.2 ∧ Alike (addN c ks ds t).2.1 (addN c ks ds t).2.2.1 (addW c ws ds t).2.2.1 := by
 have hh := r.has ht
 by_cases hH : hasW c ws t = true
 ·
  rw [addN_has ds (hh.trans hH), addW_has ds hH]
  exact ⟨rfl, rfl, rfl, r⟩
 ·
  have hN : ¬ hasN c ks t = true := by rw [hh]; exact hH
  by_cases h2 : 65535 < spanN c t
  ·
   rw [addN_far ds hN h2, addW_far ds hH h2]
   exact ⟨rfl, rfl, rfl, r⟩
  ·
   obtain ⟨X, Y, h3, h4, h5, h6⟩ := r.news ht hH h2
   rw [addN_new ds hN h2 h3, addW_new ds hH h2 h4]
   exact ⟨rfl, h5, rfl, h6⟩
theorem settleN_len : ∀ (n c : Nat) (ks : List Nat), (settleN n c ks).2.length ≤ ks.length
 | 0, c, ks => Nat.le_refl _
 | n + 1, c, ks => by
  unfold settleN
  split
  · exact Nat.le_trans (settleN_len n _ _) (List.length_erase_le)
  · exact Nat.le_refl _
theorem addN_len (c : Nat) (ks ds : List Nat) (t : Nat) : (addN c ks ds t).2.2.1.length ≤ ks.length + 1 := by
 by_cases h : hasN c ks t = true
 · rw [addN_has ds h]; exact Nat.le_succ _
 ·
  by_cases h2 : 65535 < spanN c t
  · rw [addN_far ds h h2]; exact Nat.le_succ _
  ·
   have := settleN_len (ks.length + 1) c (ks ++ [t])
   rw [addN_new ds h h2 rfl]
   generalize settleN (ks.length + 1) c (ks ++ [t]) = X at *
   rw [List.length_append] at this
   exact this
theorem addN_ds (c : Nat) (ks ds : List Nat) (t : Nat) (hd : ds.length ≤ 16) : (addN c ks ds t).2.2.2.length ≤ 16 := by
 by_cases h : hasN c ks t = true
 ·
  rw [addN_has ds h]
  show (if ds.length < 16 then ds ++ [t] else ds).length ≤ 16
  split
  · rw [List.length_append]; simp only [List.length_cons, List.length_nil]; omega
  · exact hd
 ·
  by_cases h2 : 65535 < spanN c t
  · rw [addN_far ds h h2]; exact hd
  · rw [addN_new ds h h2 rfl]; exact hd
end Go.Proofs.Ytccbmmnkiihkaaa
namespace Go.Proofs.Ytccbmmnkiihkaaa
open Go.Sort
set_option maxRecDepth 100000
attribute [local irreducible] Go GoR GoL
theorem GSet.kept {h h' : AHeap} {sb r cum : Nat} {ks : List Nat} {da : Option Addr} {dc : Nat} {ds : List Nat} {n0 : Nat} {wr : List Nat} (g : GSet h sb r cum ks da dc ds n0) (k : Keeps wr h h') (hn : ∀ j ∈ [sb, r] ++ blk da, j ∉ wr) : GSet h' sb r cum ks da dc ds n0 := { g with sc := k.get g.sc (hn _ (by simp)), mp := g.mp.keeps k (hn _ (by simp)), dv := g.dv.keeps k fun j hj => hn j (by simp [hj]) }
theorem RSet.kept {h h' : AHeap} {rb cum : Nat} {wa da : Option Addr} {wc dc : Nat} {ws ds : List Nat} {n0 : Nat} {wr : List Nat} (g : RSet h rb cum wa wc ws da dc ds n0) (k : Keeps wr h h') (hn : ∀ j ∈ [rb] ++ blk wa ++ blk da, j ∉ wr) : RSet h' rb cum wa wc ws da dc ds n0 := { g with sc := k.get g.sc (hn _ (by simp)), wv := g.wv.keeps k (fun j hj => hn j (by simp [hj])), dv := g.dv.keeps k fun j hj => hn j (by simp [hj]) }
theorem GSet.lts {h : AHeap} {sb r cum : Nat} {ks : List Nat} {da : Option Addr} {dc : Nat} {ds : List Nat} {n0 : Nat} (g : GSet h sb r cum ks da dc ds n0) : ∀ j ∈ [sb, r] ++ blk da, j < h.n := fun j hj => by
 simp only [List.cons_append, List.nil_append, List.mem_cons] at hj
 rcases hj with rfl | rfl | q
 · exact AHeap.lt g.sc
 · exact g.mp.lt
 · exact g.dv.lt j q
theorem GSet.owns {h : AHeap} {sb r cum : Nat} {ks : List Nat} {da : Option Addr} {dc : Nat} {ds : List Nat} {n0 : Nat} (g : GSet h sb r cum ks da dc ds n0) : ∀ j ∈ [sb, r] ++ blk da, n0 ≤ j := fun j hj => by
 simp only [List.cons_append, List.nil_append, List.mem_cons] at hj
 rcases hj with rfl | rfl | q
 · exact g.ow.1
 · exact g.ow.2.1
 · exact g.ow.2.2 j q
theorem RSet.lts {h : AHeap} {rb cum : Nat} {wa da : Option Addr} {wc dc : Nat} {ws ds : List Nat} {n0 : Nat} (g : RSet h rb cum wa wc ws da dc ds n0) : ∀ j ∈ [rb] ++ blk wa ++ blk da, j < h.n := fun j hj => by
 simp only [List.cons_append, List.nil_append, List.mem_cons, List.mem_append] at hj
 rcases hj with rfl | q | q
 · exact AHeap.lt g.sc
 · exact g.wv.lt j q
 · exact g.dv.lt j q
theorem RSet.owns {h : AHeap} {rb cum : Nat} {wa da : Option Addr} {wc dc : Nat} {ws ds : List Nat} {n0 : Nat} (g : RSet h rb cum wa wc ws da dc ds n0) : ∀ j ∈ [rb] ++ blk wa ++ blk da, n0 ≤ j := fun j hj => by
 simp only [List.cons_append, List.nil_append, List.mem_cons, List.mem_append] at hj
 rcases hj with rfl | q | q
 · exact g.ow.1
 · exact g.ow.2.1 j q
 · exact g.ow.2.2 j q
theorem add_specE (sb r cum : Nat) (ks : List Nat) (da : Option Addr) (dc : Nat) (ds : List Nat) (n0 t : Nat) (ht : t < 4294967296) (hds : ds.length ≤ 16) (h : AHeap) (hn0 : n0 ≤ h.n) (G : GSet h sb r cum ks da dc ds n0) {code c' : Nat} {ks' ds' : List Nat} (hR : addN cum ks ds t = (code, c', ks', ds')) : CallS Try.prog ([sb, r] ++ blk da) 37 [.pointer (some ⟨sb, 0, none⟩), .int .u32 t] h fun v h' => v = .int .u8 (code : Nat) ∧ ∃ da' dc', GSet h' sb r c' ks' da' dc' ds' n0 ∧ ∀ i ∈ blk da', i ∈ blk da ∨ h.n ≤ i := by
 have k := add_spec sb r cum ks da dc ds n0 t ht hds h hn0 G
 rw [hR] at k
 exact k
end Go.Proofs.Ytccbmmnkiihkaaa
namespace Go.Proofs.Ytccbmmnkiihkaaa
set_option maxRecDepth 100000
attribute [local irreducible] Go GoR GoL
structure IT where
 ra : Option Addr
 rc : Nat
 da : Option Addr
 dc : Nat
 c : Nat
 ks : List Nat
 ds : List Nat
 kept : List PV
 s : IS
def IT.held (t : IT) : Nat := heldN t.kept + lenS t.s
structure IOk (h : AHeap) (xb : Nat) (A : IA) (r mr : Nat) (t : IT) (n0 : Nat) : Prop where
 X : IX h xb A t.ra t.rc (lenS t.s) t.s n0
 G : GSet h A.sb r t.c t.ks t.da t.dc t.ds n0
 J : FJ h A.jb mr t.kept n0
 ne : r ≠ mr ∧ r ≠ A.nx ∧ r ≠ A.wt ∧ mr ≠ A.nx ∧ mr ≠ A.wt
section
variable {h h' : AHeap} {xb : Nat} {A : IA} {r mr : Nat} {t : IT} {n0 : Nat}
theorem IOk.same (k : IOk h xb A r mr t n0) (s : Same h h') : IOk h' xb A r mr t n0 := ⟨k.X.same s, k.G.same s, k.J.same s, k.ne⟩
theorem IOk.gx (k : IOk h xb A r mr t n0) : ∀ j ∈ [A.sb, r] ++ blk t.da, j ∉ [xb, A.nx, A.wt] ++ blk t.ra := fun j hj hm => by
 obtain ⟨es, ck, g, -⟩ := k.G.mp
 obtain ⟨es1, ck1, g1, -⟩ := k.X.nm
 obtain ⟨es2, ck2, g2, -⟩ := k.X.wm
 simp only [List.cons_append, List.nil_append, List.mem_cons] at hj hm
 rcases hj with rfl | rfl | q
 ·
  have gs := k.G.sc
  rcases hm with e | e | e | z
  · rw [e, k.X.xc] at gs; cases gs
  · rw [e, g1] at gs; cases gs
  · rw [e, g2] at gs; cases gs
  · exact sv_out k.X.rv gs (fun c e => by cases e) z
 ·
  rcases hm with e | e | e | z
  · have := k.X.xc; rw [← e, g] at this; cases this
  · exact k.ne.2.1 e
  · exact k.ne.2.2.1 e
  · exact sv_out k.X.rv g (fun c e => by cases e) z
 ·
  rcases hm with rfl | rfl | rfl | z
  · exact sv_out k.G.dv k.X.xc (fun c e => by cases e) q
  · exact sv_out k.G.dv g1 (fun c e => by cases e) q
  · exact sv_out k.G.dv g2 (fun c e => by cases e) q
  · exact sv_sv k.G.dv k.X.rv (by decide) j q z
theorem IOk.jx (k : IOk h xb A r mr t n0) : A.jb ∉ [xb, A.nx, A.wt] ++ blk t.ra ∧ mr ∉ [xb, A.nx, A.wt] ++ blk t.ra := by
 obtain ⟨es, ck, g, -⟩ := k.J.mp
 obtain ⟨es1, ck1, g1, -⟩ := k.X.nm
 obtain ⟨es2, ck2, g2, -⟩ := k.X.wm
 have gj := k.J.jc
 refine ⟨fun hm => ?_, fun hm => ?_⟩
 ·
  simp only [List.cons_append, List.nil_append, List.mem_cons] at hm
  rcases hm with e | e | e | z
  · rw [e, k.X.xc] at gj; cases gj
  · rw [e, g1] at gj; cases gj
  · rw [e, g2] at gj; cases gj
  · exact sv_out k.X.rv gj (fun c e => by cases e) z
 ·
  simp only [List.cons_append, List.nil_append, List.mem_cons] at hm
  rcases hm with e | e | e | z
  · have := k.X.xc; rw [← e, g] at this; cases this
  · exact k.ne.2.2.2.1 e
  · exact k.ne.2.2.2.2 e
  · exact sv_out k.X.rv g (fun c e => by cases e) z
theorem IOk.jg (k : IOk h xb A r mr t n0) : A.jb ∉ [A.sb, r] ++ blk t.da ∧ mr ∉ [A.sb, r] ++ blk t.da := by
 obtain ⟨es, ck, g, -⟩ := k.J.mp
 obtain ⟨es1, ck1, g1, -⟩ := k.G.mp
 have gj := k.J.jc
 have gs := k.G.sc
 refine ⟨fun hm => ?_, fun hm => ?_⟩
 ·
  simp only [List.cons_append, List.nil_append, List.mem_cons] at hm
  rcases hm with e | e | z
  · rw [e, gs] at gj; cases gj
  · rw [e, g1] at gj; cases gj
  · exact sv_out k.G.dv gj (fun c e => by cases e) z
 ·
  simp only [List.cons_append, List.nil_append, List.mem_cons] at hm
  rcases hm with e | e | z
  · rw [← e, g] at gs; cases gs
  · exact k.ne.1 e.symm
  · exact sv_out k.G.dv g (fun c e => by cases e) z
theorem IOk.dg (k : IOk h xb A r mr t n0) {a : Option Addr} {len cap : Nat} {cs : List Value} (d : Sv h 5 1 a len cap cs) : ∀ i ∈ blk a, i ∉ [A.sb, r] ++ blk t.da := fun i hi hm => by
 obtain ⟨es1, ck1, g1, -⟩ := k.G.mp
 simp only [List.cons_append, List.nil_append, List.mem_cons] at hm
 rcases hm with rfl | rfl | z
 · exact sv_out d k.G.sc (fun c e => by cases e) hi
 · exact sv_out d g1 (fun c e => by cases e) hi
 · exact sv_sv d k.G.dv (by decide) i hi z
theorem IOk.dj (k : IOk h xb A r mr t n0) {a : Option Addr} {len cap : Nat} {cs : List Value} (d : Sv h 5 1 a len cap cs) : ∀ i ∈ blk a, i ∉ [A.jb, mr] := fun i hi hm => by
 obtain ⟨es1, ck1, g1, -⟩ := k.J.mp
 simp only [List.mem_cons, List.not_mem_nil, or_false] at hm
 rcases hm with rfl | rfl
 · exact sv_out d k.J.jc (fun c e => by cases e) hi
 · exact sv_out d g1 (fun c e => by cases e) hi
theorem IOk.setG (k : IOk h xb A r mr t n0) {da' : Option Addr} {dc' c' : Nat} {ks' ds' : List Nat} (kk : Keeps ([A.sb, r] ++ blk t.da) h h') (G : GSet h' A.sb r c' ks' da' dc' ds' n0) : IOk h' xb A r mr { t with da := da', dc := dc', c := c', ks := ks', ds := ds' } n0 := ⟨k.X.kept kk (fun j hj hm => k.gx j hm hj) (fun d => k.dg d), G, k.J.kept kk k.jg.1 k.jg.2 (fun p hp => k.dg (k.J.dv p hp)), k.ne⟩
theorem IOk.setJ (k : IOk h xb A r mr t n0) {kept' : List PV} (kk : Keeps [A.jb, mr] h h') (J : FJ h' A.jb mr kept' n0) : IOk h' xb A r mr { t with kept := kept' } n0 := ⟨k.X.kept kk (fun j hj hm => by
 simp only [List.mem_cons, List.not_mem_nil, or_false] at hm
 rcases hm with rfl | rfl
 · exact k.jx.1 hj
 · exact k.jx.2 hj) (fun d => k.dj d), k.G.kept kk (fun j hj hm => by
 simp only [List.mem_cons, List.not_mem_nil, or_false] at hm
 rcases hm with rfl | rfl
 · exact k.jg.1 hj
 · exact k.jg.2 hj), J, k.ne⟩
theorem IOk.setX (k : IOk h xb A r mr t n0) {ra' : Option Addr} {rc' : Nat} {s' : IS} (kk : Keeps ([xb, A.nx, A.wt] ++ blk t.ra) h h') (X : IX h' xb A ra' rc' (lenS s') s' n0) : IOk h' xb A r mr { t with ra := ra', rc := rc', s := s' } n0 := ⟨X, k.G.kept kk k.gx, k.J.kept kk k.jx.1 k.jx.2 (fun p hp => k.X.out (k.J.dv p hp)), k.ne⟩
end
theorem inboxU : Try.prog.underlying 27 = some (.pointer 84) := by kernel_rfl
set_option maxHeartbeats 4000000 in
theorem icum_spec (xb : Nat) (A : IA) (r mr : Nat) (t : IT) (n0 : Nat) (h : AHeap) (k : IOk h xb A r mr t n0) : CallS Try.prog [] 19 [.pointer (some ⟨xb, 0, none⟩)] h fun v h' => v = .int .u32 (t.c : Nat) ∧ h' = h := by
 have gx := k.X.xc
 have hc := cum_spec A.sb r t.c t.ks t.da t.dc t.ds n0 h k.G
 (refine CallS.of1 Try.func19 rfl Try.ntmps19 Try.results19 rfl ?_)
 (refine Go.run (g:=?_))
 refine GoR.eqRef rfl rfl rfl rfl (.inl rfl) rfl rfl (aEq_ptrNil9 inboxU _) ?_
 (refine Go.run (g:=?_))
 refine GoR.call rfl rfl rfl rfl rfl rfl rfl (((hc).argA).mono ?_)
 rintro _ h2 ⟨rfl, rfl⟩ -
 (refine Go.run (g:=?_))
 (first|refine Go.finA rfl ?_|refine Go.finB rfl (hq:=?_))
 exact ⟨rfl, rfl⟩
set_option maxHeartbeats 4000000 in
theorem iready_spec (xb : Nat) (A : IA) (r mr : Nat) (t : IT) (n0 : Nat) (h : AHeap) (k : IOk h xb A r mr t n0) : CallS Try.prog [] 20 [.pointer (some ⟨xb, 0, none⟩)] h fun v h' => v = .int .i64 (t.s.ready.length : Nat) ∧ h' = h := by
 have gx := k.X.xc
 (refine CallS.of1 Try.func20 rfl Try.ntmps20 Try.results20 rfl ?_)
 (refine Go.run (g:=?_))
 refine GoR.eqRef rfl rfl rfl rfl (.inl rfl) rfl rfl (aEq_ptrNil9 inboxU _) ?_
 (refine Go.run (g:=?_))
 (first|refine Go.finA rfl ?_|refine Go.finB rfl (hq:=?_))
 exact ⟨rfl, rfl⟩
set_option maxHeartbeats 4000000 in
theorem iheld_spec (xb : Nat) (A : IA) (r mr : Nat) (t : IT) (n0 : Nat) (h : AHeap) (k : IOk h xb A r mr t n0) (hb : t.held ≤ 1000000000) : CallS Try.prog [] 21 [.pointer (some ⟨xb, 0, none⟩)] h fun v h' => v = .int .i64 (t.held : Nat) ∧ h' = h := by
 have gx := k.X.xc
 have hh := fheld_spec A.jb mr t.kept n0 h k.J
 unfold IT.held at *
 (refine CallS.of1 Try.func21 rfl Try.ntmps21 Try.results21 rfl ?_)
 (refine Go.run (g:=?_))
 refine GoR.eqRef rfl rfl rfl rfl (.inl rfl) rfl rfl (aEq_ptrNil9 inboxU _) ?_
 (refine Go.run (g:=?_))
 refine GoR.call rfl rfl rfl rfl rfl rfl rfl (((hh).argA).mono ?_)
 rintro _ h2 ⟨rfl, rfl⟩ -
 (refine Go.run (g:=?_))
 (first|refine Go.finA rfl ?_|refine Go.finB rfl (hq:=?_))
 exact ⟨rfl, rfl⟩
end Go.Proofs.Ytccbmmnkiihkaaa
namespace Go.Proofs.Ytccbmmnkiihkaaa
set_option maxRecDepth 100000
attribute [local irreducible] Go GoR GoL
def boundN (n : Int) : Nat := if n > 1048576 then 1048576 else n.toNat
set_option maxHeartbeats 4000000 in
theorem bound_spec (n : Int) (h : AHeap) : CallS Try.prog [] 29 [.int .i64 n] h fun v h' => v = .int .i64 (boundN n : Nat) ∧ h' = h := by
 have key : (if (if (1048576 : Int) < n then (1048576 : Int) else n) > 0 then (if (1048576 : Int) < n then (1048576 : Int) else n) else 0) = ((boundN n : Nat) : Int) := by
  unfold boundN
  by_cases q : (1048576 : Int) < n
  · rw [if_pos q, if_pos (show n > 1048576 from q)]; rfl
  ·
   rw [if_neg q, if_neg (show ¬ n > 1048576 from q)]
   by_cases p : n > 0
   · rw [if_pos p]; omega
   · rw [if_neg p]; omega
 (refine CallS.of1 Try.func29 rfl Try.ntmps29 Try.results29 rfl ?_)
 (refine Go.run (g:=?_))
 refine GoR.minI rfl rfl rfl rfl rfl rfl ?_
 refine GoR.maxI rfl rfl rfl rfl rfl rfl ?_
 rw [key]
 (refine Go.run (g:=?_))
 (first|refine Go.finA rfl ?_|refine Go.finB rfl (hq:=?_))
 exact ⟨rfl, rfl⟩
set_option maxHeartbeats 8000000 in
theorem inew_spec (st : Nat) (rm sp : Int) (c : Nat) (hc : c < 4294967296) (h : AHeap) : CallS Try.prog [] 8 [.int .u16 st, .int .i64 rm, .int .i64 sp, .int .u32 c] h fun v h' => ∃ xb sb jb nx wt r mr, v = .pointer (some ⟨xb, 0, none⟩) ∧ IOk h' xb ⟨st, boundN rm, boundN sp, sb, jb, nx, wt⟩ r mr ⟨none, 0, none, 0, c, [], [], [], ⟨[], [], []⟩⟩ h.n := by
 (refine CallS.of4 Try.func8 rfl Try.ntmps8 Try.results8 rfl ?_)
 (refine Go.run (g:=?_))
 refine GoR.call rfl rfl rfl rfl rfl rfl rfl (((bound_spec rm _).argA).mono ?_)
 rintro _ h1 ⟨rfl, rfl⟩ -
 (refine Go.run (g:=?_))
 refine GoR.call rfl rfl rfl rfl rfl rfl rfl (((bound_spec sp _).argA).mono ?_)
 rintro _ h2 ⟨rfl, rfl⟩ -
 (refine Go.run (g:=?_))
 refine GoR.call rfl rfl rfl rfl rfl rfl rfl (((gnew_spec c hc _).argA).mono ?_)
 rintro _ h3 ⟨sb, r, rfl, G⟩ s3
 (refine Go.run (g:=?_))
 refine GoR.call rfl rfl rfl rfl rfl rfl rfl (((fnew_spec _).argA).mono ?_)
 rintro _ h4 ⟨jb, mr, rfl, J⟩ s4
 (refine Go.run (g:=?_))
 refine GoR.makeMapI rfl rfl rfl rfl ?_
 intro h5 M5 s5 n5
 refine GoR.makeMapG tf rfl rfl rfl rfl ?_
 intro h6 M6 s6 n6
 have glt := G.lts
 have gow := G.owns
 have m3 := s3.1
 have m4 := s4.1
 have jlt := AHeap.lt J.jc
 have mlt := J.mp.lt
 have jow := J.ow
 have l1 := glt sb (by simp)
 have l2 := glt r (by simp)
 (refine Go.run (g:=?_))
 refine Go.name ?_
 intro h7 e7
 have s7 : Same h6 h7 := by subst e7; exact (Same.refl h6).push _
 have g7 : h7.get h6.n = some (.cells (xC st (boundN rm) (boundN sp) sb jb h4.n h5.n none 0 0 0) 84) := by subst e7; exact AHeap.get_push_same _ _
 clear e7
 have o1 := gow sb (by simp)
 have o2 := gow r (by simp)
 (first|refine Go.finA rfl ?_|refine Go.finB rfl (hq:=?_))
 refine ⟨_, sb, jb, h4.n, h5.n, r, mr, rfl, ⟨g7, ((M5 _).same s6).same s7, M6.same s7, Sv.nil, (fun m hm => by cases hm), (fun m hm => by cases hm), (fun m hm => by cases hm), (fun m hm => by cases hm), (fun m hm => by cases hm), by simp only; omega, ⟨by omega, by simp only; omega, by simp only; omega, Own.nil _⟩⟩, ?_, ?_, ⟨by omega, by simp only; omega, by simp only; omega, by simp only; omega, by simp only; omega⟩⟩
 ·
  have G' := (((G.same s4).same s5).same s6).same s7
  exact { G' with ow := ⟨by omega, by omega, Own.nil _⟩ }
 ·
  have J' := ((J.same s5).same s6).same s7
  exact { J' with ow := ⟨by simp only; omega, by omega⟩ }
theorem sv_narrow {h : AHeap} {t : TypeId} {sz : Nat} {a : Option Addr} {len cap cap' : Nat} {cs : List Value} (k : Sv h t sz a len cap cs) (h1 : len ≤ cap') (h2 : cap' ≤ cap) : Sv h t sz a len cap' cs := by
 cases k with
 | nil =>
  obtain rfl : cap' = 0 := by omega
  exact .nil
 | mk hg ho hl hc => exact .mk hg (by have := Nat.mul_le_mul_right sz h2; omega) h1 hc
theorem ics_drop (m : IM) (l : List IM) : (ics (m :: l)).drop (1 * 4) = ics l := rfl
set_option maxHeartbeats 16000000 in
theorem irecv_specO (xb : Nat) (A : IA) (r mr : Nat) (t : IT) (n0 : Nat) (h : AHeap) (hn0 : n0 ≤ h.n) (k : IOk h xb A r mr t n0) (hl : t.s.ready.length ≤ 1000000) (hb : t.held ≤ 1000000000) : CallS Try.prog [xb] 12 [.pointer (some ⟨xb, 0, none⟩)] h fun v h' => (t.s.ready = [] ∧ v = .tuple #[.agg #[.int .u16 0, .bool false, .int .u32 0, .slice none 0 0], .bool false] ∧ IOk h' xb A r mr t n0) ∨ ∃ m rest ra' rc', t.s.ready = m :: rest ∧ v = .tuple #[iV m, .bool true] ∧ IOk h' xb A r mr { t with ra := ra', rc := rc', s := { t.s with ready := rest } } n0 ∧ Sv h' 5 1 m.a m.z.length m.cap (m.z.map bv) ∧ (m.sid < 65536 ∧ m.ppid < 4294967296) ∧ ∀ i ∈ blk ra', i ∈ blk t.ra := by
 have gx := k.X.xc
 have hlt := AHeap.lt gx
 have hrd := iready_spec xb A r mr t n0
 have hlt2 := k.X.lts
 have hglt := k.G.lts
 have hjl := AHeap.lt k.J.jc
 have hmrl := k.J.mp.lt
 have hlen : lenI t.s.ready ≤ t.held := by unfold IT.held lenS; omega
 (refine CallS.of1 Try.func12 rfl Try.ntmps12 Try.results12 rfl ?_)
 (refine Go.run (g:=?_))
 refine GoR.name ?_
 intro h1 e1
 have s1 : Same h h1 := by subst e1; exact (Same.refl h).push _
 have g1 : h1.get h.n = some (.cells [.int .u16 0, .bool false, .int .u32 0, .slice none 0 0] 39) := by subst e1; exact AHeap.get_push_same _ _
 have n1 : h1.n = h.n + 1 := by subst e1; rfl
 clear e1
 have k1 := k.same s1
 have gx1 := k1.X.xc
 clear gx
 refine GoR.call rfl rfl rfl rfl rfl rfl rfl (((hrd _ k1).argA).mono ?_)
 rintro _ h2 ⟨rfl, rfl⟩ -
 cases hr : t.s.ready with
 | nil =>
  simp only [List.length_nil]
  (refine Go.run (g:=?_))
  refine Go.name ?_
  intro h3 e3
  have s3 : Same h h3 := by subst e3; exact s1.put (Nat.le_refl _) _
  have g3 : h3.get h.n = some (.cells [.int .u16 0, .bool false, .int .u32 0, .slice none 0 0] 39) := by subst e3; exact get_put_self g1
  clear e3
  refine Go.fin (by first|exact .inr rfl|exact .inl rfl) (.cellN rfl inferInstance hg_ (by first | exact Nat.le_refl _ | (simp; omega)) rfl (.tmp rfl .nil)) ?_
  exact .inl ⟨trivial, rfl, k.same s3⟩
 | cons m rest =>
  have hrl : t.s.ready.length = rest.length + 1 := by rw [hr]; rfl
  have rv1 := k1.X.rv
  rw [hr] at rv1 gx1
  have c0 : ((ics (m :: rest)).drop (0 * 4)).take 4 = iC m := rfl
  have hbe : 0 * 4 + 4 ≤ (ics (m :: rest)).length := by rw [ics_len]; simp only [List.length_cons]; omega
  have hml : m.z.length ≤ lenS t.s := by unfold lenS lenI; rw [hr]; simp only [List.map_cons, List.sum_cons]; omega
  have hls : lenS t.s ≤ 1000000000 := by unfold IT.held at hb; omega
  have hlc : (m :: rest).length = rest.length + 1 := rfl
  simp only [iC] at c0
  (refine Go.run (g:=?_))
  refine GoR.name ?_
  intro h3 e3
  have s3 : Same h2 h3 := by subst e3; exact ((Same.refl h2).push _).put (Nat.le_refl _) _
  have g4 : h3.get h2.n = some (.cells [.int .u16 (m.sid : Nat), .bool m.un, .int .u32 (m.ppid : Nat), .slice m.a m.z.length m.cap] 39) := by subst e3; exact hg_
  have n3 : h3.n = h2.n + 1 := by subst e3; rfl
  clear e3
  have k3 := k1.same s3
  have rv3 := rv1.same s3
  have gx3 := s3.get gx1
  have g13 := s3.get g1
  have xr3 := k3.X.xr
  clear k k1 rv1 gx1 g1 s1
  refine GoR.slice3V (lo' := some (.int .i64 1)) (hi := .int .i64 ((m :: rest).length : Nat)) (mx := .int .i64 ((m :: rest).length : Nat)) (l := 1) (r := (m :: rest).length) (xx := (m :: rest).length) rfl rfl rfl rfl rfl rfl rfl rfl rv3.rv (by simp [bnd]) (by simp [bnd]; omega) (by simp [bnd]; omega) (by rw [hlc]; omega) (Nat.le_refl _) rv3.le ?_
  have nv3 := sv_narrow rv3 (Nat.le_refl _) rv3.le
  have sb3 := nv3.sub (l := 1) (r := (m :: rest).length) (by rw [hlc]; omega) (Nat.le_refl _)
  rw [hlc, Nat.add_sub_cancel] at sb3
  rw [hlc, Nat.add_sub_cancel]
  rw [ics_drop, List.take_of_length_le (by rw [ics_len]; exact Nat.le_refl _)] at sb3
  have hsub : blk (subA t.ra (1 * 4)) = blk t.ra := by cases t.ra <;> rfl
  generalize subA t.ra (1 * 4) = ra' at *
  rw [hlc] at gx3
  (refine Go.run (g:=?_))
  refine Go.name ?_
  intro h4 e4
  have k4 : Keeps [xb] h3 h4 := by subst e4; exact (Keeps.rf _ _).pt (.inl (by simp)) _
  have gx4 : h4.get xb = some (.cells (xC A.st A.rm A.sp A.sb A.jb A.nx A.wt ra' rest.length rest.length (lenS t.s)) 84) := by subst e4; exact get_put_self gx3
  clear e4
  have g44 := k4.get g4 (by simp; omega)
  have g14 := k4.get g13 (by simp; omega)
  have n4 := k4.1
  clear gx3 g4
  refine Go.runN (g:=?_)
  refine Go.kk 2 rfl ?_
  refine Go.loud (by kernel_rfl) rfl ?_
  (refine Go.runL (g:=?_))
  refine GoL.st (g:=?_)
  (refine Go.runL (g:=?_))
  refine GoL.endN (g:=?_)
  refine Go.name ?_
  intro h5 e5
  have k5 : Keeps [xb] h4 h5 := by subst e5; exact (Keeps.rf _ _).pt (.inl (by simp)) _
  have gx5 : h5.get xb = some (.cells (xC A.st A.rm A.sp A.sb A.jb A.nx A.wt ra' rest.length rest.length (lenS t.s - m.z.length)) 84) := by subst e5; exact get_put_self gx4
  clear e5
  have g45 := k5.get g44 (by simp; omega)
  have g15 := k5.get g14 (by simp; omega)
  have n5 := k5.1
  clear gx4 g44 g14
  (refine Go.run (g:=?_))
  refine Go.name ?_
  intro h6 e6
  have k6 : Keeps [h.n] h5 h6 := by subst e6; exact (Keeps.rf _ _).pt (.inl (by simp)) _
  have g16 : h6.get h.n = some (.cells [.int .u16 (m.sid : Nat), .bool m.un, .int .u32 (m.ppid : Nat), .slice m.a m.z.length m.cap] 39) := by subst e6; exact get_put_self g15
  clear e6
  have gx6 := k6.get gx5 (by simp; omega)
  have k36 : Keeps [xb, h.n] h3 h6 := ⟨by have := k6.1; omega, fun i hi hn => by
   simp only [List.mem_cons, List.not_mem_nil, or_false, not_or] at hn
   rw [k6.2 i (by omega) (by simpa using hn.2), k5.2 i (by omega) (by simpa using hn.1), k4.2 i hi (by simpa using hn.1)]⟩
  have hwh : lenS { t.s with ready := rest } = lenS t.s - m.z.length := by
   unfold lenS lenI
   rw [hr]
   simp only [List.map_cons, List.sum_cons]
   omega
  refine Go.fin (by first|exact .inr rfl|exact .inl rfl) (.cellN rfl inferInstance hg_ (by first | exact Nat.le_refl _ | (simp; omega)) rfl (.tmp rfl .nil)) ?_
  have hmm : m ∈ t.s.ready := by rw [hr]; simp
  have hsb : ∀ q ∈ rest, q ∈ t.s.ready := fun q hq => by rw [hr]; simp [hq]
  have nin : ∀ j, j < h.n → j ≠ xb → j ∉ [xb, h.n] := fun j h1 h2 hm => by
   simp only [List.mem_cons, List.not_mem_nil, or_false] at hm
   omega
  have dat : ∀ {a : Option Addr} {len cap : Nat} {cs : List Value}, Sv h3 5 1 a len cap cs → Sv h6 5 1 a len cap cs := fun d => d.keeps k36 fun i hi hm => by
   simp only [List.mem_cons, List.not_mem_nil, or_false] at hm
   rcases hm with rfl | rfl
   · exact sv_out d k3.X.xc (fun c e => by cases e) hi
   · exact sv_out d g13 (fun c e => by cases e) hi
  refine .inr ⟨m, rest, ra', rest.length, rfl, rfl, ?_, dat (k3.X.dr m hmm), k3.X.mr m hmm, fun i hi => by rw [← hsub]; exact hi⟩
  have l0 := hlt2 xb (by simp)
  refine ⟨⟨by simp only [hwh]; exact gx6, k3.X.nm.keeps k36 (nin _ (hlt2 _ (by simp)) k3.X.xn), k3.X.wm.keeps k36 (nin _ (hlt2 _ (by simp)) k3.X.xw), sb3.keeps k36 (fun j hj => nin j (hlt2 j (by rw [hsub] at hj; simp [hj])) (fun e => xr3 (by rw [← e, ← hsub]; exact hj))), fun q hq => dat (k3.X.dr q (hsb q hq)), fun q hq => dat (k3.X.dw q hq), fun q hq => k3.X.mr q (hsb q hq), k3.X.mw, k3.X.nb, k3.X.ne, ⟨k3.X.ow.1, k3.X.ow.2.1, k3.X.ow.2.2.1, fun j hj => k3.X.ow.2.2.2 j (by rw [← hsub]; exact hj)⟩⟩, k3.G.kept k36 (fun j hj => nin j (hglt j hj) (fun e => k3.gx j hj (by simp [e]))), k3.J.kept k36 (nin _ hjl (fun e => k3.jx.1 (by simp [e]))) (nin _ hmrl (fun e => k3.jx.2 (by simp [e]))) (fun q hq i hi hm => ?_), k3.ne⟩
  simp only [List.mem_cons, List.not_mem_nil, or_false] at hm
  rcases hm with rfl | rfl
  · exact sv_out (k3.J.dv q hq) k3.X.xc (fun c e => by cases e) hi
  · exact sv_out (k3.J.dv q hq) g13 (fun c e => by cases e) hi
end Go.Proofs.Ytccbmmnkiihkaaa
namespace Go.Proofs.Ytccbmmnkiihkaaa
set_option maxRecDepth 100000
attribute [local irreducible] Go GoR GoL
def limitI (A : IA) (t : IT) (p : PV) : Int := if p.t = next32 t.c then (A.rm : Int) else (A.rm : Int) - (A.sp : Int)
inductive AddI (A : IA) (t : IT) (p : PV) : Int → IT → Prop
 | arg (h0 : p.z.length = 0) : AddI A t p 2 t
 | full (h0 : p.z.length ≠ 0) (h1 : ¬ hasN t.c t.ks p.t = true) (h2 : ¬ 65535 < spanN t.c p.t) (h3 : limitI A t p < (t.held : Int) + p.z.length) : AddI A t p 7 t
 | told {code c' : Nat} {ks' ds' : List Nat} {da' : Option Addr} {dc' : Nat} (h0 : p.z.length ≠ 0) (ha : addN t.c t.ks t.ds p.t = (code, c', ks', ds')) (hc : code ≠ 0) : AddI A t p 4 { t with c := c', ks := ks', ds := ds', da := da', dc := dc' }
 | stream {c' : Nat} {ks' ds' : List Nat} {da' : Option Addr} {dc' : Nat} (h0 : p.z.length ≠ 0) (ha : addN t.c t.ks t.ds p.t = (0, c', ks', ds')) (h3 : (t.held : Int) + p.z.length ≤ limitI A t p) (hs : A.st ≤ p.sid) : AddI A t p 100 { t with c := c', ks := ks', ds := ds', da := da', dc := dc' }
 | part {c' : Nat} {ks' ds' : List Nat} {da' : Option Addr} {dc' : Nat} {pa : Option Addr} {pc : Nat} (h0 : p.z.length ≠ 0) (ha : addN t.c t.ks t.ds p.t = (0, c', ks', ds')) (h3 : (t.held : Int) + p.z.length ≤ limitI A t p) (hs : p.sid < A.st) (hp : (putN t.kept { p with a := pa, cap := pc }).2 = none) : AddI A t p 0 { t with c := c', ks := ks', ds := ds', da := da', dc := dc', kept := (putN t.kept { p with a := pa, cap := pc }).1 }
 | whole {c' : Nat} {ks' ds' : List Nat} {da' : Option Addr} {dc' : Nat} {pa : Option Addr} {pc : Nat} {m : IM} {ra' : Option Addr} {rc' : Nat} {s' : IS} (h0 : p.z.length ≠ 0) (ha : addN t.c t.ks t.ds p.t = (0, c', ks', ds')) (h3 : (t.held : Int) + p.z.length ≤ limitI A t p) (hs : p.sid < A.st) (hp : (putN t.kept { p with a := pa, cap := pc }).2 = some (m.sid, m.un, m.ppid, m.z)) (hm : msgN t.s m p.ssn = some s' ∨ msgN t.s m p.ssn = none ∧ s' = t.s) : AddI A t p 0 { t with c := c', ks := ks', ds := ds', da := da', dc := dc', kept := (putN t.kept { p with a := pa, cap := pc }).1, ra := ra', rc := rc', s := s' }
set_option maxHeartbeats 64000000 in
theorem iadd_specO (xb : Nat) (A : IA) (r mr : Nat) (t : IT) (n0 : Nat) (p : PV) (pb : PB p) (h : AHeap) (hn0 : n0 ≤ h.n) (k : IOk h xb A r mr t n0) (hrm : A.rm ≤ 1048576) (hsp : A.sp ≤ 1048576) (hst : A.st < 65536) (hl : t.s.ready.length + t.s.waits.length ≤ 900000) (hkl : t.kept.length ≤ 1000000) (hds : t.ds.length ≤ 16) (hb : t.held + p.z.length ≤ 900000000) (hpo : ∀ i ∈ blk p.a, i < n0) (hz : Rv Try.prog h 1 p.a p.z.length p.cap (p.z.map bv)) : CallS Try.prog ([xb, A.nx, A.wt] ++ blk t.ra ++ ([A.sb, r] ++ blk t.da) ++ [A.jb, mr]) 10 [.pointer (some ⟨xb, 0, none⟩), pV p] h fun v h' => ∃ code t', v = .int .i64 code ∧ AddI A t p code t' ∧ IOk h' xb A r mr t' n0 ∧ (∀ i ∈ blk t'.ra, i ∈ blk t.ra ∨ h.n ≤ i) ∧ ∀ i ∈ blk t'.da, i ∈ blk t.da ∨ h.n ≤ i := by
 have gx := k.X.xc
 have hlt := AHeap.lt gx
 obtain ⟨b1, b2, b3, b4, b5⟩ := pb
 (refine CallS.of2 Try.func10 rfl Try.ntmps10 Try.results10 rfl ?_)
 simp only [pV, pC]
 by_cases h0 : p.z.length = 0
 ·
  (refine Go.run (g:=?_))
  refine GoR.eqRef rfl rfl rfl rfl (.inl rfl) rfl rfl (aEq_ptrNil9 inboxU _) ?_
  (refine Go.run (g:=?_))
  refine Go.name ?_
  intro h1 e1
  have s1 : Same h h1 := by subst e1; exact (Same.refl h).push _
  clear e1
  (first|refine Go.finA rfl ?_|refine Go.finB rfl (hq:=?_))
  exact ⟨2, t, rfl, .arg h0, k.same s1, fun i hi => .inl hi, fun i hi => .inl hi⟩
 have gG := k.G.sc
 (refine Go.run (g:=?_))
 refine GoR.eqRef rfl rfl rfl rfl (.inl rfl) rfl rfl (aEq_ptrNil9 inboxU _) ?_
 (refine Go.run (g:=?_))
 refine GoR.name ?_
 intro h1 e1
 have s1 : Same h h1 := by subst e1; exact (Same.refl h).push _
 have g3 : h1.get h.n = some (.cells [.int .u32 (p.t : Nat), .int .u8 (p.fl : Nat), .int .u16 (p.sid : Nat), .int .u16 (p.ssn : Nat), .int .u32 (p.ppid : Nat), .slice p.a p.z.length p.cap] 33) := by subst e1; exact AHeap.get_push_same _ _
 have n1 : h1.n = h.n + 1 := by subst e1; rfl
 clear e1
 have k1 := k.same s1
 have gx1 := k1.X.xc
 have hz1 := hz.same s1
 have kb := k.G.cb
 have xlt := k.X.lts
 have glt := k.G.lts
 have jl1 := AHeap.lt k.J.jc
 have jl2 := k.J.mp.lt
 clear gx k gG hz s1
 refine GoR.call rfl rfl rfl rfl rfl rfl rfl (((gnext_spec A.sb r t.c t.ks t.da t.dc t.ds n0 p.t b1 _ k1.G).argA).mono ?_)
 rintro _ h2 ⟨rfl, rfl⟩ -
 (refine Go.run (g:=?_))
 have hL1 : -1048576 ≤ limitI A t p ∧ limitI A t p ≤ 1048576 := by unfold limitI; split <;> omega
 refine Go.join1 (α := Unit) (fun _ => [(5, .int .i64 (limitI A t p)), (3, .pointer (some ⟨h.n, 0, none⟩)), (0, .pointer (some ⟨xb, 0, none⟩))]) (fun _ => []) (fun _ => h2) (fun _ => True) ?_ ?_
 ·
  by_cases hnx : p.t = next32 t.c
  ·
   rw [decide_eq_true hnx, show limitI A t p = (A.rm : Int) from if_pos hnx]
   (refine Go.run (g:=?_))
   exact Go.joined () trivial ⟨rfl, rfl, rfl, trivial⟩ rfl rfl
  ·
   rw [decide_eq_false hnx, show limitI A t p = (A.rm : Int) - (A.sp : Int) from if_neg hnx]
   (refine Go.run (g:=?_))
   exact Go.joined () trivial ⟨rfl, rfl, rfl, trivial⟩ rfl rfl
 rintro - -
 refine Go.runN (g:=?_)
 obtain ⟨pr, hpr⟩ : ∃ pr, pr = (hasN t.c t.ks p.t || decide (65535 < spanN t.c p.t)) := ⟨_, rfl⟩
 refine Go.join1 (α := AHeap) (fun _ => [(6, .bool pr), (5, .int .i64 (limitI A t p)), (3, .pointer (some ⟨h.n, 0, none⟩)), (0, .pointer (some ⟨xb, 0, none⟩))]) (fun _ => []) (fun x => x) (fun x => Same h2 x) ?_ ?_
 ·
  generalize limitI A t p = L at *
  (refine Go.run (g:=?_))
  refine GoR.call rfl rfl rfl rfl rfl rfl rfl (((has_spec A.sb r t.c t.ks t.da t.dc t.ds n0 p.t b1 _ k1.G).argA).mono ?_)
  rintro _ h3 rfl s3
  cases hH : hasN t.c t.ks p.t with
  | true =>
   rw [hH, Bool.true_or] at hpr
   subst hpr
   (refine Go.run (g:=?_))
   exact Go.joined h3 s3 ⟨rfl, rfl, rfl, rfl, trivial⟩ rfl rfl
  | false =>
   rw [hH, Bool.false_or] at hpr
   have k3 := k1.same s3
   have gx3 := k3.X.xc
   have g33 := s3.get g3
   (refine Go.run (g:=?_))
   refine GoR.call rfl rfl rfl rfl rfl rfl rfl (((cum_spec A.sb r t.c t.ks t.da t.dc t.ds n0 _ k3.G).argA).mono ?_)
   rintro _ h4 ⟨rfl, rfl⟩ -
   (refine Go.run (g:=?_))
   refine GoR.call rfl rfl rfl rfl rfl rfl rfl (((span_spec t.c p.t kb b1 _).argA).mono ?_)
   rintro _ h5 ⟨rfl, rfl⟩ -
   by_cases hsp : 65535 < spanN t.c p.t
   ·
    rw [decide_eq_true hsp] at hpr
    subst hpr
    (refine Go.run (g:=?_))
    rw [decide_eq_true (show (65535 : Int) < ((spanN t.c p.t : Nat) : Int) by omega)]
    exact Go.joined h5 s3 ⟨rfl, rfl, rfl, rfl, trivial⟩ rfl rfl
   ·
    rw [decide_eq_false hsp] at hpr
    subst hpr
    (refine Go.run (g:=?_))
    rw [decide_eq_false (show ¬ (65535 : Int) < ((spanN t.c p.t : Nat) : Int) by omega)]
    exact Go.joined h5 s3 ⟨rfl, rfl, rfl, rfl, trivial⟩ rfl rfl
 intro h3 s3
 have k3 := k1.same s3
 have gx3 := k3.X.xc
 have g33 := s3.get g3
 have hz3 := hz1.same s3
 have n3 := s3.1
 clear k1 gx1 g3 hz1 s3
 refine Go.runN (g:=?_)
 refine Go.join2 (α := Unit) (fun _ => [(3, .pointer (some ⟨h.n, 0, none⟩)), (0, .pointer (some ⟨xb, 0, none⟩))]) (fun _ => []) (fun _ => h3) (fun _ => pr = true ∨ (t.held : Int) + p.z.length ≤ limitI A t p) ?_ ?_
 ·
  cases hp1 : pr with
  | true =>
   (refine Go.run (g:=?_))
   exact Go.joined () (.inl rfl) ⟨rfl, rfl, trivial⟩ rfl rfl
  | false =>
   have hih := iheld_spec xb A r mr t n0 h3 k3 (by omega)
   have hno : hasN t.c t.ks p.t = false ∧ ¬ 65535 < spanN t.c p.t := by
    rw [hp1] at hpr
    have := hpr.symm
    rw [Bool.or_eq_false_iff] at this
    exact ⟨this.1, of_decide_eq_false this.2⟩
   (refine Go.run (g:=?_))
   refine GoR.call rfl rfl rfl rfl rfl rfl rfl (((hih).argA).mono ?_)
   rintro _ h4 ⟨rfl, rfl⟩ -
   rcases Int.lt_or_le (limitI A t p) ((t.held : Int) + p.z.length) with hf | hf
   ·
    (refine Go.run (g:=?_))
    (first|refine Go.finA rfl ?_|refine Go.finB rfl (hq:=?_))
    exact ⟨7, t, rfl, .full h0 (by rw [hno.1]; decide) hno.2 hf, k3, fun i hi => .inl hi, fun i hi => .inl hi⟩
   ·
    (refine Go.run (g:=?_))
    exact Go.joined () (.inr hf) ⟨rfl, rfl, trivial⟩ rfl rfl
 rintro - hacc
 obtain ⟨code, c', ks', ds', hA⟩ : ∃ code c' ks' ds', addN t.c t.ks t.ds p.t = (code, c', ks', ds') := ⟨_, _, _, _, rfl⟩
 refine Go.runN (g:=?_)
 refine Go.kk 2 rfl ?_
 refine Go.loud (by kernel_rfl) rfl ?_
 (refine Go.runL (g:=?_))
 refine GoL.call rfl rfl rfl rfl rfl rfl rfl (((add_specE A.sb r t.c t.ks t.da t.dc t.ds n0 p.t b1 hds _ (by omega) k3.G hA).argA).mono ?_)
 rintro _ h4 ⟨rfl, da4, dc4, G4, bb4⟩ k4
 refine ⟨fun j hj => .inl (by simp only [List.mem_append]; exact .inl (.inr (List.mem_append.1 hj))), ?_⟩
 have n4 := k4.1
 have bb4 : ∀ i ∈ blk da4, i ∈ blk t.da ∨ h.n ≤ i := fun i hi => (bb4 i hi).imp id fun q => by omega
 have kA := k3.setG k4 G4
 have g34 := k4.get g33 (fun q => by have := glt _ q; omega)
 have hz4 := hz3.keeps k4 (fun i hi q => by have := k3.G.owns i q; have := hpo i hi; omega)
 have hdis : ∀ b ∈ [A.sb, r] ++ blk t.da, b ≠ h.n ∧ b ≠ xb := fun b hb => by
  have := glt b hb
  exact ⟨by omega, fun e => k3.gx b hb (by simp [e])⟩
 have hdis2 := hdis
 (refine Go.runL (g:=?_))
 refine GoL.endC (g:=?_)
 clear hdis hdis2 k4 G4 hz3 g33 gx3 k3
 have gxA := kA.X.xc
 have plim := hacc
 by_cases hcode : code = 0
 case neg =>
  (refine Go.run (g:=?_))
  (first|refine Go.finA rfl ?_|refine Go.finB rfl (hq:=?_))
  exact ⟨4, _, rfl, .told h0 hA hcode, kA, fun i hi => .inl hi, bb4⟩
 subst hcode
 have hprf : pr = false := by
  rw [hpr]
  cases hH : hasN t.c t.ks p.t with
  | true => rw [addN_has t.ds hH] at hA; cases hA
  | false =>
   rw [Bool.false_or]
   refine decide_eq_false fun q => ?_
   rw [addN_far t.ds (by rw [hH]; decide) q] at hA
   cases hA
 have hlim : (t.held : Int) + p.z.length ≤ limitI A t p := by
  rcases hacc with q | q
  · rw [hprf] at q; cases q
  · exact q
 clear hacc plim hpr hprf hL1
 rcases Nat.lt_or_ge p.sid A.st with hsd | hsd
 case inr =>
  (refine Go.run (g:=?_))
  (first|refine Go.finA rfl ?_|refine Go.finB rfl (hq:=?_))
  exact ⟨100, _, rfl, .stream h0 hA hlim hsd, kA, fun i hi => .inl hi, bb4⟩
 have hheld : heldN t.kept + p.z.length ≤ 1000000000 := by unfold IT.held at hb; omega
 refine Go.runN (g:=?_)
 refine Go.kk 2 rfl ?_
 refine Go.drawnQ rfl (by kernel_rfl) rfl ?_
 refine Go.runN (g:=?_)
 refine Go.kk 2 rfl ?_
 refine Go.loud (by kernel_rfl) rfl ?_
 (refine Go.runL (g:=?_))
 refine GoL.call rfl rfl rfl rfl rfl rfl rfl (((put_spec A.jb mr t.kept n0 p ⟨b1, b2, b3, b4, b5⟩ hkl hheld _ (by omega) kA.J hz4).argA).mono ?_)
 rintro v5 h5 ⟨pa, pc, J5, V5⟩ k5
 refine ⟨fun j hj => .inl (List.mem_append_right _ hj), ?_⟩
 have n5 := k5.1
 have kB := kA.setJ k5 J5
 have hjd : ∀ b ∈ [A.jb, mr], b < h.n := fun b hb => by
  simp only [List.mem_cons, List.not_mem_nil, or_false] at hb
  rcases hb with rfl | rfl <;> omega
 have g35 := k5.get g34 (fun q => by have := hjd _ q; omega)
 have hdis : ∀ b ∈ [A.jb, mr], b ≠ h.n ∧ b ≠ xb ∧ b < h4.n := fun b hb => by
  have := hjd b hb
  refine ⟨by omega, fun e => ?_, by omega⟩
  simp only [List.mem_cons, List.not_mem_nil, or_false] at hb
  rcases hb with rfl | rfl
  · exact kA.jx.1 (by simp [e])
  · exact kA.jx.2 (by simp [e])
 have hdis2 := hdis
 cases hput : (putN t.kept { p with a := pa, cap := pc }).2 with
 | none =>
  rw [hput] at V5
  obtain rfl : v5 = _ := V5
  (refine Go.runL (g:=?_))
  refine GoL.st (g:=?_)
  (refine Go.runL (g:=?_))
  refine GoL.endC (g:=?_)
  clear hdis hdis2
  refine Go.name ?_
  intro h6 e6
  have s6 : Same h5 h6 := by subst e6; exact ((Same.refl h5).push _).put (Nat.le_refl _) _
  clear e6
  (refine Go.run (g:=?_))
  (first|refine Go.finA rfl ?_|refine Go.finB rfl (hq:=?_))
  exact ⟨0, _, rfl, .part h0 hA hlim hsd hput, kB.same s6, fun i hi => .inl hi, bb4⟩
 | some ms =>
  obtain ⟨sid, un, ppid, D⟩ := ms
  rw [hput] at V5
  obtain ⟨ma, mc, rfl, sm5, om5⟩ := V5
  (refine Go.runL (g:=?_))
  refine GoL.st (g:=?_)
  (refine Go.runL (g:=?_))
  refine GoL.endC (g:=?_)
  clear hdis hdis2
  refine Go.name ?_
  intro h6 e6
  have s6 : Same h5 h6 := by subst e6; exact ((Same.refl h5).push _).put (Nat.le_refl _) _
  have g76 : h6.get h5.n = some (.cells [.int .u16 (sid : Nat), .bool un, .int .u32 (ppid : Nat), .slice ma D.length mc] 39) := by subst e6; exact hg_
  have n6 : h6.n = h5.n + 1 := by subst e6; rfl
  clear e6
  have kC := kB.same s6
  have sm6 := sm5.same s6
  obtain ⟨bs, bp⟩ := putN_bound kA.J.pb (show PB { p with a := pa, cap := pc } from ⟨b1, b2, b3, b4, b5⟩) hput
  have hph := putN_held t.kept { p with a := pa, cap := pc }
  rw [hput] at hph
  have hDl : lenS t.s + D.length ≤ 1000000000 := by
   have : heldN (putN t.kept { p with a := pa, cap := pc }).1 + D.length ≤ heldN t.kept + p.z.length := hph
   unfold IT.held at hb
   omega
  clear kA kB hph k5 J5 gxA s6 sm5
  (refine Go.run (g:=?_))
  refine GoR.callW rfl rfl rfl rfl rfl rfl rfl (((message_spec xb A t.ra t.rc (lenS t.s) t.s n0 ⟨sid, un, ppid, ma, mc, D⟩ p.ssn b4 hl hDl _ (by omega) kC.X ⟨bs, bp⟩ sm6).argA).mono ?_)
  rintro _ h7 ⟨ra7, rc7, X7, o7⟩ k7
  refine ⟨fun i hi => .inl (List.mem_append_left _ (List.mem_append_left _ hi)), ?_⟩
  cases hmsg : msgN t.s ⟨sid, un, ppid, ma, mc, D⟩ p.ssn with
  | none =>
   rw [hmsg] at X7
   have kD := kC.setX k7 X7
   (refine Go.run (g:=?_))
   (first|refine Go.finA rfl ?_|refine Go.finB rfl (hq:=?_))
   exact ⟨0, _, rfl, .whole (m := ⟨sid, un, ppid, ma, mc, D⟩) h0 hA hlim hsd hput (.inr ⟨hmsg, rfl⟩), kD, fun i hi => (o7 i hi).imp id fun q => by omega, bb4⟩
  | some s' =>
   rw [hmsg] at X7
   have hml := msg_len hmsg
   have X7 : IX h7 xb A ra7 rc7 (lenS t.s + D.length) s' n0 := X7
   rw [show lenS t.s + D.length = lenS s' from hml.symm] at X7
   have kD := kC.setX k7 X7
   (refine Go.run (g:=?_))
   (first|refine Go.finA rfl ?_|refine Go.finB rfl (hq:=?_))
   exact ⟨0, _, rfl, .whole (m := ⟨sid, un, ppid, ma, mc, D⟩) h0 hA hlim hsd hput (.inl hmsg), kD, fun i hi => (o7 i hi).imp id fun q => by omega, bb4⟩
end Go.Proofs.Ytccbmmnkiihkaaa
namespace Go.Proofs.Ytccbmmnkiihkaaa
set_option maxRecDepth 100000
attribute [local irreducible] Go GoR GoL
theorem settle_far (n : Nat) : ∀ (c : Nat) (ks : List Nat), c < 4294967296 → ∃ k, k ≤ n ∧ (settleN n c ks).1 = (c + k) % 4294967296 := by
 induction n with
 | zero => intro c ks hc; exact ⟨0, Nat.le_refl _, by rw [Nat.add_zero, Nat.mod_eq_of_lt hc]; rfl⟩
 | succ n ih =>
  intro c ks hc
  by_cases h : next32 c ∈ ks
  ·
   obtain ⟨k, hk, e⟩ := ih (next32 c) (ks.erase (next32 c)) (next32_lt c)
   refine ⟨k + 1, by omega, ?_⟩
   rw [settleN_yes h, e]
   unfold next32
   omega
  ·
   rw [settleN_no h]
   exact ⟨0, Nat.zero_le _, by rw [Nat.add_zero, Nat.mod_eq_of_lt hc]⟩
theorem addN_far2 {c t : Nat} {ks ds : List Nat} (hc : c < 4294967296) : ∃ k, k ≤ ks.length + 1 ∧ (addN c ks ds t).2.1 = (c + k) % 4294967296 := by
 by_cases h : hasN c ks t = true
 · rw [addN_has ds h]; exact ⟨0, Nat.zero_le _, by rw [Nat.add_zero, Nat.mod_eq_of_lt hc]⟩
 ·
  by_cases h2 : 65535 < spanN c t
  · rw [addN_far ds h h2]; exact ⟨0, Nat.zero_le _, by rw [Nat.add_zero, Nat.mod_eq_of_lt hc]⟩
  ·
   obtain ⟨X, hX⟩ : ∃ X, settleN (ks.length + 1) c (ks ++ [t]) = X := ⟨_, rfl⟩
   have := settle_far (ks.length + 1) c (ks ++ [t]) hc
   rw [hX] at this
   rw [addN_new ds h h2 hX]
   exact this
theorem drain_cnt : ∀ (n sid t : Nat) (w : WL) (rd : List IM), (drainN n sid t w rd).2.1.length + (drainN n sid t w rd).2.2.length = w.length + rd.length
 | 0, sid, t, w, rd => rfl
 | n + 1, sid, t, w, rd => by
  cases h : gl w (sid, t) with
  | none => rw [drainN_none h]
  | some m =>
   rw [drainN_some h]
   have h1 := drain_cnt n sid (nx16 t) (gdel w (sid, t)) (rd ++ [m])
   have h2 := gdel_len h
   rw [List.length_append] at h1
   simp only [List.length_cons, List.length_nil] at h1
   omega
theorem msg_cnt {s s' : IS} {m : IM} {ssn : Nat} (h : msgN s m ssn = some s') : s'.ready.length + s'.waits.length = s.ready.length + s.waits.length + 1 := by
 unfold msgN at h
 split at h
 · cases h; simp only [List.length_append, List.length_cons, List.length_nil]; omega
 ·
  split at h
  ·
   cases h
   have := drain_cnt (s.waits.length + 1) m.sid (nx16 ssn) s.waits (s.ready ++ [m])
   rw [List.length_append] at this
   simp only [List.length_cons, List.length_nil] at this ⊢
   omega
  ·
   split at h
   · cases h; simp only [List.length_append, List.length_cons, List.length_nil]; omega
   · cases h
structure AddO (A : IA) (t t' : IT) : Prop where
 held : t.held ≤ A.rm → t'.held ≤ A.rm
 cum : ∃ k, k ≤ t.ks.length + 1 ∧ t'.c = (t.c + k) % 4294967296
 ks : t'.ks.length ≤ t.ks.length + 1
 ds : t'.ds.length ≤ 16
 kept : t'.kept.length ≤ t.kept.length + 1
 cnt : t'.s.ready.length + t'.s.waits.length ≤ t.s.ready.length + t.s.waits.length + 1
theorem addI_ok {A : IA} {t t' : IT} {p : PV} {code : Int} (hc : t.c < 4294967296) (hd : t.ds.length ≤ 16) (h : AddI A t p code t') : AddO A t t' ∧ (code = 7 → t' = t) := by
 have c0 : ∃ k, k ≤ t.ks.length + 1 ∧ t.c = (t.c + k) % 4294967296 := ⟨0, Nat.zero_le _, by rw [Nat.add_zero, Nat.mod_eq_of_lt hc]⟩
 have hlim : ∀ p, limitI A t p ≤ A.rm := fun p => by unfold limitI; split <;> omega
 have f1 := @addN_far2 t.c p.t t.ks t.ds hc
 have f2 := addN_len t.c t.ks t.ds p.t
 have f3 := addN_ds t.c t.ks t.ds p.t hd
 cases h with
 | arg h0 => exact ⟨⟨id, c0, Nat.le_succ _, hd, Nat.le_succ _, Nat.le_succ _⟩, fun e => by cases e⟩
 | full h0 h1 h2 h3 => exact ⟨⟨id, c0, Nat.le_succ _, hd, Nat.le_succ _, Nat.le_succ _⟩, fun _ => rfl⟩
 | told h0 ha hcc => rw [ha] at f1 f2 f3; exact ⟨⟨id, f1, f2, f3, Nat.le_succ _, Nat.le_succ _⟩, fun e => by cases e⟩
 | stream h0 ha h3 hs => rw [ha] at f1 f2 f3; exact ⟨⟨id, f1, f2, f3, Nat.le_succ _, Nat.le_succ _⟩, fun e => by cases e⟩
 | @part c' ks' ds' da' dc' pa pc h0 ha h3 hs hp =>
  rw [ha] at f1 f2 f3
  have g1 := putN_held t.kept { p with a := pa, cap := pc }
  have g2 := putN_len t.kept { p with a := pa, cap := pc }
  rw [hp] at g1
  have g1 : heldN (putN t.kept { p with a := pa, cap := pc }).1 + 0 ≤ heldN t.kept + p.z.length := g1
  have hl := hlim p
  refine ⟨⟨fun _ => ?_, f1, f2, f3, g2, Nat.le_succ _⟩, fun e => by cases e⟩
  unfold IT.held at h3 ⊢
  simp only
  omega
 | @whole c' ks' ds' da' dc' pa pc m ra' rc' s' h0 ha h3 hs hp hm =>
  rw [ha] at f1 f2 f3
  have g1 := putN_held t.kept { p with a := pa, cap := pc }
  have g2 := putN_len t.kept { p with a := pa, cap := pc }
  rw [hp] at g1
  have g1 : heldN (putN t.kept { p with a := pa, cap := pc }).1 + m.z.length ≤ heldN t.kept + p.z.length := g1
  have hl := hlim p
  have hls : lenS s' ≤ lenS t.s + m.z.length ∧ s'.ready.length + s'.waits.length ≤ t.s.ready.length + t.s.waits.length + 1 := by
   rcases hm with e | ⟨-, e⟩
   · exact ⟨Nat.le_of_eq (msg_len e), Nat.le_of_eq (msg_cnt e)⟩
   · subst e; exact ⟨Nat.le_add_right _ _, Nat.le_succ _⟩
  refine ⟨⟨fun _ => ?_, f1, f2, f3, g2, hls.2⟩, fun e => by cases e⟩
  unfold IT.held at h3 ⊢
  simp only
  omega
end Go.Proofs.Ytccbmmnkiihkaaa
namespace Go.Proofs.Ytccbmmnkiihkaaa
set_option maxRecDepth 100000
attribute [local irreducible] Go GoR GoL
def pcs (l : List PV) : List Value := (l.map pC).flatten
theorem pcs_len (l : List PV) : (pcs l).length = l.length * 6 := by
 induction l with
 | nil => rfl
 | cons x l ih => simp only [pcs, List.map_cons, List.flatten_cons, List.length_append, List.length_cons, List.length_nil, pC] at ih ⊢; omega
theorem pcs_get : ∀ {l : List PV} {i : Nat} (hi : i < l.length), ((pcs l).drop (i * 6)).take 6 = pC l[i]
 | x :: l, 0, _ => rfl
 | x :: l, i + 1, hi => by
  have := pcs_get (l := l) (i := i) (by simpa using hi)
  rw [show (i + 1) * 6 = i * 6 + 1 + 1 + 1 + 1 + 1 + 1 by omega]
  exact this
theorem pcs_at {l : List PV} {i : Nat} (hi : i < l.length) {j : Nat} (hj : j < 6) : (pcs l)[i * 6 + j]? = (pC l[i])[j]? := by
 rw [← pcs_get hi, List.getElem?_take, if_pos hj, List.getElem?_drop]
theorem pcs_snoc (l : List PV) (p : PV) : pcs (l ++ [p]) = pcs l ++ pC p := by simp [pcs]
end Go.Proofs.Ytccbmmnkiihkaaa
namespace Go.Proofs.Ytccbmmnkiihkaaa
set_option maxRecDepth 100000
attribute [local irreducible] Go GoR GoL
theorem add32at (f k : Nat) (hf : f < 4294967296) (hk : k < 4294967296) : iBin .add .u32 (f : Int) (k : Int) = some (.int .u32 ((at32 f k : Nat) : Int)) := by
 have e : ((at32 f k : Nat) : Int) = ((f : Int) + (k : Int)) % 4294967296 := by unfold at32; omega
 simp [iBin, IntKind.wrap, IntKind.bits, IntKind.signed, e]
end Go.Proofs.Ytccbmmnkiihkaaa
namespace Go.Proofs.Ytccbmmnkiihkaaa
set_option maxRecDepth 100000
attribute [local irreducible] Go GoR GoL
end Go.Proofs.Ytccbmmnkiihkaaa
namespace Go.Proofs.Ytccbmmnkiihkaaa
set_option maxRecDepth 100000
attribute [local irreducible] Go GoR GoL
end Go.Proofs.Ytccbmmnkiihkaaa
namespace Go.Proofs.Ytccbmmnkiihkaaa
set_option maxRecDepth 100000
attribute [local irreducible] Go GoR GoL
theorem sub32at (f k : Nat) (hf : f < 4294967296) (hk : k < 4294967296) : iBin .sub .u32 (f : Int) (k : Int) = some (.int .u32 ((sub32n f k : Nat) : Int)) := by
 have e : ((sub32n f k : Nat) : Int) = ((f : Int) - (k : Int)) % 4294967296 := by unfold sub32n; omega
 simp [iBin, IntKind.wrap, IntKind.bits, IntKind.signed, e]
structure RJ (h : AHeap) (jb : Nat) (l : List PV) (a : Option Addr) (cap n0 : Nat) : Prop where
 jc : h.get jb = some (.cells [.slice a l.length cap] 86)
 lv : Sv h 33 6 a l.length cap (pcs l)
 dv : ∀ q ∈ l, Rv Try.prog h 1 q.a q.z.length q.cap (q.z.map bv)
 db : ∀ q ∈ l, ∀ i ∈ blk q.a, i < n0
 pb : ∀ q ∈ l, PB q
 ow : n0 ≤ jb ∧ Own n0 a
theorem RJ.same {h h' : AHeap} {jb : Nat} {l : List PV} {a : Option Addr} {cap n0 : Nat} (k : RJ h jb l a cap n0) (s : Same h h') : RJ h' jb l a cap n0 := { k with jc := s.get k.jc, lv := k.lv.same s, dv := fun q hq => (k.dv q hq).same s }
theorem RJ.kept {h h' : AHeap} {jb : Nat} {l : List PV} {a : Option Addr} {cap n0 : Nat} {wr : List Nat} (k : RJ h jb l a cap n0) (kk : Keeps wr h h') (hj : jb ∉ wr) (ha : ∀ i ∈ blk a, i ∉ wr) (hd : ∀ i ∈ wr, n0 ≤ i) : RJ h' jb l a cap n0 := { k with jc := kk.get k.jc hj, lv := k.lv.keeps kk ha, dv := fun q hq => (k.dv q hq).keeps kk (fun i hi hw => by have := k.db q hq i hi; have := hd i hw; omega) }
theorem RJ.out {h : AHeap} {jb : Nat} {l : List PV} {a : Option Addr} {cap n0 : Nat} (k : RJ h jb l a cap n0) : jb ∉ blk a := sv_out k.lv k.jc (fun c e => by cases e)
end Go.Proofs.Ytccbmmnkiihkaaa
namespace Go.Proofs.Ytccbmmnkiihkaaa
open Go.Sort
def sh (b k : Nat) : Nat := (k + b) % 4294967296
theorem sh_lt (b k : Nat) : sh b k < 4294967296 := Nat.mod_lt _ (by decide)
theorem span_sh {b c t : Nat} (hc : c < 4294967296) (ht : t < 4294967296) : spanN (sh b c) (sh b t) = spanN c t := by unfold spanN sh; omega
theorem perm_through {f g s : Nat → Nat} {ws ks : List Nat} (p : ws.Perm (ks.map f)) (h : ∀ k ∈ ks, f k = g (s k)) : ws.Perm ((ks.map s).map g) := by
 rw [List.map_map]
 exact p.trans (.of_eq (List.map_congr_left fun k hk => h k hk))
theorem Alike.sh {b c : Nat} {ks ws : List Nat} (r : Alike c ks ws) : Alike (sh b c) (ks.map (sh b)) ws := by
 refine ⟨perm_through r.pm fun k hk => (span_sh r.cb (r.kb k hk)).symm, r.so, r.po, r.lt, fun k hk => ?_, sh_lt _ _⟩
 obtain ⟨x, -, rfl⟩ := List.mem_map.1 hk
 exact sh_lt _ _
end Go.Proofs.Ytccbmmnkiihkaaa
namespace Go.Proofs.Ytccbmmnkiihkaaa
set_option maxRecDepth 100000
end Go.Proofs.Ytccbmmnkiihkaaa
namespace Go.Proofs.Ytccbmmnkiihkaaa
set_option maxRecDepth 100000
attribute [local irreducible] Go GoR GoL
def wC (p : (Nat × Nat) × IM) : List Value := iC p.2 ++ [.int .u16 (p.1.2 : Nat)]
def vws (l : WL) : List Value := (l.map wC).flatten
theorem ics_get : ∀ {l : List IM} {i : Nat} (hi : i < l.length), ((ics l).drop (i * 4)).take 4 = iC l[i]
 | x :: l, 0, _ => rfl
 | x :: l, i + 1, hi => by
  have := ics_get (l := l) (i := i) (by simpa using hi)
  rw [show (i + 1) * 4 = i * 4 + 1 + 1 + 1 + 1 by omega]
  exact this
structure RA where
 st : Nat
 rm : Nat
 sp : Nat
 sb : Nat
 jb : Nat
structure RXc (c : List Value) (A : RA) (nx : Nat → Nat) (va : Option Addr) (vl vc : Nat) (ra : Option Addr) (rl rc : Nat) : Prop where
 l : c.length = 65543
 c0 : c[0]? = some (.int .u16 A.st)
 c1 : c[1]? = some (.int .i64 A.rm)
 c2 : c[2]? = some (.int .i64 A.sp)
 c3 : c[3]? = some (.pointer (some ⟨A.sb, 0, none⟩))
 c4 : c[4]? = some (.pointer (some ⟨A.jb, 0, none⟩))
 cn : ∀ k, k < 65536 → c[5 + k]? = some (.int .u16 (nx k : Nat))
 c6 : c[65541]? = some (.slice va vl vc)
 c7 : c[65542]? = some (.slice ra rl rc)
 nb : ∀ k, nx k < 65536
section
variable {c : List Value} {A : RA} {nx : Nat → Nat} {va ra : Option Addr} {vl vc rl rc : Nat}
theorem RXc.set6 (k : RXc c A nx va vl vc ra rl rc) (va' : Option Addr) (vl' vc' : Nat) : RXc (setL c 65541 [.slice va' vl' vc']) A nx va' vl' vc' ra rl rc := by
 have hl := k.l
 have hg := fun i => setL_get (c := c) (vs := [.slice va' vl' vc']) (o := 65541) (by simp only [List.length_cons, List.length_nil]; omega) i
 simp only [List.length_cons, List.length_nil, Nat.zero_add] at hg
 refine ⟨?_, ?_, ?_, ?_, ?_, ?_, fun j hj => ?_, ?_, ?_, k.nb⟩
 · rw [setL_length (by simp only [List.length_cons, List.length_nil]; omega)]; exact hl
 · rw [hg, if_neg (by omega)]; exact k.c0
 · rw [hg, if_neg (by omega)]; exact k.c1
 · rw [hg, if_neg (by omega)]; exact k.c2
 · rw [hg, if_neg (by omega)]; exact k.c3
 · rw [hg, if_neg (by omega)]; exact k.c4
 · rw [hg, if_neg (by omega)]; exact k.cn j hj
 · rw [hg, if_pos (by omega)]; rfl
 · rw [hg, if_neg (by omega)]; exact k.c7
def upd1 (nx : Nat → Nat) (s v : Nat) (k : Nat) : Nat := if k = s then v else nx k
theorem RXc.setn (k : RXc c A nx va vl vc ra rl rc) {s v : Nat} (hs : s < 65536) (hv : v < 65536) : RXc (setL c (5 + s) [.int .u16 (v : Nat)]) A (upd1 nx s v) va vl vc ra rl rc := by
 have hl := k.l
 have hg := fun i => setL_get (c := c) (vs := [.int .u16 (v : Nat)]) (o := 5 + s) (by simp only [List.length_cons, List.length_nil]; omega) i
 simp only [List.length_cons, List.length_nil, Nat.zero_add] at hg
 refine ⟨?_, ?_, ?_, ?_, ?_, ?_, fun j hj => ?_, ?_, ?_, fun j => ?_⟩
 · rw [setL_length (by simp only [List.length_cons, List.length_nil]; omega)]; exact hl
 · rw [hg, if_neg (by omega)]; exact k.c0
 · rw [hg, if_neg (by omega)]; exact k.c1
 · rw [hg, if_neg (by omega)]; exact k.c2
 · rw [hg, if_neg (by omega)]; exact k.c3
 · rw [hg, if_neg (by omega)]; exact k.c4
 ·
  rw [hg]
  unfold upd1
  by_cases e : j = s
  · rw [if_pos (by omega), if_pos e, show 5 + j - (5 + s) = 0 by omega]; rfl
  · rw [if_neg (by omega), if_neg e]; exact k.cn j hj
 · rw [hg, if_neg (by omega)]; exact k.c6
 · rw [hg, if_neg (by omega)]; exact k.c7
 ·
  unfold upd1
  split
  · exact hv
  · exact k.nb j
end
end Go.Proofs.Ytccbmmnkiihkaaa
namespace Go.Proofs.Ytccbmmnkiihkaaa
set_option maxRecDepth 100000
attribute [local irreducible] Go GoR GoL
structure RT where
 wa : Option Addr
 wc : Nat
 da : Option Addr
 dc : Nat
 ja : Option Addr
 jc : Nat
 va : Option Addr
 vc : Nat
 ra : Option Addr
 rc : Nat
 c : Nat
 ws : List Nat
 ds : List Nat
 kept : List PV
 nx : Nat → Nat
 waits : WL
 ready : List IM
def RT.held (t : RT) : Nat := heldN t.kept + lenW t.waits + lenI t.ready
structure RX (h : AHeap) (xb : Nat) (A : RA) (t : RT) (n0 : Nat) : Prop where
 xc : ∃ c, h.get xb = some (.cells c 61) ∧ RXc c A t.nx t.va t.waits.length t.vc t.ra t.ready.length t.rc
 wv : Sv h 99 5 t.va t.waits.length t.vc (vws t.waits)
 rv : Sv h 39 4 t.ra t.ready.length t.rc (ics t.ready)
 dr : ∀ m ∈ t.ready, Sv h 5 1 m.a m.z.length m.cap (m.z.map bv)
 dw : ∀ m ∈ t.waits.map (·.2), Sv h 5 1 m.a m.z.length m.cap (m.z.map bv)
 mr : ∀ m ∈ t.ready, m.sid < 65536 ∧ m.ppid < 4294967296
 mw : ∀ m ∈ t.waits.map (·.2), m.sid < 65536 ∧ m.ppid < 4294967296
 wk : ∀ p ∈ t.waits, p.1.1 = p.2.sid ∧ p.1.1 < 65536 ∧ p.1.2 < 65536
 ow : n0 ≤ xb ∧ Own n0 t.va ∧ Own n0 t.ra
structure ROk (h : AHeap) (xb : Nat) (A : RA) (t : RT) (n0 : Nat) : Prop where
 X : RX h xb A t n0
 S : RSet h A.sb t.c t.wa t.wc t.ws t.da t.dc t.ds n0
 J : RJ h A.jb t.kept t.ja t.jc n0
section
variable {h h' : AHeap} {xb : Nat} {A : RA} {t : RT} {n0 : Nat}
theorem RX.same (k : RX h xb A t n0) (s : Same h h') : RX h' xb A t n0 := { k with
 xc := by obtain ⟨c, g, r⟩ := k.xc; exact ⟨c, s.get g, r⟩
 wv := k.wv.same s
 rv := k.rv.same s
 dr := fun m hm => (k.dr m hm).same s
 dw := fun m hm => (k.dw m hm).same s }
theorem ROk.same (k : ROk h xb A t n0) (s : Same h h') : ROk h' xb A t n0 := ⟨k.X.same s, k.S.same s, k.J.same s⟩
end
end Go.Proofs.Ytccbmmnkiihkaaa
namespace Go.Proofs.Ytccbmmnkiihkaaa
set_option maxRecDepth 100000
attribute [local irreducible] Go GoR GoL
def rmsgN (nx : Nat → Nat) (W : WL) (R : List IM) (m : IM) (ssn : Nat) : (Nat → Nat) × WL × List IM :=
 if m.un = true then (nx, W, R ++ [m])
 else if ssn = nx m.sid then (upd1 nx m.sid (drainN (W.length + 1) m.sid (nx16 ssn) W (R ++ [m])).1, (drainN (W.length + 1) m.sid (nx16 ssn) W (R ++ [m])).2.1, (drainN (W.length + 1) m.sid (nx16 ssn) W (R ++ [m])).2.2)
 else if bef16 (nx m.sid) ssn = true ∧ gl W (m.sid, ssn) = none then (nx, W ++ [((m.sid, ssn), m)], R)
 else (nx, W, R)
section
variable {h h' : AHeap} {xb : Nat} {A : RA} {t : RT} {n0 : Nat}
theorem RX.lts (k : RX h xb A t n0) : ∀ j ∈ [xb] ++ blk t.va ++ blk t.ra, j < h.n := fun j hj => by
 obtain ⟨c, g, -⟩ := k.xc
 simp only [List.cons_append, List.nil_append, List.mem_cons, List.mem_append] at hj
 rcases hj with rfl | q | q
 · exact AHeap.lt g
 · exact k.wv.lt j q
 · exact k.rv.lt j q
theorem RX.out (k : RX h xb A t n0) {a : Option Addr} {len cap : Nat} {cs : List Value} (d : Sv h 5 1 a len cap cs) : ∀ i ∈ blk a, i ∉ [xb] ++ blk t.va ++ blk t.ra := fun i hi hm => by
 obtain ⟨c, g, -⟩ := k.xc
 simp only [List.cons_append, List.nil_append, List.mem_cons, List.mem_append] at hm
 rcases hm with rfl | q | q
 · exact sv_out d g (fun c e => by cases e) hi
 · exact sv_sv d k.wv (by decide) i hi q
 · exact sv_sv d k.rv (by decide) i hi q
theorem RX.apart (k : RX h xb A t n0) : xb ∉ blk t.va ∧ xb ∉ blk t.ra ∧ ∀ j ∈ blk t.va, j ∉ blk t.ra := by
 obtain ⟨c, g, -⟩ := k.xc
 exact ⟨sv_out k.wv g (fun c e => by cases e), sv_out k.rv g (fun c e => by cases e), sv_sv k.wv k.rv (by decide)⟩
theorem RX.setWaits (k : RX h xb A t n0) {c : List Value} {va' : Option Addr} {vc' : Nat} {W : WL} (R : RXc c A t.nx t.va t.waits.length t.vc t.ra t.ready.length t.rc) (kk : Keeps ([xb] ++ blk t.va) h h') (gx : h'.get xb = some (.cells (setL c 65541 [.slice va' W.length vc']) 61)) (sv : Sv h' 99 5 va' W.length vc' (vws W)) (ho : Own n0 va') (hw : ∀ p ∈ W, p ∈ t.waits ∨ (p.1.1 = p.2.sid ∧ p.1.1 < 65536 ∧ p.1.2 < 65536) ∧ p.2.ppid < 4294967296 ∧ Sv h' 5 1 p.2.a p.2.z.length p.2.cap (p.2.z.map bv)) : RX h' xb A { t with va := va', vc := vc', waits := W } n0 := by
 have hd : ∀ {a : Option Addr} {len cap : Nat} {cs : List Value}, Sv h 5 1 a len cap cs → Sv h' 5 1 a len cap cs := fun d => d.keeps kk (fun i hi hm => k.out d i hi (by simp only [List.mem_append] at hm ⊢; exact .inl hm))
 refine ⟨⟨_, gx, R.set6 va' W.length vc'⟩, sv, k.rv.keeps kk (fun i hi hm => ?_), fun q hq => hd (k.dr q hq), fun q hq => ?_, k.mr, fun q hq => ?_, fun p hp => ?_, k.ow.1, ho, k.ow.2.2⟩
 ·
  rcases List.mem_append.1 hm with z | z
  · rw [List.mem_singleton.1 z] at hi; exact k.apart.2.1 hi
  · exact k.apart.2.2 i z hi
 ·
  obtain ⟨p, hp, rfl⟩ := List.mem_map.1 hq
  rcases hw p hp with z | z
  · exact hd (k.dw p.2 (List.mem_map.2 ⟨p, z, rfl⟩))
  · exact z.2.2
 ·
  obtain ⟨p, hp, rfl⟩ := List.mem_map.1 hq
  rcases hw p hp with z | z
  · exact k.mw p.2 (List.mem_map.2 ⟨p, z, rfl⟩)
  · exact ⟨by rw [← z.1.1]; exact z.1.2.1, z.2.1⟩
 ·
  rcases hw p hp with z | z
  · exact k.wk p z
  · exact z.1
theorem RX.setNext (k : RX h xb A t n0) {c : List Value} {s v : Nat} (hs : s < 65536) (hv : v < 65536) (R : RXc c A t.nx t.va t.waits.length t.vc t.ra t.ready.length t.rc) (kk : Keeps [xb] h h') (gx : h'.get xb = some (.cells (setL c (5 + s) [.int .u16 (v : Nat)]) 61)) : RX h' xb A { t with nx := upd1 t.nx s v } n0 := by
 have hd : ∀ {a : Option Addr} {len cap : Nat} {cs : List Value}, Sv h 5 1 a len cap cs → Sv h' 5 1 a len cap cs := fun d => d.keeps kk (fun i hi hm => k.out d i hi (by simp only [List.mem_append] at hm ⊢; exact .inl (.inl hm)))
 exact ⟨⟨_, gx, R.setn hs hv⟩, k.wv.keeps kk (fun i hi hm => by rw [List.mem_singleton.1 hm] at hi; exact k.apart.1 hi), k.rv.keeps kk (fun i hi hm => by rw [List.mem_singleton.1 hm] at hi; exact k.apart.2.1 hi), fun q hq => hd (k.dr q hq), fun q hq => hd (k.dw q hq), k.mr, k.mw, k.wk, k.ow⟩
end
end Go.Proofs.Ytccbmmnkiihkaaa