/- What the law leans on, part 6. No conditions. -/
import Derived.Test.YtfdglljlenkkbaaProg
import Derived.KernelRfl
import Derived.Sort.AssemblyPlain
import Derived.Test.YtfdglljlenkkbaaFlightOutPart5
set_option linter.unusedVariables false
set_option linter.unusedSimpArgs false
namespace Go.Proofs.Ytfdglljlenkkbaa
instance : CT Try.prog 3 none := ⟨by kernel_rfl⟩
instance : SZ Try.prog 3 1 := ⟨by kernel_rfl⟩
theorem un3 : Try.prog.underlying 3 = some (.int .i64) := by kernel_rfl
instance : AL Try.prog 3 [.int .i64 0] := ⟨by kernel_rfl⟩
instance : CT Try.prog 4 none := ⟨by kernel_rfl⟩
instance : SZ Try.prog 4 1 := ⟨by kernel_rfl⟩
instance : AL Try.prog 4 [.bool false] := ⟨by kernel_rfl⟩
instance : CT Try.prog 5 none := ⟨by kernel_rfl⟩
instance : SZ Try.prog 5 1 := ⟨by kernel_rfl⟩
theorem un5 : Try.prog.underlying 5 = some (.int .u8) := by kernel_rfl
instance : CT Try.prog 21 none := ⟨by kernel_rfl⟩
theorem un21 : Try.prog.underlying 21 = some (.int .i32) := by kernel_rfl
instance : CT Try.prog 22 none := ⟨by kernel_rfl⟩
instance : SZ Try.prog 22 1 := ⟨by kernel_rfl⟩
theorem un22 : Try.prog.underlying 22 = some (.int .u32) := by kernel_rfl
instance : AL Try.prog 22 [.int .u32 0] := ⟨by kernel_rfl⟩
instance : EL Try.prog 23 (none, 8) := ⟨by kernel_rfl⟩
instance : UN Try.prog 23 (.slice 32) := ⟨by kernel_rfl⟩
instance : CT Try.prog 26 none := ⟨by kernel_rfl⟩
instance : SZ Try.prog 26 1 := ⟨by kernel_rfl⟩
instance : CT Try.prog 28 none := ⟨by kernel_rfl⟩
instance : SZ Try.prog 28 1 := ⟨by kernel_rfl⟩
instance : EL Try.prog 28 (none, 1) := ⟨by kernel_rfl⟩
instance : UN Try.prog 28 (.slice 3) := ⟨by kernel_rfl⟩
instance : BS Try.prog 28 3 1 (.int .i64 0) := .of (by kernel_rfl) (by kernel_rfl) (by kernel_rfl) (by kernel_rfl) (by kernel_rfl)
instance : AP Try.prog 28 28 3 1 8 := .of (inf := Try.t3) (z := .int .i64 0) (e₂ := 3) (by kernel_rfl) (by kernel_rfl) (by kernel_rfl) (by kernel_rfl) (by kernel_rfl) (by kernel_rfl) (by decide) (by kernel_rfl) (by kernel_rfl)
instance : CT Try.prog 29 none := ⟨by kernel_rfl⟩
instance : SZ Try.prog 29 1 := ⟨by kernel_rfl⟩
instance : EL Try.prog 29 (none, 2) := ⟨by kernel_rfl⟩
instance : UN Try.prog 29 (.slice 59) := ⟨by kernel_rfl⟩
instance : CT Try.prog 30 none := ⟨by kernel_rfl⟩
instance : SZ Try.prog 30 1 := ⟨by kernel_rfl⟩
theorem un30 : Try.prog.underlying 30 = some (.int .u64) := by kernel_rfl
instance : CT Try.prog 32 (some 8) := ⟨by kernel_rfl⟩
instance : SZ Try.prog 32 8 := ⟨by kernel_rfl⟩
instance : FO Try.prog 32 0 0 := ⟨by kernel_rfl⟩
instance : FO Try.prog 32 1 1 := ⟨by kernel_rfl⟩
instance : FO Try.prog 32 2 2 := ⟨by kernel_rfl⟩
instance : FO Try.prog 32 3 3 := ⟨by kernel_rfl⟩
instance : FO Try.prog 32 4 4 := ⟨by kernel_rfl⟩
instance : FO Try.prog 32 5 5 := ⟨by kernel_rfl⟩
instance : FO Try.prog 32 6 6 := ⟨by kernel_rfl⟩
instance : FO Try.prog 32 7 7 := ⟨by kernel_rfl⟩
instance : AL Try.prog 32 [.int .u8 0, .int .u8 0, .int .u8 0, .int .i64 0, .int .i64 0, .int .i32 0, .slice none 0 0, .int .u64 0] := ⟨by kernel_rfl⟩
instance : CT Try.prog 33 none := ⟨by kernel_rfl⟩
theorem un33 : Try.prog.underlying 33 = some (.int .u16) := by kernel_rfl
instance : CT Try.prog 34 none := ⟨by kernel_rfl⟩
instance : SZ Try.prog 34 1 := ⟨by kernel_rfl⟩
instance : UN Try.prog 34 (.slice 5) := ⟨by kernel_rfl⟩
instance : BS Try.prog 34 5 1 (.int .u8 0) := .of (by kernel_rfl) (by kernel_rfl) (by kernel_rfl) (by kernel_rfl) (by kernel_rfl)
instance : MK Try.prog 34 5 1 (.int .u8 0) := .of (inf := Try.t5) (by kernel_rfl) (by kernel_rfl) (by kernel_rfl) (by kernel_rfl) (by kernel_rfl) (by kernel_rfl) (by kernel_rfl)
instance : AP Try.prog 34 34 5 1 1 := .of (inf := Try.t5) (z := .int .u8 0) (e₂ := 5) (by kernel_rfl) (by kernel_rfl) (by kernel_rfl) (by kernel_rfl) (by kernel_rfl) (by kernel_rfl) (by decide) (by kernel_rfl) (by kernel_rfl)
instance : CT Try.prog 36 (some 6) := ⟨by kernel_rfl⟩
instance : SZ Try.prog 36 6 := ⟨by kernel_rfl⟩
instance : FO Try.prog 36 0 0 := ⟨by kernel_rfl⟩
instance : FO Try.prog 36 5 5 := ⟨by kernel_rfl⟩
instance : ST Try.prog 36 [.int .u32 0, .int .u8 0, .int .u16 0, .int .u16 0, .int .u32 0, .slice none 0 0] [(0, 1), (1, 1), (2, 1), (3, 1), (4, 1), (5, 1)] := .of (z := .agg #[.int .u32 0, .int .u8 0, .int .u16 0, .int .u16 0, .int .u32 0, .slice none 0 0]) (fs := (match Try.prog.underlying 36 with | some (.struct fs) => fs | _ => #[])) (by kernel_rfl) (by kernel_rfl) (by kernel_rfl) (by kernel_rfl) (by kernel_rfl)
instance : AL Try.prog 36 [.int .u32 0, .int .u8 0, .int .u16 0, .int .u16 0, .int .u32 0, .slice none 0 0] := ⟨by kernel_rfl⟩
instance : CT Try.prog 39 none := ⟨by kernel_rfl⟩
instance : SZ Try.prog 39 1 := ⟨by kernel_rfl⟩
instance : AL Try.prog 39 [.int .i64 0] := ⟨by kernel_rfl⟩
instance : CT Try.prog 41 none := ⟨by kernel_rfl⟩
instance : SZ Try.prog 41 1 := ⟨by kernel_rfl⟩
instance : EL Try.prog 41 (none, 2) := ⟨by kernel_rfl⟩
instance : UN Try.prog 41 (.slice 53) := ⟨by kernel_rfl⟩
instance : BS Try.prog 41 53 2 (.agg #[.int .i64 0, .int .i64 0]) := .of (by kernel_rfl) (by kernel_rfl) (by kernel_rfl) (by kernel_rfl) (by kernel_rfl)
instance : AP Try.prog 41 41 53 2 16 := .of (inf := Try.t53) (z := .agg #[.int .i64 0, .int .i64 0]) (e₂ := 53) (by kernel_rfl) (by kernel_rfl) (by kernel_rfl) (by kernel_rfl) (by kernel_rfl) (by kernel_rfl) (by decide) (by kernel_rfl) (by kernel_rfl)
instance : CT Try.prog 43 (some 6) := ⟨by kernel_rfl⟩
instance : SZ Try.prog 43 6 := ⟨by kernel_rfl⟩
instance : FO Try.prog 43 0 0 := ⟨by kernel_rfl⟩
instance : FO Try.prog 43 2 2 := ⟨by kernel_rfl⟩
instance : FO Try.prog 43 3 3 := ⟨by kernel_rfl⟩
instance : FO Try.prog 43 4 4 := ⟨by kernel_rfl⟩
instance : FO Try.prog 43 5 5 := ⟨by kernel_rfl⟩
instance : ST Try.prog 43 [.int .i64 0, .bool false, .slice none 0 0, .int .i64 0, .int .u64 0, .slice none 0 0] [(0, 1), (1, 1), (2, 1), (3, 1), (4, 1), (5, 1)] := .of (z := .agg #[.int .i64 0, .bool false, .slice none 0 0, .int .i64 0, .int .u64 0, .slice none 0 0]) (fs := (match Try.prog.underlying 43 with | some (.struct fs) => fs | _ => #[])) (by kernel_rfl) (by kernel_rfl) (by kernel_rfl) (by kernel_rfl) (by kernel_rfl)
instance : AL Try.prog 43 [.int .i64 0, .bool false, .slice none 0 0, .int .i64 0, .int .u64 0, .slice none 0 0] := ⟨by kernel_rfl⟩
instance : EL Try.prog 50 (some 4, 1) := ⟨by kernel_rfl⟩
instance : AL Try.prog 50 [.int .i64 0, .int .i64 0, .int .i64 0, .int .i64 0] := ⟨by kernel_rfl⟩
instance : CT Try.prog 53 (some 2) := ⟨by kernel_rfl⟩
instance : SZ Try.prog 53 2 := ⟨by kernel_rfl⟩
instance : FO Try.prog 53 0 0 := ⟨by kernel_rfl⟩
instance : FO Try.prog 53 1 1 := ⟨by kernel_rfl⟩
instance : ST Try.prog 53 [.int .i64 0, .int .i64 0] [(0, 1), (1, 1)] := .of (z := .agg #[.int .i64 0, .int .i64 0]) (fs := (match Try.prog.underlying 53 with | some (.struct fs) => fs | _ => #[])) (by kernel_rfl) (by kernel_rfl) (by kernel_rfl) (by kernel_rfl) (by kernel_rfl)
instance : AL Try.prog 53 [.int .i64 0, .int .i64 0] := ⟨by kernel_rfl⟩
instance : CT Try.prog 59 (some 2) := ⟨by kernel_rfl⟩
instance : SZ Try.prog 59 2 := ⟨by kernel_rfl⟩
instance : FO Try.prog 59 0 0 := ⟨by kernel_rfl⟩
instance : FO Try.prog 59 1 1 := ⟨by kernel_rfl⟩
instance : CT Try.prog 60 none := ⟨by kernel_rfl⟩
instance : SZ Try.prog 60 1 := ⟨by kernel_rfl⟩
instance : EL Try.prog 60 (none, 1) := ⟨by kernel_rfl⟩
instance : UN Try.prog 60 (.slice 64) := ⟨by kernel_rfl⟩
instance : BS Try.prog 60 64 1 (.pointer none) := .of (by kernel_rfl) (by kernel_rfl) (by kernel_rfl) (by kernel_rfl) (by kernel_rfl)
instance : AP Try.prog 60 60 64 1 8 := .of (inf := Try.t64) (z := .pointer none) (e₂ := 64) (by kernel_rfl) (by kernel_rfl) (by kernel_rfl) (by kernel_rfl) (by kernel_rfl) (by kernel_rfl) (by decide) (by kernel_rfl) (by kernel_rfl)
instance : SZ Try.prog 62 5 := ⟨by kernel_rfl⟩
instance : FO Try.prog 62 0 0 := ⟨by kernel_rfl⟩
instance : FO Try.prog 62 1 1 := ⟨by kernel_rfl⟩
instance : FO Try.prog 62 2 2 := ⟨by kernel_rfl⟩
instance : FO Try.prog 62 3 3 := ⟨by kernel_rfl⟩
instance : FO Try.prog 62 4 4 := ⟨by kernel_rfl⟩
instance : ST Try.prog 62 [.int .u32 0, .int .u32 0, .slice none 0 0, .bool false, .int .u32 0] [(0, 1), (1, 1), (2, 1), (3, 1), (4, 1)] := .of (z := .agg #[.int .u32 0, .int .u32 0, .slice none 0 0, .bool false, .int .u32 0]) (fs := (match Try.prog.underlying 62 with | some (.struct fs) => fs | _ => #[])) (by kernel_rfl) (by kernel_rfl) (by kernel_rfl) (by kernel_rfl) (by kernel_rfl)
instance : CT Try.prog 64 none := ⟨by kernel_rfl⟩
instance : SZ Try.prog 64 1 := ⟨by kernel_rfl⟩
instance : SZ Try.prog 66 11 := ⟨by kernel_rfl⟩
instance : FO Try.prog 66 0 0 := ⟨by kernel_rfl⟩
instance : FO Try.prog 66 1 6 := ⟨by kernel_rfl⟩
instance : FO Try.prog 66 2 7 := ⟨by kernel_rfl⟩
instance : FO Try.prog 66 3 8 := ⟨by kernel_rfl⟩
instance : FO Try.prog 66 4 9 := ⟨by kernel_rfl⟩
instance : FO Try.prog 66 5 10 := ⟨by kernel_rfl⟩
instance : ST Try.prog 66 [.int .u32 0, .int .u8 0, .int .u16 0, .int .u16 0, .int .u32 0, .slice none 0 0, .int .i64 0, .int .u64 0, .int .i64 0, .bool false, .int .i64 0] [(0, 6), (6, 1), (7, 1), (8, 1), (9, 1), (10, 1)] := .of (z := .agg #[.int .u32 0, .int .u8 0, .int .u16 0, .int .u16 0, .int .u32 0, .slice none 0 0, .int .i64 0, .int .u64 0, .int .i64 0, .bool false, .int .i64 0]) (fs := (match Try.prog.underlying 66 with | some (.struct fs) => fs | _ => #[])) (by kernel_rfl) (by kernel_rfl) (by kernel_rfl) (by kernel_rfl) (by kernel_rfl)
theorem un86 : Try.prog.underlying 86 = some (.int .u64) := by kernel_rfl
instance : CT Try.prog 100 none := ⟨by kernel_rfl⟩
instance : SZ Try.prog 100 1 := ⟨by kernel_rfl⟩
theorem un100 : Try.prog.underlying 100 = some (.int .u64) := by kernel_rfl
instance : AL Try.prog 100 [.int .u64 0] := ⟨by kernel_rfl⟩
instance : IC Try.prog 3 22 .u32 := .of un3 un22
instance : IC Try.prog 3 86 .u64 := .of un3 un86
instance : IC Try.prog 3 100 .u64 := .of un3 un100
instance : IC Try.prog 5 3 .i64 := .of un5 un3
instance : IC Try.prog 5 22 .u32 := .of un5 un22
instance : IC Try.prog 21 22 .u32 := .of un21 un22
instance : IC Try.prog 30 5 .u8 := .of un30 un5
instance : IC Try.prog 33 22 .u32 := .of un33 un22
instance : IC Try.prog 86 3 .i64 := .of un86 un3
theorem noGlobals : Try.prog.globals.size = 0 := by kernel_rfl
end Go.Proofs.Ytfdglljlenkkbaa
namespace Go.Proofs.Ytfdglljlenkkbaa
set_option maxRecDepth 100000
attribute [local irreducible] Go GoR GoL
def intsC (c : List Value) : Prop := ∀ x ∈ c, ∃ (k : IntKind) (j : Int), x = .int k j
theorem intsC.one {c : List Value} (h : intsC c) : c.all Value.oneCell' = true := List.all_eq_true.2 fun x hx => by obtain ⟨k, j, rfl⟩ := h x hx; rfl
theorem intsC.flat {c : List Value} (h : intsC c) : ∀ x ∈ c, flatB x = true := fun x hx => by obtain ⟨k, j, rfl⟩ := h x hx; rfl
theorem intsC.low {c : List Value} (h : intsC c) (n : Nat) : ∀ x ∈ c, lowV n x = true := fun x hx => by obtain ⟨k, j, rfl⟩ := h x hx; rfl
theorem intsC.append {c d : List Value} (h : intsC c) (k : intsC d) : intsC (c ++ d) := fun x hx => (List.mem_append.1 hx).elim (h x) (k x)
theorem intsC.take {c : List Value} (h : intsC c) (n : Nat) : intsC (c.take n) := fun x hx => h x (List.mem_of_mem_take hx)
theorem intsC.drop {c : List Value} (h : intsC c) (n : Nat) : intsC (c.drop n) := fun x hx => h x (List.mem_of_mem_drop hx)
theorem aCopy_row {P : Program} {h : AHeap} {t e ct : TypeId} {sz : Nat} (hu : P.underlying t = some (.slice e)) (hs : sizeT P e = some sz) {y : Value} {ln dl cp b o m : Nat} {new c : List Value} {rd : List Nat} (hl : lenV y = some ln) (hm : Nat.min ln dl = m) (hsrc : aSrc h sz m y = some (new, rd)) (hne : new.isEmpty = false) (hg : h.get b = some (.cells c ct)) (hle : o + new.length ≤ c.length) (hone : new.all Value.oneCell' = true) :
  aCopy P h t (.slice (some ⟨b, o, none⟩) dl cp) y = some (m, h.put b (some (.cells (setL c o new) ct)), b :: rd, [b]) := by
 simp only [aCopy, hu, hs, hl, hm, hsrc, hne, hg, hone, and_true, if_pos hle, Bool.false_eq_true, if_false]
theorem aSrc_row {h : AHeap} {b o len cap m sz : Nat} {c : List Value} (hg : rowOf (h.get b) = some c) (hm : m ≤ len) (hle : o + m * sz ≤ c.length) (h0 : m * sz ≠ 0) : aSrc h sz m (.slice (some ⟨b, o, none⟩) len cap) = some ((c.drop o).take (m * sz), [b]) := by
 simp only [aSrc, if_neg h0, hg, if_pos (And.intro hm hle)]
theorem aAppend_zr {P : Program} {h : AHeap} {t t₂ e : TypeId} {kd ki : IntKind} {inf : TypeInfo} {z : Value} (hu : P.underlying t = some (.slice e)) (hi : P.info? e = some inf) (hz : inf.zero = some z) (hc : 0 < inf.size ∧ flatB z = true ∧ z.cells.toList.length = inf.size) (hu2 : P.underlying t₂ = some (.int kd)) {b l cap n : Nat} {c : List Value} (hg : h.get b = some (.ro c)) (hl : l * inf.size ≤ c.length) (hgt : cap < l + n) (h1 : l + n ≤ 1099511627776) (h2 : (l + n) * inf.bytes ≤ 140737488355328) :
  ∃ rd, aAppend P h t t₂ (.slice (some ⟨b, 0, none⟩) l cap) (.int ki (n : Int)) = some (.slice (some ⟨h.n, 0, none⟩) (l + n) (l + n), h.push (.cells (c.take (l * inf.size) ++ zeros z.cells.toList n) e), rd, []) := by
 have hs : sizeT P e = some inf.size := by simp [sizeT, hi]
 have hzt : zeroT P e = some z := by simp [zeroT, hi, hz]
 have hzz : aZeros P e inf.size n = some (zeros z.cells.toList n) := by
  unfold aZeros
  by_cases h0 : n * inf.size = 0
  ·
   have : n = 0 := by rcases Nat.mul_eq_zero.1 h0 with q | q <;> omega
   subst this
   rw [if_pos h0]; rfl
  · rw [if_neg h0]; simp only [hzt]; rw [if_pos ⟨hc.2.1, hc.2.2⟩]
 have hn1 : n ≤ 1099511627776 := by omega
 have hnew : ∃ rd, aNew P h e inf t₂ (.int ki (n : Int)) = some (n, zeros z.cells.toList n, rd) := by
  have hb2 : n * inf.bytes ≤ 140737488355328 := Nat.le_trans (Nat.mul_le_mul_right _ (Nat.le_add_left n l)) h2
  have hb3 : ((n : Int) * (inf.bytes : Int)) ≤ 281474976710656 := by
   have : ((n * inf.bytes : Nat) : Int) ≤ 140737488355328 := by omega
   rw [Int.natCast_mul] at this; omega
  refine ⟨[], ?_⟩
  simp only [aNew, hu2, Int.toNat_natCast, hzz, Option.map_some]
  rw [if_pos ⟨by omega, by omega, hb3⟩]
 obtain ⟨rd₁, hnew⟩ := hnew
 have hold : ∃ rd, aSrc h inf.size l (.slice (some ⟨b, 0, none⟩) l cap) = some (c.take (l * inf.size), rd) := by
  by_cases h0 : l * inf.size = 0
  · exact ⟨[], by simp [aSrc, h0]⟩
  · exact ⟨[b], by rw [aSrc_row (c := c) (by rw [hg]; rfl) (Nat.le_refl _) (by omega) h0]; rfl⟩
 obtain ⟨rd₂, hold⟩ := hold
 refine ⟨rd₁ ++ rd₂, ?_⟩
 simp only [aAppend, hu, hi, hz]
 rw [if_pos hc]
 simp only [hnew, aGrow]
 rw [if_neg (by omega), if_pos ⟨h1, h2⟩]
 simp only [hold]
 rw [if_pos (by simp [tight, hg])]
theorem setL_ins1 (c : List Value) (i : Nat) (x y : Value) (z : List Value) (hi : i * 2 < c.length) (hz : z.length = c.length - i * 2 + 2) : setL (setL (c.take (i * 2) ++ z) (i * 2) [x, y]) ((i + 1) * 2) (c.drop (i * 2)) = c.take (i * 2) ++ ([x, y] ++ c.drop (i * 2)) := by
 have e1 : (c.take (i * 2)).length = i * 2 := by rw [List.length_take]; omega
 have e2 : setL (c.take (i * 2) ++ z) (i * 2) [x, y] = c.take (i * 2) ++ ([x, y] ++ z.drop 2) := by
  unfold setL
  rw [List.take_append_of_le_length (by omega), List.take_of_length_le (by omega), List.drop_append, List.drop_of_length_le (by simp [e1]), e1]
  simp
 have e3 : c.take (i * 2) ++ ([x, y] ++ z.drop 2) = (c.take (i * 2) ++ [x, y]) ++ z.drop 2 := (List.append_assoc _ _ _).symm
 have e4 : (c.take (i * 2) ++ [x, y]).length = (i + 1) * 2 := by rw [List.length_append, e1]; simp; omega
 have e5 : ((c.take (i * 2) ++ [x, y]) ++ z.drop 2).length = (i + 1) * 2 + (c.drop (i * 2)).length := by rw [List.length_append, e4]; simp; omega
 rw [e2, e3]
 unfold setL
 rw [List.take_left' e4, List.drop_of_length_le (Nat.le_of_eq e5), List.append_nil, List.append_assoc]
theorem setL_ins2 (c : List Value) (i : Nat) (x y : Value) (z : List Value) (hi : i * 2 < c.length) (hz : z.length = 2) : setL (setL (c ++ z) ((i + 1) * 2) (c.drop (i * 2))) (i * 2) [x, y] = c.take (i * 2) ++ ([x, y] ++ c.drop (i * 2)) := by
 have hcd : (c.drop (i * 2)).length = c.length - i * 2 := by simp
 have e2 : setL (c ++ z) ((i + 1) * 2) (c.drop (i * 2)) = (c ++ z).take ((i + 1) * 2) ++ c.drop (i * 2) := by
  unfold setL
  rw [List.drop_of_length_le (l := c ++ z) (by simp; omega), List.append_nil]
 rw [e2]
 unfold setL
 have h3 : ((c ++ z).take ((i + 1) * 2)).length = (i + 1) * 2 := by rw [List.length_take, List.length_append]; omega
 rw [List.take_append_of_le_length (by omega), List.take_take, Nat.min_eq_left (by omega), List.take_append_of_le_length (by omega)]
 rw [show i * 2 + ([x, y] : List Value).length = ((c ++ z).take ((i + 1) * 2)).length from by rw [h3]; simp; omega, List.drop_left]
 simp
set_option maxHeartbeats 32000000 in
theorem ins0 (B n i vb : Nat) (c : List Value) (x y : Value) (hc : c.length = n * 2) (hi : i < n) (hn : n ≤ 100000) (hci : intsC c) (hxy : intsC [x, y]) (n0 : Nat) (H : AHeap) (hB : H.get B = some (.ro c)) (hv : H.get vb = some (.cells [x, y] 53)) (hn0 : n0 ≤ H.n) : CallS Try.prog [] 34 [.slice (some ⟨B, 0, none⟩) n n, .int .i64 i, .slice (some ⟨vb, 0, none⟩) 1 1] H (RowR n0 53 (n + 1) (c.take (i * 2) ++ ([x, y] ++ c.drop (i * 2)))) := by
 have rv : Rv Try.prog H 2 (some ⟨B, 0, none⟩) n n c := .mk (.inr hB) (by omega) (Nat.le_refl _) (by rw [List.drop_zero, List.take_of_length_le (by omega)])
 have vlt := AHeap.lt hv
 have blt := AHeap.lt hB
 (refine CallS.of3 Try.func34 rfl Try.ntmps34 Try.results34 rfl ?_)
 (refine Go.run (g:=?_))
 refine GoR.sliceV (lo' := some (.int .i64 (i : Nat))) (hi' := none) (l := i) (r := n) rfl rfl rfl rfl rfl rfl rfl rv (by simp [bnd]) rfl (by omega) (by omega) ?_
 (refine Go.run (g:=?_))
 refine GoR.capR (n := (n : Nat)) rfl rfl rfl rfl rfl (by simp [aCap, Try.underlying41, tight, hB]) ?_
 (refine Go.run (g:=?_))
 refine GoR.sliceV (lo' := none) (hi' := some (.int .i64 (i : Nat))) (l := 0) (r := i) rfl rfl rfl rfl rfl rfl rfl rv rfl (by simp [bnd]) (by omega) (by omega) ?_
 (refine Go.run (g:=?_))
 obtain ⟨rd, hap⟩ := aAppend_zr (P := Try.prog) (t := 41) (t₂ := 3) (kd := .i64) (ki := .i64) (z := .agg #[.int .i64 0, .int .i64 0]) (l := i) (n := n + 1 - i) (cap := n) Try.underlying41 rfl rfl ⟨by decide, by decide, by rfl⟩ rfl hB (by show i * 2 ≤ _; omega) (by omega) (by omega) (by show _ * 16 ≤ _; omega)
 have hz : (zeros (Value.agg #[.int .i64 0, .int .i64 0]).cells.toList (n + 1 - i)).length = c.length - i * 2 + 2 := by rw [zeros_length]; show (n + 1 - i) * 2 = _; omega
 generalize zeros (Value.agg #[.int .i64 0, .int .i64 0]).cells.toList (n + 1 - i) = zz at hap hz
 rw [show i + (n + 1 - i) = n + 1 from by omega] at hap
 refine GoR.append rfl rfl rfl rfl rfl rfl hap (fun i hi => by cases hi) ?_
 refine GoR.name ?_
 intro H1 e1
 have g1 : H1.get H.n = some (.cells (c.take (i * 2) ++ zz) 53) := by rw [e1]; exact AHeap.get_push_same H _
 have v1 : H1.get vb = some (.cells [x, y] 53) := by rw [e1, AHeap.get_push_ne _ _ (by omega)]; exact hv
 have b1 : H1.get B = some (.ro c) := by rw [e1, AHeap.get_push_ne _ _ (by omega)]; exact hB
 clear e1 hap
 have zl : (c.take (i * 2) ++ zz).length = (n + 1) * 2 := by rw [List.length_append, List.length_take]; omega
 have rv1 : Rv Try.prog H1 2 (some ⟨H.n, 0, none⟩) (n + 1) (n + 1) (c.take (i * 2) ++ zz) := .mk (.inl ⟨_, g1, by rfl⟩) (by omega) (Nat.le_refl _) (by rw [List.drop_zero, List.take_of_length_le (by omega)])
 (refine Go.run (g:=?_))
 refine GoR.sliceV (lo' := some (.int .i64 (i : Nat))) (hi' := none) (l := i) (r := n + 1) rfl rfl rfl rfl rfl rfl rfl rv1 (by simp [bnd]) rfl (by omega) (by omega) ?_
 (refine Go.run (g:=?_))
 refine GoR.copy rfl rfl rfl rfl rfl rfl (aCopy_row (P := Try.prog) (m := 1) (b := H.n) (o := 0 + i * 2) (new := [x, y]) (sz := 2) (ln := 1) Try.underlying41 (by rfl) rfl (Nat.min_eq_left (by omega)) (aSrc_row (c := [x, y]) (by rw [v1]; rfl) (by omega) (by simp) (by omega)) rfl g1 (by simp; omega) hxy.one) (fun j hj => .inr (by simp at hj; omega)) ?_
 refine GoR.name ?_
 intro H2 e2
 have g2 : H2.get H.n = some (.cells (setL (c.take (i * 2) ++ zz) (i * 2) [x, y]) 53) := by rw [e2, Nat.zero_add]; exact get_put_self g1
 have b2 : H2.get B = some (.ro c) := by rw [e2, AHeap.get_put_ne _ _ (by omega)]; exact b1
 clear e2 g1 v1 b1 rv1
 have zl2 : (setL (c.take (i * 2) ++ zz) (i * 2) [x, y]).length = (n + 1) * 2 := by rw [setL_length (by simp; omega)]; exact zl
 have rv2 : Rv Try.prog H2 2 (some ⟨H.n, 0, none⟩) (n + 1) (n + 1) (setL (c.take (i * 2) ++ zz) (i * 2) [x, y]) := .mk (.inl ⟨_, g2, by rfl⟩) (by omega) (Nat.le_refl _) (by rw [List.drop_zero, List.take_of_length_le (by omega)])
 have rvb2 : Rv Try.prog H2 2 (some ⟨B, 0, none⟩) n n c := .mk (.inr b2) (by omega) (Nat.le_refl _) (by rw [List.drop_zero, List.take_of_length_le (by omega)])
 have hdl : (c.drop (i * 2)).length = (n - i) * 2 := by rw [List.length_drop]; omega
 have hsrc2 : aSrc H2 2 (n - i) (.slice (some ⟨B, 0 + i * 2, none⟩) (n - i) (n - i)) = some (c.drop (i * 2), [B]) := by
  rw [aSrc_row (c := c) (by rw [b2]; rfl) (Nat.le_refl _) (by omega) (by omega), Nat.zero_add, List.take_of_length_le (by omega)]
 have hne2 : (c.drop (i * 2)).isEmpty = false := by
  cases hq : c.drop (i * 2) with
  | nil => rw [hq] at hdl; simp at hdl; omega
  | cons a l => rfl
 refine Go.runN (g:=?_)
 refine Go.loud (by kernel_rfl) rfl ?_
 (refine Go.runL (g:=?_))
 refine GoL.sliceV (lo' := some (.int .i64 (i + 1 : Nat))) (hi' := none) (l := i + 1) (r := n + 1) rfl rfl rfl rfl rfl rfl rfl rv2 (by simp [bnd]; omega) rfl (by omega) (by omega) ?_
 (refine Go.runL (g:=?_))
 refine GoL.sliceV (lo' := some (.int .i64 (i : Nat))) (hi' := none) (l := i) (r := n) rfl rfl rfl rfl rfl rfl rfl rvb2 (by simp [bnd]) rfl (by omega) (by omega) ?_
 (refine Go.runL (g:=?_))
 refine GoL.copy rfl rfl rfl rfl rfl rfl (aCopy_row (P := Try.prog) (m := n - i) (b := H.n) (o := 0 + (i + 1) * 2) (new := c.drop (i * 2)) (sz := 2) (ln := n - i) Try.underlying41 (by rfl) rfl (by simp [Nat.min_def]) hsrc2 hne2 g2 (by rw [zl2, hdl]; omega) (hci.drop _).one) (fun j hj => .inr (by simp at hj; omega)) ?_
 refine GoL.endN (g:=?_)
 refine Go.name ?_
 intro H3 e3
 have g3 : H3.get H.n = some (.cells (c.take (i * 2) ++ ([x, y] ++ c.drop (i * 2))) 53) := by rw [e3, Nat.zero_add, get_put_self g2, setL_ins1 c i x y zz (by omega) (by omega)]
 clear e3
 (refine Go.run (g:=?_))
 (first|refine Go.finA rfl ?_|refine Go.finB rfl (hq:=?_))
 exact ⟨H.n, rfl, g3, hn0⟩
theorem GoD.finD {P : Program} {W : Nat → Prop} {q : Bool} {n : Nat} {ov : Ov} {h : AHeap} {rs : List ResultVar} {x : Exit} {vs : List Value} {R : Value → AHeap → Prop} (hx : x = .normal ∨ x = .ret) (hr : Res P h ov rs vs) (hR : R (retV vs) h) : GoD P W q n [] x ov [] h (FinD P rs R) := fun tm hN hrp => ⟨hx, rfl, retV vs, aResult_of (hr.eq hrp), hR⟩
set_option maxHeartbeats 32000000 in
theorem ins1 (B n i vb : Nat) (c zs : List Value) (x y : Value) (hc : c.length = n * 2) (hzs : zs.length = 2) (hi : i < n) (hn : n ≤ 100000) (hci : intsC c) (hxy : intsC [x, y]) (n0 : Nat) (H : AHeap) (hB : H.get B = some (.cells (c ++ zs) 53)) (hv : H.get vb = some (.cells [x, y] 53)) (hne : vb ≠ B) (hn0 : n0 ≤ B) : CallD Try.prog [B] 34 [.slice (some ⟨B, 0, none⟩) n (n + 1), .int .i64 i, .slice (some ⟨vb, 0, none⟩) 1 1].toArray H (RowR n0 53 (n + 1) (c.take (i * 2) ++ ([x, y] ++ c.drop (i * 2)))) := by
 have hcz : (c ++ zs).length = (n + 1) * 2 := by rw [List.length_append]; omega
 have rv : Rv Try.prog H 2 (some ⟨B, 0, none⟩) n (n + 1) c := .mk (.inl ⟨_, hB, by rfl⟩) (by omega) (Nat.le_succ _) (by rw [List.drop_zero, List.take_append_of_le_length (by omega), List.take_of_length_le (by omega)])
 have rvz : Rv Try.prog H 2 (some ⟨B, 0, none⟩) (n + 1) (n + 1) (c ++ zs) := .mk (.inl ⟨_, hB, by rfl⟩) (by omega) (Nat.le_refl _) (by rw [List.drop_zero, List.take_of_length_le (by omega)])
 have vlt := AHeap.lt hv
 have blt := AHeap.lt hB
 refine CallD.of (ov := [(0, .slice (some ⟨B, 0, none⟩) n (n + 1)), (1, .int .i64 i), (2, .slice (some ⟨vb, 0, none⟩) 1 1)]) Try.func34 rfl Try.ntmps34 Try.results34 rfl rfl ?_
 refine GoD.seq ?_
 refine GoD.seg ?_
 (refine Go.run (g:=?_))
 refine GoD.back ?_
 refine GoD.seq ?_
 refine GoD.seg ?_
 (refine Go.run (g:=?_))
 refine GoR.sliceV (lo' := some (.int .i64 (i : Nat))) (hi' := none) (l := i) (r := n) rfl rfl rfl rfl rfl rfl rfl rv (by simp [bnd]) rfl (by omega) (by omega) ?_
 (refine Go.run (g:=?_))
 refine GoD.back ?_
 refine GoD.seq ?_
 refine GoD.seg ?_
 (refine Go.run (g:=?_))
 refine GoD.back ?_
 refine GoD.seq ?_
 refine GoD.seg ?_
 (refine Go.run (g:=?_))
 refine GoD.back ?_
 refine GoD.seq ?_
 refine GoD.seg ?_
 (refine Go.run (g:=?_))
 refine GoD.back ?_
 refine GoD.seq ?_
 refine GoD.seg ?_
 (refine Go.run (g:=?_))
 refine GoD.back ?_
 refine GoD.seq ?_
 refine GoD.seq ?_
 refine GoD.region (by kernel_rfl) (is := [0, 1, 2, 3, 4, 5]) rfl ?_
 refine OvD.step rfl rfl rfl rfl (S.move rfl rfl) ?_
 refine OvD.step rfl rfl rfl rfl (S.move rfl rfl) ?_
 refine OvD.step (v := .int .i64 (n + 1 : Nat)) rfl rfl rfl rfl (S.bin rfl rfl rfl (by simp [iBin, IntKind.wrap_i64]; omega)) ?_
 refine OvD.step rfl rfl rfl rfl (S.move rfl rfl) ?_
 refine OvD.cap rfl rfl rfl rfl rfl Try.underlying41 rfl (by omega) fun N hN => ?_
 refine OvD.step (v := .bool false) rfl rfl rfl rfl (S.bin rfl rfl rfl (by simp [iBin]; omega)) ?_
 refine OvD.done ?_
 refine GoD.seg ?_
 (refine Go.run (g:=?_))
 refine GoD.back ?_
 refine GoD.seg ?_
 (refine Go.run (g:=?_))
 refine GoR.sliceV (lo' := none) (hi' := some (.int .i64 (n + 1 : Nat))) (l := 0) (r := n + 1) rfl rfl rfl rfl rfl rfl rfl rv rfl (by simp [bnd]; omega) (by omega) (by omega) ?_
 (refine Go.run (g:=?_))
 refine GoR.sliceV (lo' := some (.int .i64 (i + 1 : Nat))) (hi' := none) (l := i + 1) (r := n + 1) rfl rfl rfl rfl rfl rfl rfl rvz (by simp [bnd]; omega) rfl (by omega) (by omega) ?_
 (refine Go.run (g:=?_))
 refine GoR.overlaps (e := 53) (T := 41) (rs := #[4]) rfl rfl rfl rfl rfl Try.func39 (by kernel_rfl) (by kernel_rfl) (by kernel_rfl) (by kernel_rfl) Try.underlying41 (by rfl) rfl rfl rfl hv (by rw [Try.underlying53]; intro e; cases e) hB (by omega) hne (by omega) (by omega) ?_
 have hdl : (c.drop (i * 2)).length = (n - i) * 2 := by rw [List.length_drop]; omega
 have hsrc2 : aSrc H 2 (n - i) (.slice (some ⟨B, 0 + 0 * 2 + i * 2, none⟩) (n + 1 - i) (n + 1 - 0 - i)) = some (c.drop (i * 2), [B]) := by
  rw [aSrc_row (c := c ++ zs) (by rw [hB]; rfl) (by omega) (by omega) (by omega), Nat.zero_mul, Nat.add_zero, Nat.zero_add, List.drop_append_of_le_length (by omega), List.take_append_of_le_length (by omega), List.take_of_length_le (by omega)]
 have hne2 : (c.drop (i * 2)).isEmpty = false := by
  cases hq : c.drop (i * 2) with
  | nil => rw [hq] at hdl; simp at hdl; omega
  | cons a l => rfl
 refine Go.runN (g:=?_)
 refine Go.loud (by kernel_rfl) rfl ?_
 (refine Go.runL (g:=?_))
 refine GoL.sliceV (lo' := some (.int .i64 (i + 1 : Nat))) (hi' := none) (l := i + 1) (r := n + 1) rfl rfl rfl rfl rfl rfl rfl rvz (by simp [bnd]; omega) rfl (by omega) (by omega) ?_
 (refine Go.runL (g:=?_))
 refine GoL.sliceV (lo' := some (.int .i64 (i : Nat))) (hi' := none) (l := i) (r := n + 1) rfl rfl rfl rfl rfl rfl rfl rvz (by simp [bnd]) rfl (by omega) (by omega) ?_
 (refine Go.runL (g:=?_))
 refine GoL.copy rfl rfl rfl rfl rfl rfl (aCopy_row (P := Try.prog) (m := n - i) (b := B) (o := 0 + 0 * 2 + (i + 1) * 2) (new := c.drop (i * 2)) (sz := 2) (ln := n + 1 - i) Try.underlying41 (by rfl) rfl (by simp [Nat.min_def]; omega) hsrc2 hne2 hB (by omega) (hci.drop _).one) (fun j hj => .inl (by simpa using hj)) ?_
 refine GoL.endN (g:=?_)
 refine Go.name ?_
 intro H2 e2
 have g2 : H2.get B = some (.cells (setL (c ++ zs) ((i + 1) * 2) (c.drop (i * 2))) 53) := by rw [e2, Nat.zero_mul, Nat.add_zero, Nat.zero_add]; exact get_put_self hB
 have v2 : H2.get vb = some (.cells [x, y] 53) := by rw [e2, AHeap.get_put_ne _ _ (Ne.symm hne)]; exact hv
 clear e2
 have zl2 : (setL (c ++ zs) ((i + 1) * 2) (c.drop (i * 2))).length = (n + 1) * 2 := by rw [setL_length (by omega)]; exact hcz
 have rv2 : Rv Try.prog H2 2 (some ⟨B, 0, none⟩) (n + 1) (n + 1) (setL (c ++ zs) ((i + 1) * 2) (c.drop (i * 2))) := .mk (.inl ⟨_, g2, by rfl⟩) (by omega) (Nat.le_refl _) (by rw [List.drop_zero, List.take_of_length_le (by omega)])
 (refine Go.run (g:=?_))
 refine GoR.sliceV (lo' := some (.int .i64 (i : Nat))) (hi' := none) (l := i) (r := n + 1) rfl rfl rfl rfl rfl rfl rfl rv2 (by simp [bnd]) rfl (by omega) (by omega) ?_
 (refine Go.run (g:=?_))
 refine GoR.copy rfl rfl rfl rfl rfl rfl (aCopy_row (P := Try.prog) (m := 1) (b := B) (o := 0 + 0 * 2 + i * 2) (new := [x, y]) (sz := 2) (ln := 1) Try.underlying41 (by rfl) rfl (Nat.min_eq_left (by omega)) (aSrc_row (c := [x, y]) (by rw [v2]; rfl) (by omega) (by simp) (by omega)) rfl g2 (by simp; omega) hxy.one) (fun j hj => .inl (by simpa using hj)) ?_
 refine GoR.name ?_
 intro H3 e3
 have g3 : H3.get B = some (.cells (c.take (i * 2) ++ ([x, y] ++ c.drop (i * 2))) 53) := by rw [e3, Nat.zero_mul, Nat.add_zero, Nat.zero_add, get_put_self g2, setL_ins2 c i x y zs (by omega) hzs]
 clear e3
 (refine Go.run (g:=?_))
 refine GoD.back ?_
 refine GoD.finD (.inr rfl) (.tmp rfl .nil) ⟨B, rfl, g3, hn0⟩
end Go.Proofs.Ytfdglljlenkkbaa
namespace Go.Proofs.Ytfdglljlenkkbaa
set_option maxRecDepth 100000
attribute [local irreducible] Go GoR GoL
theorem aAppend_wh {P : Program} {h : AHeap} {t t₂ e : TypeId} {sz bytes : Nat} [hA : AP P t t₂ e sz bytes] {b n k cap' : Nat} {a' : Option Addr} {c new : List Value} (hg : h.get b = some (.cells c e)) (hc : c.length = n * sz) (hN : Rv P h sz a' k cap' new) (hk : 0 < k) (h1 : n + k ≤ 1099511627776) (h2 : (n + k) * bytes ≤ 140737488355328) (hone : new.all Value.oneCell' = true) :
  ∃ rd, aAppend P h t t₂ (.slice (some ⟨b, 0, none⟩) n n) (.slice a' k cap') = some (.slice (some ⟨h.n, 0, none⟩) (n + k) (n + k), (h.put b none).push (.cells (c ++ new) e), rd, [b]) := by
 obtain ⟨inf, z, hi, rfl, rfl, hz, hsz, hzf, hzl⟩ := hA.i
 obtain ⟨e₂, hu2⟩ := hA.u2
 obtain ⟨rd₁, hsrc, hrd₁⟩ := aSrc_of hN
 have hnew : aNew P h e inf t₂ (.slice a' k cap') = some (k, new, rd₁) := by simp [aNew, hu2, hsrc]
 have hs : sizeT P e = some inf.size := by simp [sizeT, hi]
 have rv : Rv P h inf.size (some ⟨b, 0, none⟩) n n c := .mk (.inl ⟨e, hg, hs⟩) (by omega) (Nat.le_refl _) (by rw [List.drop_zero, List.take_of_length_le (by omega)])
 obtain ⟨rd₂, hold, hrd₂⟩ := aSrc_of rv
 have ht : tight P h b 0 n = true := by simp [tight, hg, hs, hc]
 refine ⟨b :: (rd₁ ++ rd₂), ?_⟩
 simp only [aAppend, hA.u, hi, hz]
 rw [if_pos ⟨hsz, hzf, hzl⟩]
 simp only [hnew, aGrow]
 rw [if_neg (by omega), if_pos ⟨h1, h2⟩]
 simp only [hold]
 rw [if_neg (by rw [ht]; decide)]
 simp only [hg]
 rw [if_pos ⟨trivial, by omega, hone, Nat.le_refl _⟩]
theorem aAppend_nl {P : Program} {h : AHeap} {t t₂ e : TypeId} {sz bytes : Nat} [hA : AP P t t₂ e sz bytes] {k cap' : Nat} {a' : Option Addr} {new : List Value} (hN : Rv P h sz a' k cap' new) (hk : 0 < k) (h1 : k ≤ 1099511627776) (h2 : k * bytes ≤ 140737488355328) :
  ∃ rd, aAppend P h t t₂ (.slice none 0 0) (.slice a' k cap') = some (.slice (some ⟨h.n, 0, none⟩) k k, h.push (.cells new e), rd, []) := by
 obtain ⟨inf, z, hi, rfl, rfl, hz, hsz, hzf, hzl⟩ := hA.i
 obtain ⟨e₂, hu2⟩ := hA.u2
 obtain ⟨rd₁, hsrc, hrd₁⟩ := aSrc_of hN
 have hnew : aNew P h e inf t₂ (.slice a' k cap') = some (k, new, rd₁) := by simp [aNew, hu2, hsrc]
 refine ⟨rd₁, ?_⟩
 simp only [aAppend, hA.u, hi, hz]
 rw [if_pos ⟨hsz, hzf, hzl⟩]
 simp only [hnew, aGrow]
 rw [if_neg (by omega), if_pos ⟨h1, h2⟩]
def pbc (l : List (Nat × Nat)) : List Value := (l.map fun p => [Value.int .i64 (p.1 : Nat), Value.int .i64 (p.2 : Nat)]).flatten
theorem pbc_append (l k : List (Nat × Nat)) : pbc (l ++ k) = pbc l ++ pbc k := by simp [pbc]
theorem pbc_cons (p : Nat × Nat) (l : List (Nat × Nat)) : pbc (p :: l) = Value.int .i64 (p.1 : Nat) :: Value.int .i64 (p.2 : Nat) :: pbc l := rfl
theorem pbc_len (l : List (Nat × Nat)) : (pbc l).length = l.length * 2 := by
 induction l with
 | nil => rfl
 | cons p l ih => rw [pbc_cons, List.length_cons, List.length_cons, ih, List.length_cons]; omega
theorem pbc_ints (l : List (Nat × Nat)) : intsC (pbc l) := by
 induction l with
 | nil => intro x hx; cases hx
 | cons p l ih =>
  intro x hx
  rw [pbc_cons] at hx
  rcases List.mem_cons.1 hx with rfl | hx
  · exact ⟨_, _, rfl⟩
  ·
   rcases List.mem_cons.1 hx with rfl | hx
   · exact ⟨_, _, rfl⟩
   · exact ih x hx
theorem pbc_take (l : List (Nat × Nat)) (i : Nat) : (pbc l).take (i * 2) = pbc (l.take i) := by
 induction l generalizing i with
 | nil => simp [pbc]
 | cons p l ih =>
  cases i with
  | zero => simp [pbc]
  | succ i => rw [pbc_cons, show (i + 1) * 2 = i * 2 + 1 + 1 from by omega, List.take_succ_cons, List.take_succ_cons, ih, List.take_succ_cons, pbc_cons]
theorem pbc_drop (l : List (Nat × Nat)) (i : Nat) : (pbc l).drop (i * 2) = pbc (l.drop i) := by
 induction l generalizing i with
 | nil => simp [pbc]
 | cons p l ih =>
  cases i with
  | zero => simp [pbc]
  | succ i => rw [pbc_cons, show (i + 1) * 2 = i * 2 + 1 + 1 from by omega, List.drop_succ_cons, List.drop_succ_cons, ih, List.drop_succ_cons]
inductive PB (h : AHeap) : Option Addr → List (Nat × Nat) → Prop
 | nil : PB h none []
 | row {b : Nat} {l : List (Nat × Nat)} (h0 : l ≠ []) (g : h.get b = some (.cells (pbc l) 53)) : PB h (some ⟨b, 0, none⟩) l
theorem PB.rv {h : AHeap} {a : Option Addr} {l : List (Nat × Nat)} (k : PB h a l) : Rv Try.prog h 2 a l.length l.length (pbc l) := by
 cases k with
 | nil => exact .nil
 | row h0 g => exact .mk (.inl ⟨_, g, by rfl⟩) (by rw [pbc_len]; omega) (Nat.le_refl _) (by rw [List.drop_zero, List.take_of_length_le (by rw [pbc_len]; omega)])
theorem PB.sv {h : AHeap} {a : Option Addr} {l : List (Nat × Nat)} (k : PB h a l) : Sv h 53 2 a l.length l.length (pbc l) := by
 cases k with
 | nil => exact .nil
 | row h0 g => exact .mk g (by rw [pbc_len]; omega) (Nat.le_refl _) (by rw [List.drop_zero, List.take_of_length_le (by rw [pbc_len]; omega)])
theorem PB.keeps {h h' : AHeap} {a : Option Addr} {l : List (Nat × Nat)} (k : PB h a l) {wr : List Nat} (kk : Keeps wr h h') (ap : ∀ i ∈ blk a, i ∉ wr) : PB h' a l := by
 cases k with
 | nil => exact .nil
 | row h0 g => exact .row h0 (kk.get g (ap _ (by simp [blk])))
theorem PB.same {h h' : AHeap} {a : Option Addr} {l : List (Nat × Nat)} (k : PB h a l) (s : Same h h') : PB h' a l := by
 cases k with
 | nil => exact .nil
 | row h0 g => exact .row h0 (s.get g)
theorem PB.lt {h : AHeap} {a : Option Addr} {l : List (Nat × Nat)} (k : PB h a l) : ∀ i ∈ blk a, i < h.n := by
 cases k with
 | nil => intro i hi; cases hi
 | row h0 g => intro i hi; simp [blk] at hi; subst hi; exact AHeap.lt g
set_option maxHeartbeats 32000000 in
theorem insert_spec (a : Option Addr) (l : List (Nat × Nat)) (i vb p : Nat) (h : AHeap) (k : PB h a l) (hi : i ≤ l.length) (hn : l.length ≤ 99999) (hv : h.get vb = some (.cells [.int .i64 (p : Nat), .int .i64 (0 : Nat)] 53)) (hne : ∀ j ∈ blk a, vb ≠ j) : CallS Try.prog (blk a) 34 [.slice a l.length l.length, .int .i64 i, .slice (some ⟨vb, 0, none⟩) 1 1] h fun v h' => ∃ b', v = .slice b' (l.length + 1) (l.length + 1) ∧ PB h' b' (l.take i ++ (p, 0) :: l.drop i) ∧ Own h.n b' := by
 have hxy : intsC [.int .i64 (p : Nat), .int .i64 (0 : Nat)] := pbc_ints [(p, 0)]
 rcases Nat.lt_or_ge i l.length with hlt | hge
 ·
  cases k with
  | nil => simp at hlt
  | @row b _ h0 g =>
  have hc := pbc_len l
  have ints := pbc_ints l
  have e1 : (pbc l).take (i * 2) ++ ([Value.int .i64 (p : Nat), Value.int .i64 (0 : Nat)] ++ (pbc l).drop (i * 2)) = pbc (l.take i ++ (p, 0) :: l.drop i) := by
   rw [pbc_take, pbc_drop, pbc_append, pbc_cons]; rfl
  have vlt := AHeap.lt hv
  have hne' : vb ≠ b := hne b (by simp [blk])
  refine (CallS.room (P := Try.prog) noGlobals [b, vb] (by simp) g (sz := 2) (by rfl) hc (by omega) (by omega) (by omega) (cs := (pbc l).take (i * 2) ++ ([Value.int .i64 (p : Nat), Value.int .i64 (0 : Nat)] ++ (pbc l).drop (i * 2))) ((ints.take _).append (hxy.append (ints.drop _))).flat (fun j hj o ho => ?_) (fun x hx => ?_) (len := l.length + 1) (fun H hHn hHb hH => ?_) (fun H zs hzs hHn hHb hH => ?_)).mono ?_
  ·
   simp only [List.mem_cons, List.not_mem_nil, or_false] at hj
   rcases hj with rfl | rfl
   · rw [g] at ho; cases ho; exact ints.low _
   · rw [hv] at ho; cases ho; exact hxy.low _
  ·
   simp only [List.mem_cons, List.not_mem_nil, or_false] at hx
   rcases hx with rfl | rfl
   · rfl
   · simpa [lowV, Nat.blt_eq] using vlt
  · exact CallD.of_run (ins0 h.n l.length i vb _ _ _ hc hlt (by omega) ints hxy h.n H hHb (by rw [hH vb (by simp) hne' vlt]; exact hv) (by omega))
  · exact ins1 h.n l.length i vb _ zs _ _ hc hzs hlt (by omega) ints hxy h.n H hHb (by rw [hH vb (by simp) hne' vlt]; exact hv) (by omega) (Nat.le_refl _)
  ·
   rintro v h' ⟨rfl, g', n'⟩
   rw [e1] at g'
   exact ⟨_, rfl, .row (by simp) g', Own.mk (Nat.le_refl _)⟩
 ·
  obtain rfl : i = l.length := by omega
  have rv := k.rv
  have vlt := AHeap.lt hv
  have rvv : Rv Try.prog h 2 (some ⟨vb, 0, none⟩) 1 1 [.int .i64 (p : Nat), .int .i64 (0 : Nat)] := .mk (.inl ⟨_, hv, by rfl⟩) (by simp) (Nat.le_refl _) rfl
  (refine CallS.of3 Try.func34 rfl Try.ntmps34 Try.results34 rfl ?_)
  (refine Go.run (g:=?_))
  refine GoR.sliceV (lo' := some (.int .i64 (l.length : Nat))) (hi' := none) (l := l.length) (r := l.length) rfl rfl rfl rfl rfl rfl rfl rv (by simp [bnd]) rfl (by omega) (by omega) ?_
  (refine Go.run (g:=?_))
  cases k with
  | nil =>
   obtain ⟨rd, hap⟩ := aAppend_nl (t := 41) (t₂ := 41) rvv (by omega) (by omega) (by omega)
   refine GoR.append rfl rfl rfl rfl rfl rfl hap (fun i hi => by cases hi) ?_
   (refine Go.run (g:=?_))
   (first|refine Go.finA rfl ?_|refine Go.finB rfl (hq:=?_))
   exact ⟨_, rfl, .row (by simp) (AHeap.get_push_same h _), Own.mk (Nat.le_refl _)⟩
  | @row b _ h0 g =>
   obtain ⟨rd, hap⟩ := aAppend_wh (t := 41) (t₂ := 41) g (pbc_len l) rvv (by omega) (by omega) (by omega) hxy.one
   refine GoR.append rfl rfl rfl rfl rfl rfl hap (fun i hi => .inl hi) ?_
   refine GoR.name ?_
   intro H1 e1
   have g1 : H1.get h.n = some (.cells (pbc (l.take l.length ++ (p, 0) :: l.drop l.length)) 53) := by
    rw [List.take_length, List.drop_length, pbc_append]
    rw [e1]; exact AHeap.get_push_same (h.put b none) _
   clear e1 hap
   (refine Go.run (g:=?_))
   (first|refine Go.finA rfl ?_|refine Go.finB rfl (hq:=?_))
   exact ⟨_, rfl, .row (by simp) g1, Own.mk (Nat.le_refl _)⟩
end Go.Proofs.Ytfdglljlenkkbaa
namespace Go.Proofs.Ytfdglljlenkkbaa
set_option maxRecDepth 100000
attribute [local irreducible] Go GoR GoL
theorem pbc_get : ∀ {l : List (Nat × Nat)} {i : Nat} (hi : i < l.length), ((pbc l).drop (i * 2)).take 2 = [.int .i64 (l[i].1 : Nat), .int .i64 (l[i].2 : Nat)]
 | x :: l, 0, _ => rfl
 | x :: l, i + 1, hi => by
  have := pbc_get (l := l) (i := i) (by simpa using hi)
  rw [show (i + 1) * 2 = i * 2 + 1 + 1 by omega]
  exact this
theorem pbc_get2 {l : List (Nat × Nat)} {i : Nat} (hi : i < l.length) : (pbc l)[i * 2 + 1]? = some (.int .i64 (l[i].2 : Nat)) := by
 have h := congrArg (fun q : List Value => q[1]?) (pbc_get hi)
 simp only [List.getElem?_take, List.getElem?_drop] at h
 simpa using h
theorem pbc_set {l : List (Nat × Nat)} {i n : Nat} (hi : i < l.length) : setL (pbc l) (i * 2 + 1) [.int .i64 (n : Nat)] = pbc (l.set i (l[i].1, n)) := by
 induction l generalizing i with
 | nil => simp at hi
 | cons p l ih =>
  cases i with
  | zero => simp [setL, pbc_cons]
  | succ i =>
   have := ih (i := i) (by simpa using hi)
   rw [List.getElem_cons_succ, List.set_cons_succ, pbc_cons, pbc_cons, ← this]
   unfold setL
   rw [show (i + 1) * 2 + 1 = (i * 2 + 1) + 1 + 1 from by omega, List.take_succ_cons, List.take_succ_cons, show (i * 2 + 1) + 1 + 1 + ([Value.int .i64 (n : Nat)] : List Value).length = (i * 2 + 1 + ([Value.int .i64 (n : Nat)] : List Value).length) + 1 + 1 from by omega, List.drop_succ_cons, List.drop_succ_cons]
   simp
theorem sub64 (a b : Nat) (ha : a < 9223372036854775808) (hb : b < 9223372036854775808) : iBin .sub .i64 (a : Int) (b : Int) = some (.int .i64 ((a : Int) - (b : Int))) := by
 simp [iBin, IntKind.wrap_i64]; omega
set_option maxHeartbeats 16000000 in
theorem add1_spec (a b p : Nat) (ha : a < 9223372036854775808) (hp : p < 9223372036854775808) (h : AHeap) : CallS Try.prog [] 33 [.agg #[.int .i64 (a : Nat), .int .i64 (b : Nat)], .int .i64 p] h fun v h' => v = .int .i64 ((a : Int) - (p : Int)) ∧ Same h h' := by
 have hs := sub64 a p ha hp
 (refine CallS.of2 Try.func33 rfl Try.ntmps33 Try.results33 rfl ?_)
 (refine Go.run (g:=?_))
 (first|refine Go.finA rfl ?_|refine Go.finB rfl (hq:=?_))
 exact ⟨rfl, (Same.refl h).push _⟩
set_option maxHeartbeats 16000000 in
theorem bsf_spec (a : Option Addr) (l : List (Nat × Nat)) (p : Nat) (hp : p < 9223372036854775808) (hl : ∀ q ∈ l, q.1 < 9223372036854775808) (hn : l.length ≤ 99999) (h : AHeap) (k : PB h a l) : CallS Try.prog [] 32 [.slice a l.length l.length, .int .i64 p, .func (.func 33) #[] #[]] h fun v h' => ∃ (i : Nat) (b : Bool), v = .tuple #[.int .i64 i, .bool b] ∧ i ≤ l.length ∧ (b = true → ∃ q : i < l.length, l[i].1 = p) ∧ Same h h' := by
 have rv := k.rv
 (refine CallS.of3 Try.func32 rfl Try.ntmps32 Try.results32 rfl ?_)
 (refine Go.run (g:=?_))
 refine Go.loop (α := Nat × Nat × AHeap) (fun x => [(9, .int .i64 x.1), (10, .int .i64 x.2.1), (8, .int .i64 l.length), (0, .slice a l.length l.length), (1, .int .i64 p), (2, .func (.func 33) #[] #[])]) (fun _ => []) (fun x => x.2.2) (fun x => x.1 ≤ x.2.1 ∧ x.2.1 ≤ l.length ∧ Same h x.2.2) (fun x => x.2.1 - x.1) (0, l.length, h) ⟨Nat.zero_le _, Nat.le_refl _, .refl h⟩ ⟨rfl, rfl, rfl, rfl, rfl, rfl, trivial⟩ rfl rfl ?_
 rintro ⟨i, j, H⟩ ⟨hij, hj, sH⟩
 simp only at hij hj sH ⊢
 have rvH := rv.same sH
 rcases Nat.lt_or_ge i j with lt | ge
 ·
  have q1 : (i + j) / 2 < l.length := by omega
  have hg := pbc_get q1
  have hb2 : (i + j) / 2 * 2 + 2 ≤ (pbc l).length := by rw [pbc_len]; omega
  have hb3 : (i + j) / 2 * 2 < (pbc l).length := by rw [pbc_len]; omega
  have ha := hl l[(i + j) / 2] (List.getElem_mem q1)
  generalize l[(i + j) / 2] = e at hg ha
  obtain ⟨a1, a2⟩ := e
  simp only at hg ha
  (refine Go.run (g:=?_))
  refine GoR.call rfl rfl rfl rfl rfl rfl rfl (((add1_spec a1 a2 p ha hp _).argA).mono ?_)
  rintro _ h2 ⟨rfl, s2⟩ -
  have m2 := s2.1
  rcases Nat.lt_or_ge a1 p with c1 | c1
  ·
   (refine Go.run (g:=?_))
   exact Go.again ((i + j) / 2 + 1, j, h2) ⟨by simp only; omega, hj, sH.trans s2⟩ (by simp only; omega) ⟨rfl, rfl, rfl, rfl, rfl, rfl, trivial⟩ rfl rfl
  ·
   (refine Go.run (g:=?_))
   exact Go.again (i, (i + j) / 2, h2) ⟨by simp only; omega, by simp only; omega, sH.trans s2⟩ (by simp only; omega) ⟨rfl, rfl, rfl, rfl, rfl, rfl, trivial⟩ rfl rfl
 ·
  have hie : i = j := by omega
  subst hie
  rcases Nat.lt_or_ge i l.length with q1 | q1
  ·
   have hg := pbc_get q1
   have hb2 : i * 2 + 2 ≤ (pbc l).length := by rw [pbc_len]; omega
   have hb3 : i * 2 < (pbc l).length := by rw [pbc_len]; omega
   have ha := hl l[i] (List.getElem_mem q1)
   obtain ⟨e, he⟩ : ∃ e, e = l[i] := ⟨_, rfl⟩
   rw [← he] at hg ha
   obtain ⟨a1, a2⟩ := e
   simp only at hg ha
   (refine Go.run (g:=?_))
   refine GoR.call rfl rfl rfl rfl rfl rfl rfl (((add1_spec a1 a2 p ha hp _).argA).mono ?_)
   rintro _ h2 ⟨rfl, s2⟩ -
   by_cases c1 : a1 = p
   ·
    (refine Go.run (g:=?_))
    (first|refine Go.finA rfl ?_|refine Go.finB rfl (hq:=?_))
    rw [decide_eq_true (show ((a1 : Int) - (p : Int) = 0) from by omega)]
    exact ⟨i, true, rfl, hj, fun _ => ⟨q1, by rw [← he]; exact c1⟩, sH.trans s2⟩
   ·
    (refine Go.run (g:=?_))
    (first|refine Go.finA rfl ?_|refine Go.finB rfl (hq:=?_))
    rw [decide_eq_false (show ¬ ((a1 : Int) - (p : Int) = 0) from by omega)]
    exact ⟨i, false, rfl, hj, (fun e => by cases e), sH.trans s2⟩
  ·
   (refine Go.run (g:=?_))
   (first|refine Go.finA rfl ?_|refine Go.finB rfl (hq:=?_))
   exact ⟨i, false, rfl, hj, (fun e => by cases e), sH⟩
def AddR (l : List (Nat × Nat)) (p n : Nat) (l' : List (Nat × Nat)) : Prop := ∃ i, (∃ q : i < l.length, l[i].1 = p ∧ l' = l.set i (p, l[i].2 + n)) ∨ (i ≤ l.length ∧ l' = l.take i ++ (p, n) :: l.drop i)
section
variable {h : AHeap} {o : Oper} {ov : Ov} {W : Nat → Prop} {q : Bool} {N : Nat} {ops : Array Oper} {os : List Oper} {k : List It} {df : List Nat} {Q : PQ} {d : Nat}
theorem GoR.storePB {t : TypeId} {x y : Operand} {a : Option Addr} {l : List (Nat × Nat)} {i n : Nat} (ho : o.op = .store t x y) (hd : o.dst = none) (hgd : o.guard = none) (hx : evO ov x = some (ptA a (i * 2 + 1))) (hy : evO ov y = some (.int .i64 (n : Nat))) [hs : SZ Try.prog t 1] (kk : PB h a l) (hq : i < l.length) (hw : ∀ j ∈ blk a, W j)
  (g : ∀ h', PB h' a (l.set i (l[i].1, n)) → Keeps (blk a) h h' → h'.n = h.n → GoR Try.prog W q N ops true os k ov df h' Q) : GoR Try.prog W q N ops true (o :: os) k ov df h Q := by
 cases kk with
 | nil => simp at hq
 | @row b _ h0 gb =>
  have hx' : evO ov x = some (.pointer (some ⟨b, 0 + (i * 2 + 1), none⟩)) := hx
  have hb3 : i * 2 + 1 < (pbc l).length := by rw [pbc_len]; omega
  refine GoR.store ho hd hgd hx' hy gb (l := [.int .i64 (n : Nat)]) rfl rfl (by simp; omega) rfl rfl (hw b (by simp [blk])) (g _ ?_ ⟨Nat.le_refl _, fun i _ hn => AHeap.get_put_ne _ _ fun e => hn (by simp [blk, e])⟩ rfl)
  refine .row (fun e => by have := congrArg List.length e; simp at this; exact h0 this) ?_
  rw [← pbc_set hq, get_put_self gb, Nat.zero_add]
end
set_option maxHeartbeats 16000000 in
theorem add_spec (a : Option Addr) (l : List (Nat × Nat)) (p n : Nat) (hp : p < 9223372036854775808) (hl : ∀ q ∈ l, q.1 < 9223372036854775808 ∧ q.2 < 4611686018427387904) (hnn : n < 4611686018427387904) (hn : l.length ≤ 99998) (h : AHeap) (k : PB h a l) : CallS Try.prog (blk a) 25 [.slice a l.length l.length, .int .i64 p, .int .i64 n] h fun v h' => ∃ b l', v = .slice b l'.length l'.length ∧ PB h' b l' ∧ AddR l p n l' ∧ (∀ j ∈ blk b, j ∈ blk a ∨ h.n ≤ j) := by
 have hbl := k.lt
 (refine CallS.of3 Try.func25 rfl Try.ntmps25 Try.results25 rfl ?_)
 (refine Go.run (g:=?_))
 refine GoR.call rfl rfl rfl rfl rfl rfl rfl (((bsf_spec a l p hp (fun q hq => (hl q hq).1) (by omega) _ k).argA).mono ?_)
 rintro _ h2 ⟨i, b, rfl, hi, hb, s2⟩ -
 have k2 := k.same s2
 have m2 := s2.1
 cases b with
 | true =>
  obtain ⟨q, hq⟩ := hb rfl
  have rv2 := k2.rv
  have sv2 := k2.sv
  have g1 := pbc_get2 q
  have hb3 : i * 2 + 1 < (pbc l).length := by rw [pbc_len]; omega
  have hb4 : i * 2 < (pbc l).length := by omega
  have hx := (hl l[i] (List.getElem_mem q)).2
  generalize hy : l[i].2 = y at g1 hx
  (refine Go.run (g:=?_))
  refine GoR.storePB (i := i) (n := y + n) rfl rfl rfl rfl rfl k2 q (fun j hj => .inl hj) ?_
  intro h3 pb3 k3 n3
  (refine Go.run (g:=?_))
  (first|refine Go.finA rfl ?_|refine Go.finB rfl (hq:=?_))
  refine ⟨a, _, ?_, pb3, ⟨i, .inl ⟨q, hq, by rw [hy, hq]⟩⟩, fun j hj => .inl hj⟩
  rw [List.length_set]; rfl
 | false =>
  (refine Go.run (g:=?_))
  refine GoR.buildSlice (c := [.int .i64 p, .int .i64 (0 : Nat)]) rfl rfl rfl rfl rfl (by decide) (by rfl) ?_
  refine GoR.name ?_
  intro h3 e3
  have s3 : Same h2 h3 := by rw [e3]; exact (Same.refl h2).push _
  have v3 : h3.get h2.n = some (.cells [.int .i64 (p : Nat), .int .i64 (0 : Nat)] 53) := by rw [e3]; exact AHeap.get_push_same h2 _
  have m3 := s3.1
  clear e3
  have k3 := k2.same s3
  refine GoR.callW rfl rfl rfl rfl rfl rfl rfl (((insert_spec a l i h2.n p _ k3 hi (by omega) v3 (fun j hj e => by have := hbl j hj; omega)).argA).mono ?_)
  rintro _ h4 ⟨b4, rfl, pb4, ob4⟩ k4
  refine ⟨fun j hj => .inl hj, ?_⟩
  have m4 := k4.1
  have hlen : (l.take i ++ (p, 0) :: l.drop i).length = l.length + 1 := by rw [List.length_append, List.length_take, List.length_cons, List.length_drop]; omega
  have q : i < (l.take i ++ (p, 0) :: l.drop i).length := by omega
  have hli : (l.take i ++ (p, 0) :: l.drop i)[i] = (p, 0) := by rw [List.getElem_append_right (by rw [List.length_take]; omega)]; simp [Nat.min_eq_left hi]
  have hset : (l.take i ++ (p, 0) :: l.drop i).set i (p, n) = l.take i ++ (p, n) :: l.drop i := by
   rw [List.set_append_right _ _ (by rw [List.length_take]; omega), List.length_take, Nat.min_eq_left hi, Nat.sub_self]; rfl
  have rv4 := pb4.rv
  have g1 := pbc_get2 q
  rw [hli] at g1
  simp only at g1
  have hb3 : i * 2 + 1 < (pbc (l.take i ++ (p, 0) :: l.drop i)).length := by rw [pbc_len]; omega
  have hb4 : i * 2 < (pbc (l.take i ++ (p, 0) :: l.drop i)).length := by omega
  rw [← hlen]
  generalize l.take i ++ (p, 0) :: l.drop i = L at *
  (refine Go.run (g:=?_))
  refine GoR.storePB (i := i) (n := 0 + n) rfl rfl rfl rfl rfl pb4 q (fun j hj => .inr (by have := ob4 j hj; omega)) ?_
  intro h5 pb5 k5 n5
  rw [hli, Nat.zero_add] at pb5
  simp only at pb5
  (refine Go.run (g:=?_))
  (first|refine Go.finA rfl ?_|refine Go.finB rfl (hq:=?_))
  refine ⟨b4, _, ?_, pb5, ⟨i, .inr ⟨hi, hset⟩⟩, fun j hj => .inr (by have := ob4 j hj; omega)⟩
  rw [List.length_set]; rfl
end Go.Proofs.Ytfdglljlenkkbaa
namespace Go.Proofs.Ytfdglljlenkkbaa
open Go.Sort
theorem Keeps.rf (wr : List Nat) (h : AHeap) : Keeps wr h h := ⟨Nat.le_refl _, fun _ _ _ => Eq.refl _⟩
theorem Keeps.tr {wr : List Nat} {a b c : AHeap} (h : Keeps wr a b) (k : Keeps wr b c) : Keeps wr a c := ⟨Nat.le_trans h.1 k.1, fun i hi hn => (k.2 i (by have := h.1; omega) hn).trans (h.2 i hi hn)⟩
theorem Keeps.pt {wr : List Nat} {h h' : AHeap} (k : Keeps wr h h') {b : Nat} (hb : b ∈ wr ∨ h.n ≤ b) (o : Option AObj) : Keeps wr h (h'.put b o) := ⟨k.1, fun i hi hn => by rw [AHeap.get_put_ne _ _ (fun e => by rcases hb with hb | hb; exact hn (by rw [← e]; exact hb); omega)]; exact k.2 i hi hn⟩
theorem Keeps.sm {wr : List Nat} {a b c : AHeap} (h : Keeps wr a b) (k : Same b c) : Keeps wr a c := ⟨Nat.le_trans h.1 k.1, fun i hi hn => (k.2 i (by have := h.1; omega)).trans (h.2 i hi hn)⟩
theorem Keeps.ofSame {wr : List Nat} {a b : AHeap} (k : Same a b) : Keeps wr a b := ⟨k.1, fun i hi _ => k.2 i hi⟩
theorem swp_size (d : Array Int) (i j : Nat) : (swp d i j).size = d.size := by simp [swp]
theorem scanUp_ge (p : Int → Bool) (d : Array Int) (j i : Nat) : i ≤ scanUp p d j i ∧ scanUp p d j i ≤ max i (j + 1) := by
 have key : ∀ n i, j + 1 - i ≤ n → i ≤ scanUp p d j i ∧ scanUp p d j i ≤ max i (j + 1) := by
  intro n
  induction n with
  | zero =>
   intro i h
   rw [scanUp, show decide (i ≤ j) = false from decide_eq_false (by omega), Bool.false_and, if_neg (by decide)]
   omega
  | succ n ih =>
   intro i h
   rw [scanUp]
   split
   ·
    rename_i hc
    have hij : i ≤ j := by simp only [Bool.and_eq_true, decide_eq_true_eq] at hc; exact hc.1
    have := ih (i + 1) (by omega)
    omega
   · omega
 exact key _ i (Nat.le_refl _)
theorem scanDown_le (p : Int → Bool) (d : Array Int) (i : Nat) : ∀ j, scanDown p d i j ≤ j ∧ (1 ≤ i → min j (i - 1) ≤ scanDown p d i j)
 | 0 => by rw [scanDown]; omega
 | j + 1 => by
  rw [scanDown]
  split
  ·
   rename_i hc
   have hij : i ≤ j + 1 := by simp only [Bool.and_eq_true, decide_eq_true_eq] at hc; exact hc.1
   have := scanDown_le p d i j
   omega
  · omega
theorem scanUp_stop {p : Int → Bool} {d : Array Int} {j i : Nat} (h : j < i ∨ p d[i]! = false) : scanUp p d j i = i := by
 rw [scanUp, if_neg]
 rcases h with h | h
 · simp; omega
 · simp [h]
theorem scanUp_more {p : Int → Bool} {d : Array Int} {j i : Nat} (h : i ≤ j) (hp : p d[i]! = true) : scanUp p d j i = scanUp p d j (i + 1) := by
 rw [scanUp, if_pos]
 simp [h, hp]
theorem scanDown_stop {p : Int → Bool} {d : Array Int} {j i : Nat} (h1 : 1 ≤ i) (h : j < i ∨ p d[j]! = false) : scanDown p d i j = j := by
 cases j with
 | zero => rw [scanDown]
 | succ j =>
  rw [scanDown, if_neg]
  rcases h with h | h
  · simp; omega
  · simp [h]
theorem scanDown_more {p : Int → Bool} {d : Array Int} {j i : Nat} (h1 : 1 ≤ i) (h : i ≤ j) (hp : p d[j]! = true) : scanDown p d i j = scanDown p d i (j - 1) := by
 cases j with
 | zero => omega
 | succ j => rw [scanDown, if_pos (by simp [h, hp])]; rfl
theorem scanSorted_stop {d : Array Int} {b i : Nat} (h : b ≤ i ∨ ltInt d[i]! d[i - 1]! = true) : scanSorted ltInt d b i = i := by
 rw [scanSorted, if_neg]
 rcases h with h | h
 · simp; omega
 · simp [h]
theorem scanSorted_more {d : Array Int} {b i : Nat} (h : i < b) (hp : ltInt d[i]! d[i - 1]! = false) : scanSorted ltInt d b i = scanSorted ltInt d b (i + 1) := by
 rw [scanSorted, if_pos]
 simp [h, hp]
theorem scanSorted_ge (d : Array Int) (b i : Nat) : i ≤ scanSorted ltInt d b i ∧ scanSorted ltInt d b i ≤ max i b := by
 have key : ∀ n i, b - i ≤ n → i ≤ scanSorted ltInt d b i ∧ scanSorted ltInt d b i ≤ max i b := by
  intro n
  induction n with
  | zero =>
   intro i h
   rw [scanSorted_stop (.inl (by omega))]
   omega
  | succ n ih =>
   intro i h
   rw [scanSorted]
   split
   ·
    rename_i hc
    have hij : i < b := by simp only [Bool.and_eq_true, decide_eq_true_eq] at hc; exact hc.1
    have := ih (i + 1) (by omega)
    omega
   · omega
 exact key _ i (Nat.le_refl _)
theorem shiftDown_stop {d : Array Int} {j : Nat} (h : j = 0 ∨ ltInt d[j]! d[j - 1]! = false) : shiftDown ltInt j d = d := by
 cases j with
 | zero => rfl
 | succ j =>
  rcases h with h | h
  · omega
  · rw [shiftDown, show ltInt d[j + 1]! d[j]! = false from h]; rfl
theorem shiftDown_more {d : Array Int} {j : Nat} (h0 : 0 < j) (h : ltInt d[j]! d[j - 1]! = true) : shiftDown ltInt j d = shiftDown ltInt (j - 1) (swp d j (j - 1)) := by
 cases j with
 | zero => omega
 | succ j => rw [shiftDown, show ltInt d[j + 1]! d[j]! = true from h]; rfl
theorem shiftUp_stop {d : Array Int} {b j : Nat} (h : b ≤ j ∨ ltInt d[j]! d[j - 1]! = false) : shiftUp ltInt b j d = d := by
 rw [shiftUp]
 split
 ·
  rename_i hj
  rcases h with h | h
  · omega
  · rw [h]; rfl
 · rfl
theorem shiftUp_more {d : Array Int} {b j : Nat} (h0 : j < b) (h : ltInt d[j]! d[j - 1]! = true) : shiftUp ltInt b j d = shiftUp ltInt b (j + 1) (swp d j (j - 1)) := by
 rw [shiftUp, if_pos h0, h]; rfl
end Go.Proofs.Ytfdglljlenkkbaa
namespace Go.Proofs.Ytfdglljlenkkbaa
set_option maxRecDepth 100000
attribute [local irreducible] Go GoR GoL
theorem GoL.yield {P : Program} {W : Nat → Prop} {q : Bool} {N : Nat} {k : List It} {ov : Ov} {df : List Nat} {h : AHeap} {Q : PQ} {ops : Array Oper} {os : List Oper} {tr : List (Option LE)} {o : Oper} {d : Nat} {f : Operand} {xs : Array Operand} {ts : Array TypeId} {l : Nat} {us : List Value} {wr : List Nat} (ho : o.op = .call ⟨.value f, xs, ts⟩) (hd : o.dst = some d) (hN : dOk d N = true) (hgd : o.guard = none) (hf : evO ov f = some (.func (.yield l) #[] #[])) (hx : evOs ov xs.toList = some us)
  (hk : YieldS P wr l us h fun c h' => Keeps wr h h' → (∀ i ∈ wr, W i) ∧ GoL P W q N ops (tr ++ [some ⟨h.n, h'.n, [], wr, true, false⟩]) os k ((d, .bool c) :: ov) df h' Q) : GoL P W q N ops tr (o :: os) k ov df h Q := by
 obtain ⟨c, h', hr, hg⟩ := hk
 have kp : Keeps wr h h' := ⟨hr.1.n, fun i hi hn => hr.1.get i hi hn⟩
 refine GoL.step (r := ⟨.bool c, h', [], wr, true, false⟩) (some ⟨h.n, h'.n, [], wr, true, false⟩) ⟨rfl, rfl, rfl, rfl, rfl, rfl⟩ hgd hd hN (fun tm hrp => ⟨(fun e => by cases e), fun D W' hall _ hw => ?_⟩) (hg kp).1 (hg kp).2
 rw [hall rfl]
 exact (hr.2 o tm f xs ts ho (evO_eq hrp hf) (evOs_eq hrp hx)).weak fun i hi => (hw i hi).2
structure FE where
 b : Nat
 tsn : Nat
 da : Option Addr
 dl : Nat
 dc : Nat
 path : Nat
 at_ : Nat
 st : Nat
 again : Bool
 missed : Nat
def FE.cs (e : FE) : List Value := [.int .u32 (e.tsn : Nat), .int .u8 (0 : Nat), .int .u16 (3 : Nat), .int .u16 (0 : Nat), .int .u32 (0 : Nat), .slice e.da e.dl e.dc, .int .i64 (e.path : Nat), .int .u64 (e.at_ : Nat), .int .i64 (e.st : Nat), .bool e.again, .int .i64 (e.missed : Nat)]
def ptrs (l : List FE) : List Value := l.map fun e => .pointer (some ⟨e.b, 0, none⟩)
theorem ptrs_len (l : List FE) : (ptrs l).length = l.length := by simp [ptrs]
theorem ptrs_get {l : List FE} {i : Nat} (q : i < l.length) : (ptrs l)[i]? = some (.pointer (some ⟨l[i].b, 0, none⟩)) := by simp [ptrs, q]
structure FlO (h : AHeap) (fb cum next : Nat) (ra : Option Addr) (rc : Nat) (l : List FE) (rec : Bool) (unt n0 : Nat) : Prop where
 fc : h.get fb = some (.cells [.int .u32 (cum : Nat), .int .u32 (next : Nat), .slice ra l.length rc, .bool rec, .int .u32 (unt : Nat)] 62)
 row : Sv h 64 1 ra l.length rc (ptrs l)
 ent : ∀ e ∈ l, h.get e.b = some (.cells e.cs 66)
 dat : ∀ e ∈ l, Sv h 5 1 e.da e.dl e.dc (List.replicate e.dl (.int .u8 0))
 nd : (l.map FE.b).Nodup
 own : n0 ≤ fb ∧ (∀ j ∈ blk ra, n0 ≤ j) ∧ ∀ e ∈ l, n0 ≤ e.b
def wrF (fb : Nat) (ra : Option Addr) (l : List FE) : List Nat := fb :: (blk ra ++ l.map FE.b)
def tyF (h : AHeap) (j : Nat) : Option TypeId := match h.get j with
 | some (.cells _ t) => some t
 | _ => none
theorem tyF_cells {h : AHeap} {j : Nat} {c : List Value} {t : TypeId} (g : h.get j = some (.cells c t)) : tyF h j = some t := by unfold tyF; rw [g]
theorem sv_tyF {h : AHeap} {t : TypeId} {sz : Nat} {a : Option Addr} {len cap : Nat} {cs : List Value} (k : Sv h t sz a len cap cs) : ∀ j ∈ blk a, tyF h j = some t := fun j hj => by
 cases k with
 | nil => cases hj
 | @mk b _ _ _ _ _ hg _ _ _ =>
  simp only [blk, List.mem_cons, List.not_mem_nil, or_false] at hj
  rw [hj]; exact tyF_cells hg
section
variable {h h' : AHeap} {fb cum next : Nat} {ra : Option Addr} {rc : Nat} {l : List FE} {rec : Bool} {unt n0 : Nat}
theorem FlO.same (F : FlO h fb cum next ra rc l rec unt n0) (s : Same h h') : FlO h' fb cum next ra rc l rec unt n0 := ⟨s.get F.fc, F.row.same s, fun e he => s.get (F.ent e he), fun e he => (F.dat e he).same s, F.nd, F.own⟩
theorem FlO.keeps (F : FlO h fb cum next ra rc l rec unt n0) {wr : List Nat} (k : Keeps wr h h') (hw : ∀ j ∈ wr, tyF h j ∉ ([some 62, some 64, some 66, some 5] : List (Option TypeId))) : FlO h' fb cum next ra rc l rec unt n0 := by
 have nt : ∀ {j : Nat} {t : TypeId}, tyF h j = some t → (some t : Option TypeId) ∈ ([some 62, some 64, some 66, some 5] : List (Option TypeId)) → j ∉ wr := fun {j t} e m hm => hw j hm (by rw [e]; exact m)
 exact ⟨k.get F.fc (nt (tyF_cells F.fc) (by simp)), F.row.keeps k (fun i hi => nt (sv_tyF F.row i hi) (by simp)), fun e he => k.get (F.ent e he) (nt (tyF_cells (F.ent e he)) (by simp)), fun e he => (F.dat e he).keeps k (fun i hi => nt (sv_tyF (F.dat e he) i hi) (by simp)), F.nd, F.own⟩
theorem FlO.lt (F : FlO h fb cum next ra rc l rec unt n0) : ∀ j ∈ wrF fb ra l, j < h.n := fun j hj => by
 unfold wrF at hj
 rcases List.mem_cons.1 hj with rfl | hj
 · exact AHeap.lt F.fc
 ·
  rcases List.mem_append.1 hj with hj | hj
  · exact F.row.lt j hj
  ·
   obtain ⟨e, he, rfl⟩ := List.mem_map.1 hj
   exact AHeap.lt (F.ent e he)
end
theorem aEq_nilF {P : Program} {h : AHeap} {t e : TypeId} (hu : P.underlying t = some (.pointer e)) (a : Addr) : aEq P h t (.pointer (some a)) (.pointer none) = some (false, []) := by
 unfold aEq
 rw [hu]
theorem flU : Try.prog.underlying 26 = some (.pointer 62) := by kernel_rfl
structure InC (h : AHeap) (pb sb fb st : Nat) : Prop where
 p : h.get pb = some (.cells [.pointer (some ⟨fb, 0, none⟩)] 26)
 s : h.get sb = some (.cells [.int .i64 (st : Nat)] 3)
theorem InC.same {h h' : AHeap} {pb sb fb st : Nat} (k : InC h pb sb fb st) (s : Same h h') : InC h' pb sb fb st := ⟨s.get k.p, s.get k.s⟩
theorem InC.keeps {h h' : AHeap} {pb sb fb st : Nat} (k : InC h pb sb fb st) {wr : List Nat} (kk : Keeps wr h h') (h1 : pb ∉ wr) (h2 : sb ∉ wr) : InC h' pb sb fb st := ⟨kk.get k.p h1, kk.get k.s h2⟩
abbrev inV (pb sb : Nat) : Value := .func (.func 38) #[] #[.pointer (some ⟨pb, 0, none⟩), .pointer (some ⟨sb, 0, none⟩)]
theorem in_spec (fb st : Nat) (h : AHeap) : CallS Try.prog [] 29 [.pointer (some ⟨fb, 0, none⟩), .int .i64 (st : Nat)] h fun v h' => v = inV h.n (h.n + 1) ∧ InC h' h.n (h.n + 1) fb st ∧ h'.n = h.n + 2 := by
 (refine CallS.of2 Try.func29 rfl Try.ntmps29 Try.results29 rfl ?_)
 (refine Go.run (g:=?_))
 (first|refine Go.finA rfl ?_|refine Go.finB rfl (hq:=?_))
 exact ⟨rfl, ⟨get_push_lt (AHeap.get_push_same h _), AHeap.get_push_same (h.push _) _⟩, rfl⟩
structure YF (lb : Nat) (wr : List Nat) (pb sb fb st : Nat) (ra : Option Addr) (rc : Nat) (l : List FE) (inv stop : Nat → AHeap → Prop) : Prop where
 same : ∀ i h h', inv i h → Same h h' → inv i h'
 low : ∀ i h, inv i h → ∀ b ∈ lb :: wr, b < h.n
 row : ∀ i h, inv i h → Rv Try.prog h 1 ra l.length rc (ptrs l)
 ent : ∀ i h, inv i h → ∀ q : i < l.length, h.get l[i].b = some (.cells l[i].cs 66)
 box : ∀ i h, inv i h → InC h pb sb fb st
 skip : ∀ i h, inv i h → ∀ q : i < l.length, l[i].st ≠ st → inv (i + 1) h
 item : ∀ i h, inv i h → ∀ q : i < l.length, l[i].st = st → YieldS Try.prog (lb :: wr) lb [.pointer (some ⟨l[i].b, 0, none⟩)] h fun c h' => (c = true → inv (i + 1) h') ∧ (c = false → stop (i + 1) h')
set_option maxHeartbeats 16000000 in
theorem in1_spec {lb : Nat} {wr : List Nat} {pb sb fb st cum next : Nat} {ra : Option Addr} {rc : Nat} {l : List FE} {rec : Bool} {unt : Nat} {inv stop : Nat → AHeap → Prop} (hl : l.length ≤ 1000000) (Y : YF lb wr pb sb fb st ra rc l inv stop) (h : AHeap) (hi0 : inv 0 h) (fc : h.get fb = some (.cells [.int .u32 (cum : Nat), .int .u32 (next : Nat), .slice ra l.length rc, .bool rec, .int .u32 (unt : Nat)] 62)) :
  CallS Try.prog (lb :: wr) 38 [.func (.yield lb) #[] #[], .pointer (some ⟨pb, 0, none⟩), .pointer (some ⟨sb, 0, none⟩)] h fun v h' => inv l.length h' ∨ ∃ i, stop i h' := by
 have bx := Y.box _ _ hi0
 have bp := bx.p
 have bs := bx.s
 have lo := Y.low _ _ hi0
 (refine CallS.of3 Try.func38 rfl Try.ntmps38 Try.results38 rfl ?_)
 (refine Go.run (g:=?_))
 refine GoR.eqRef rfl rfl rfl rfl (.inl rfl) rfl rfl (aEq_nilF flU _) ?_
 (refine Go.run (g:=?_))
 refine Go.loop (α := Nat × AHeap) (fun x => [(13, .int .i64 x.1), (12, .int .i64 l.length), (11, .slice ra l.length rc), (0, .func (.yield lb) #[] #[]), (2, .pointer (some ⟨sb, 0, none⟩))]) (fun _ => []) (fun x => x.2) (fun x => x.1 ≤ l.length ∧ inv x.1 x.2 ∧ h.n ≤ x.2.n) (fun x => l.length - x.1) (0, h) ⟨Nat.zero_le _, hi0, Nat.le_refl _⟩ ⟨rfl, rfl, rfl, rfl, rfl, trivial⟩ rfl rfl ?_
 clear bx bp bs hi0 fc
 rintro ⟨i, H⟩ ⟨hi, hI, hn⟩
 simp only at hi hI hn ⊢
 rcases Nat.lt_or_ge i l.length with i0 | i0
 ·
  have rv := Y.row _ _ hI
  have en := Y.ent _ _ hI i0
  have bs := (Y.box _ _ hI).s
  have gp := ptrs_get i0
  have hlen := ptrs_len l
  have hib : i < (ptrs l).length := by rw [hlen]; exact i0
  have hit := Y.item _ _ hI i0
  have hsk := Y.skip _ _ hI i0
  generalize l[i] = e at *
  unfold FE.cs at en
  by_cases hst : e.st = st
  ·
   subst hst
   refine Go.runN (g:=?_)
   refine Go.loud (by kernel_rfl) rfl ?_
   (refine Go.runL (g:=?_))
   refine GoL.yield rfl rfl rfl rfl rfl rfl ((hit rfl).mono ?_)
   rintro cc h9 ⟨ht, hf⟩ k9
   have m9 := k9.1
   refine ⟨fun b hb => .inl hb, ?_⟩
   cases cc
   ·
    (refine Go.runL (g:=?_))
    refine GoL.endN (g:=?_)
    (refine Go.run (g:=?_))
    (first|refine Go.finA rfl ?_|refine Go.finB rfl (hq:=?_))
    exact .inr ⟨_, hf rfl⟩
   ·
    have hi9 := ht rfl
    (refine Go.runL (g:=?_))
    refine GoL.endN (g:=?_)
    (refine Go.run (g:=?_))
    exact Go.again (i + 1, h9) ⟨i0, hi9, by simp only; omega⟩ (by simp only; omega) ⟨rfl, rfl, rfl, rfl, rfl, trivial⟩ rfl rfl
  ·
   (refine Go.run (g:=?_))
   exact Go.again (i + 1, H) ⟨i0, hsk hst, hn⟩ (by simp only; omega) ⟨rfl, rfl, rfl, rfl, rfl, trivial⟩ rfl rfl
 ·
  (refine Go.run (g:=?_))
  (first|refine Go.finA rfl ?_|refine Go.finB rfl (hq:=?_))
  have : i = l.length := by omega
  subst this
  exact .inl hI
end Go.Proofs.Ytfdglljlenkkbaa
namespace Go.Proofs.Ytfdglljlenkkbaa
set_option maxRecDepth 100000
attribute [local irreducible] Go GoR GoL
theorem takeAll_one {h : AHeap} {d : Nat} (g : h.get d = some (.deferred true)) : takeAll h [d] = some (h.put d (some (.deferred false))) := by simp [takeAll, g]
def outE (p : Nat) (e : FE) : Nat := if e.st = 0 ∧ e.path = p then e.dl else 0
def totE (e : FE) : Nat := if e.st = 0 then e.dl else 0
def sumL (f : FE → Nat) : List FE → Nat
 | [] => 0
 | e :: l => f e + sumL f l
theorem sumL_append (f : FE → Nat) (l k : List FE) : sumL f (l ++ k) = sumL f l + sumL f k := by
 induction l with
 | nil => simp [sumL]
 | cons e l ih => simp only [List.cons_append, sumL, ih]; omega
theorem sumL_take (f : FE → Nat) {l : List FE} {i : Nat} (q : i < l.length) : sumL f (l.take (i + 1)) = sumL f (l.take i) + f l[i] := by
 rw [show l.take (i + 1) = l.take i ++ [l[i]] from by simp, sumL_append]; simp [sumL]
theorem sumL_le {f : FE → Nat} {l : List FE} {B : Nat} (h : ∀ e ∈ l, f e ≤ B) : sumL f l ≤ B * l.length := by
 induction l with
 | nil => simp [sumL]
 | cons e l ih =>
  have h1 := h e (List.mem_cons_self ..)
  have h2 := ih (fun e he => h e (List.mem_cons_of_mem _ he))
  simp only [sumL, List.length_cons, Nat.mul_add, Nat.mul_one]; omega
structure OI (tm : List Value) (ps : Array Tmp) (asg bo : Code) (lb d pb sb nb qb fb cum next : Nat) (ra : Option Addr) (rc : Nat) (l : List FE) (rec : Bool) (unt n0 st p : Nat) (f : FE → Nat) (i : Nat) (h : AHeap) : Prop where
 loop : h.get lb = some (.loop .ready none tm ps asg bo d)
 mark : h.get d = some (.deferred true)
 nc : h.get nb = some (.cells [.int .i64 (sumL f (l.take i) : Nat)] 3)
 qc : h.get qb = some (.cells [.int .i64 (p : Nat)] 3)
 F : FlO h fb cum next ra rc l rec unt n0
 I : InC h pb sb fb st
 n : lb + 1 ≤ h.n
theorem FlO.keepsL {h h' : AHeap} {fb cum next : Nat} {ra : Option Addr} {rc : Nat} {l : List FE} {rec : Bool} {unt n0 : Nat} (F : FlO h fb cum next ra rc l rec unt n0) {b : Nat} (k : Keeps [b] h h') {o : AObj} (g : h.get b = some o) (ho : ∀ c t, o = .cells c t → (some t : Option TypeId) ∉ ([some 62, some 64, some 66, some 5] : List (Option TypeId))) : FlO h' fb cum next ra rc l rec unt n0 :=
 F.keeps k fun j hj => by
  rw [List.mem_singleton.1 hj]
  unfold tyF
  rw [g]
  cases o with
  | cells c t => exact ho c t rfl
  | _ => simp
theorem OI.of {h : AHeap} {tm : List Value} {ps : Array Tmp} {asg bo : Code} {lb d pb sb nb qb fb cum next : Nat} {ra : Option Addr} {rc : Nat} {l : List FE} {rec : Bool} {unt n0 st p : Nat} {f : FE → Nat} {i : Nat} {s0 : LoopState} {p0 : Option Code} (hl : h.get lb = some (.loop s0 p0 tm ps asg bo d)) (ne : d ≠ lb ∧ pb ≠ lb ∧ sb ≠ lb ∧ nb ≠ lb ∧ qb ≠ lb) (mark : h.get d = some (.deferred true))
  (nc : h.get nb = some (.cells [.int .i64 (sumL f (l.take i) : Nat)] 3)) (qc : h.get qb = some (.cells [.int .i64 (p : Nat)] 3)) (F : FlO h fb cum next ra rc l rec unt n0) (I : InC h pb sb fb st) (n : lb + 1 ≤ h.n) : OI tm ps asg bo lb d pb sb nb qb fb cum next ra rc l rec unt n0 st p f i (h.put lb (some (.loop .ready none tm ps asg bo d))) := by
 obtain ⟨n1, n2, n3, n4, n5⟩ := ne
 have kk : Keeps [lb] h (h.put lb (some (.loop .ready none tm ps asg bo d))) := (Keeps.rf _ _).pt (.inl (by simp)) _
 exact ⟨get_put_self hl, kk.get mark (by simpa using n1), kk.get nc (by simpa using n4), kk.get qc (by simpa using n5), F.keepsL kk hl (fun c t e => by cases e), I.keeps kk (by simpa using n2) (by simpa using n3), n⟩
set_option maxHeartbeats 16000000 in
theorem out_spec (fb cum next : Nat) (ra : Option Addr) (rc : Nat) (l : List FE) (rec : Bool) (unt n0 p : Nat) (hl : l.length ≤ 1000000) (hd : ∀ e ∈ l, e.dl ≤ 255) (h : AHeap) (F : FlO h fb cum next ra rc l rec unt n0) : CallS Try.prog [] 17 [.pointer (some ⟨fb, 0, none⟩), .int .i64 (p : Nat)] h fun v h' => v = .int .i64 (sumL (outE p) l : Nat) := by
 have hfl := F.lt
 have hbnd : ∀ i, sumL (outE p) (l.take i) ≤ 255 * 1000000 := fun i => by
  have := sumL_le (f := outE p) (l := l.take i) (B := 255) (fun e he => by
   have := hd e (List.mem_of_mem_take he)
   unfold outE; split <;> omega)
  have h2 : (l.take i).length ≤ 1000000 := by rw [List.length_take]; omega
  omega
 (refine CallS.of2 Try.func17 rfl Try.ntmps17 Try.results17 rfl ?_)
 (refine Go.run (g:=?_))
 refine GoR.name ?_
 intro h1 e1
 have s1 : Same h h1 := by subst e1; exact (((Same.refl h).push _).push _).put (by simp) _
 have n1 : h1.n = h.n + 2 := by subst e1; rfl
 have q1 : h1.get h.n = some (.cells [.int .i64 (p : Nat)] 3) := by subst e1; exact get_put_other (by simp) (get_push_lt (AHeap.get_push_same h _))
 have c1 : h1.get (h.n + 1) = some (.cells [.int .i64 (0 : Nat)] 3) := by subst e1; exact AHeap.get_put_same _ (by simp) _
 clear e1
 rw [show (h.push (AObj.cells [.int .i64 (p : Nat)] 3)).n = h.n + 1 from rfl]
 refine GoR.call rfl rfl rfl rfl rfl rfl rfl (((in_spec fb 0 _).argA).mono ?_)
 rintro _ h2 ⟨rfl, I2, n2⟩ s2
 have q2 := s2.get q1
 have c2 := s2.get c1
 have F2 := (F.same s1).same s2
 clear c1 q1
 (refine Go.run (g:=?_))
 refine Go.rangeFunc' (wr := [h2.n + 1, h.n + 1, h2.n]) rfl (by rfl) (by kernel_rfl) ?_
 intro tm ps asg bo HH eps easg ebo eH hN hr
 have Hs : Same h2 HH := by subst eH; exact ((Same.refl h2).push _).push _
 have Hl : HH.get (h2.n + 1) = some (.loop .ready none tm ps asg bo h2.n) := by subst eH; exact AHeap.get_push_same (h2.push _) _
 have Hd : HH.get h2.n = some (.deferred true) := by subst eH; exact get_push_lt (AHeap.get_push_same _ _)
 have Hn : HH.n = h2.n + 2 := by subst eH; rfl
 clear eH
 have FH := F2.same Hs
 refine ((in1_spec (lb := h2.n + 1) (wr := [h.n + 1, h2.n]) (pb := h1.n) (sb := h1.n + 1) (fb := fb) (st := 0) (ra := ra) (rc := rc) (l := l) (inv := fun i H => OI tm ps asg bo (h2.n + 1) h2.n h1.n (h1.n + 1) (h.n + 1) h.n fb cum next ra rc l rec unt n0 0 p (outE p) i H) (stop := fun i H => False) hl ?Y HH ?i0 FH.fc).args rfl).mono ?_
 case i0 => exact ⟨Hl, Hd, Hs.get c2, Hs.get q2, FH, I2.same Hs, by omega⟩
 case Y =>
  refine ⟨?_, ?_, ?_, ?_, ?_, ?_, ?_⟩
  ·
   rintro i H H' I sm
   exact ⟨sm.get I.loop, sm.get I.mark, sm.get I.nc, sm.get I.qc, I.F.same sm, I.I.same sm, Nat.le_trans I.n sm.1⟩
  ·
   rintro i H I b hb
   have := I.n
   simp only [List.mem_cons, List.not_mem_nil, or_false] at hb
   omega
  ·
   rintro i H I
   exact I.F.row.rv
  ·
   rintro i H I q
   exact I.F.ent _ (List.getElem_mem q)
  ·
   rintro i H I
   exact I.I
  ·
   rintro i H I q hst
   refine ⟨I.loop, I.mark, ?_, I.qc, I.F, I.I, I.n⟩
   rw [sumL_take _ q]
   have : outE p l[i] = 0 := by unfold outE; rw [if_neg (fun e => hst e.1)]
   rw [this]; exact I.nc
  ·
   rintro i H I q hst
   have hIn := I.n
   refine YieldS.of' I.loop hN hr eps easg ebo rfl (by rfl) rfl (List.mem_cons_self ..) ?_
   (refine Go.run (g:=?_))
   refine Go.body I.loop ?_
   refine Go.name ?_
   intro h6 e6
   have k6 : Keeps [h2.n + 1] H h6 := by subst e6; exact (Keeps.rf _ _).pt (.inl (by simp)) _
   have n6 : h6.n = H.n := by subst e6; rfl
   have l6 : h6.get (h2.n + 1) = some (.loop .busy none tm ps asg bo h2.n) := by subst e6; exact get_put_self I.loop
   clear e6
   have ap : ∀ (wr : List Nat) (h₀ : AHeap), True := fun _ _ => trivial
   have nk : ∀ j ∈ [h2.n + 1], tyF H j ∉ ([some 62, some 64, some 66, some 5] : List (Option TypeId)) := by
    intro j hj
    simp only [List.mem_singleton] at hj
    subst hj
    have : tyF H (h2.n + 1) = none := by unfold tyF; rw [I.loop]
    rw [this]; simp
   have F6 := I.F.keeps k6 nk
   have nc6 := k6.get I.nc (by simp; omega)
   have qc6 := k6.get I.qc (by simp; omega)
   have md6 := k6.get I.mark (by simp)
   have I6 := I.I.keeps k6 (by simp; omega) (by simp; omega)
   have en6 := F6.ent _ (List.getElem_mem q)
   have hb1 := hbnd i
   have hdl := hd _ (List.getElem_mem q)
   have hst' := sumL_take (outE p) q
   generalize l[i] = e at *
   unfold FE.cs at en6
   by_cases hp : e.path = p
   ·
    have hv : outE p e = e.dl := by unfold outE; rw [if_pos ⟨hst, hp⟩]
    subst hp
    refine Go.runN (g:=?_)
    refine Go.kk 2 rfl ?_
    refine Go.drawnQ rfl (by kernel_rfl) rfl ?_
    refine Go.runN (g:=?_)
    refine Go.loud (by kernel_rfl) rfl ?_
    (refine Go.runL (g:=?_))
    refine GoL.store (off := 0) (n := 1) (v := .int .i64 (sumL (outE e.path) (l.take i) + e.dl : Nat)) (l := [.int .i64 (sumL (outE e.path) (l.take i) + e.dl : Nat)]) rfl rfl rfl rfl rfl nc6 rfl rfl (Nat.le_refl 1) rfl rfl (.inl (by simp)) ?_
    (refine Go.runL (g:=?_))
    refine GoL.endN (g:=?_)
    refine Go.name ?_
    intro h7 e7
    have k7 : Keeps [h.n + 1] h6 h7 := by subst e7; exact (Keeps.rf _ _).pt (.inl (by simp)) _
    have n7 : h7.n = h6.n := by subst e7; rfl
    have nc7 : h7.get (h.n + 1) = some (.cells [.int .i64 (sumL (outE e.path) (l.take i) + e.dl : Nat)] 3) := by subst e7; exact get_put_self nc6
    clear e7
    rw [← hv, ← hst'] at nc7
    (refine Go.run (g:=?_))
    refine Go.roundEnd rfl (k7.get l6 (by simp; omega)) ?_
    exact ⟨fun _ => OI.of (k7.get l6 (by simp; omega)) (by omega) (k7.get md6 (by simp; omega)) nc7 (k7.get qc6 (by simp)) (F6.keepsL k7 nc6 (fun c t e => by cases e; simp)) (I6.keeps k7 (by simp; omega) (by simp; omega)) (by omega), (fun e => by cases e)⟩
   ·
    have hv : outE p e = 0 := by unfold outE; rw [if_neg (fun q => hp q.2)]
    (refine Go.run (g:=?_))
    refine Go.roundEnd rfl l6 ?_
    rw [← Nat.add_zero (sumL (outE p) (l.take i)), ← hv, ← hst'] at nc6
    exact ⟨fun _ => OI.of l6 (by omega) md6 nc6 qc6 F6 I6 (by omega), (fun e => by cases e)⟩
 intro v H3 hres kp
 refine ⟨fun i hi => .inr (by simp only [List.mem_cons, List.not_mem_nil, or_false] at hi; omega), .inr (by omega), ?_⟩
 rcases hres with I | ⟨i, hbad⟩
 ·
  have hIn := I.n
  refine ⟨_, _, _, _, _, _, _, .normal, I.loop, by rfl, rfl, ?_⟩
  refine Go.name ?_
  intro h9 e9
  have k9 : Keeps [h2.n + 1] H3 h9 := by subst e9; exact (Keeps.rf _ _).pt (.inl (by simp)) _
  have n9 : h9.n = H3.n := by subst e9; rfl
  clear e9
  have c9 := k9.get I.nc (by simp; omega)
  have gd9 := k9.get I.mark (by simp)
  (refine Go.run (g:=?_))
  refine Go.fin_marks (.inr rfl) (by intro d hd; simp only [List.mem_singleton] at hd; omega) (takeAll_one gd9) (.tmp rfl .nil) ?_
  rw [List.take_length]; rfl
 · exact hbad.elim
set_option maxHeartbeats 16000000 in
theorem total_spec (fb cum next : Nat) (ra : Option Addr) (rc : Nat) (l : List FE) (rec : Bool) (unt n0 : Nat) (hl : l.length ≤ 1000000) (hd : ∀ e ∈ l, e.dl ≤ 255) (h : AHeap) (F : FlO h fb cum next ra rc l rec unt n0) : CallS Try.prog [] 16 [.pointer (some ⟨fb, 0, none⟩)] h fun v h' => v = .int .i64 (sumL totE l : Nat) := by
 have hfl := F.lt
 have hbnd : ∀ i, sumL totE (l.take i) ≤ 255 * 1000000 := fun i => by
  have := sumL_le (f := totE) (l := l.take i) (B := 255) (fun e he => by
   have := hd e (List.mem_of_mem_take he)
   unfold totE; split <;> omega)
  have h2 : (l.take i).length ≤ 1000000 := by rw [List.length_take]; omega
  omega
 (refine CallS.of1 Try.func16 rfl Try.ntmps16 Try.results16 rfl ?_)
 (refine Go.run (g:=?_))
 refine GoR.name ?_
 intro h1 e1
 have s1 : Same h h1 := by subst e1; exact ((Same.refl h).push _).put (Nat.le_refl _) _
 have n1 : h1.n = h.n + 1 := by subst e1; rfl
 have c1 : h1.get h.n = some (.cells [.int .i64 (0 : Nat)] 3) := by subst e1; exact AHeap.get_put_same _ (by simp) _
 clear e1
 refine GoR.call rfl rfl rfl rfl rfl rfl rfl (((in_spec fb 0 _).argA).mono ?_)
 rintro _ h2 ⟨rfl, I2, n2⟩ s2
 have c2 := s2.get c1
 have F2 := (F.same s1).same s2
 clear c1
 (refine Go.run (g:=?_))
 refine Go.rangeFunc' (wr := [h2.n + 1, h.n, h2.n]) rfl (by rfl) (by kernel_rfl) ?_
 intro tm ps asg bo HH eps easg ebo eH hN hr
 have Hs : Same h2 HH := by subst eH; exact ((Same.refl h2).push _).push _
 have Hl : HH.get (h2.n + 1) = some (.loop .ready none tm ps asg bo h2.n) := by subst eH; exact AHeap.get_push_same (h2.push _) _
 have Hd : HH.get h2.n = some (.deferred true) := by subst eH; exact get_push_lt (AHeap.get_push_same _ _)
 have Hn : HH.n = h2.n + 2 := by subst eH; rfl
 clear eH
 have FH := F2.same Hs
 refine ((in1_spec (lb := h2.n + 1) (wr := [h.n, h2.n]) (pb := h1.n) (sb := h1.n + 1) (fb := fb) (st := 0) (ra := ra) (rc := rc) (l := l) (inv := fun i H => OI tm ps asg bo (h2.n + 1) h2.n h1.n (h1.n + 1) h.n (h1.n + 1) fb cum next ra rc l rec unt n0 0 0 totE i H) (stop := fun i H => False) hl ?Y HH ?i0 FH.fc).args rfl).mono ?_
 case i0 => exact ⟨Hl, Hd, Hs.get c2, (I2.same Hs).s, FH, I2.same Hs, by omega⟩
 case Y =>
  refine ⟨?_, ?_, ?_, ?_, ?_, ?_, ?_⟩
  ·
   rintro i H H' I sm
   exact ⟨sm.get I.loop, sm.get I.mark, sm.get I.nc, sm.get I.qc, I.F.same sm, I.I.same sm, Nat.le_trans I.n sm.1⟩
  ·
   rintro i H I b hb
   have := I.n
   simp only [List.mem_cons, List.not_mem_nil, or_false] at hb
   omega
  ·
   rintro i H I
   exact I.F.row.rv
  ·
   rintro i H I q
   exact I.F.ent _ (List.getElem_mem q)
  ·
   rintro i H I
   exact I.I
  ·
   rintro i H I q hst
   refine ⟨I.loop, I.mark, ?_, I.qc, I.F, I.I, I.n⟩
   rw [sumL_take _ q]
   have : totE l[i] = 0 := by unfold totE; rw [if_neg hst]
   rw [this]; exact I.nc
  ·
   rintro i H I q hst
   have hIn := I.n
   refine YieldS.of' I.loop hN hr eps easg ebo rfl (by rfl) rfl (List.mem_cons_self ..) ?_
   (refine Go.run (g:=?_))
   refine Go.body I.loop ?_
   refine Go.name ?_
   intro h6 e6
   have k6 : Keeps [h2.n + 1] H h6 := by subst e6; exact (Keeps.rf _ _).pt (.inl (by simp)) _
   have n6 : h6.n = H.n := by subst e6; rfl
   have l6 : h6.get (h2.n + 1) = some (.loop .busy none tm ps asg bo h2.n) := by subst e6; exact get_put_self I.loop
   clear e6
   have ap : ∀ (wr : List Nat) (h₀ : AHeap), True := fun _ _ => trivial
   have nk : ∀ j ∈ [h2.n + 1], tyF H j ∉ ([some 62, some 64, some 66, some 5] : List (Option TypeId)) := by
    intro j hj
    simp only [List.mem_singleton] at hj
    subst hj
    have : tyF H (h2.n + 1) = none := by unfold tyF; rw [I.loop]
    rw [this]; simp
   have F6 := I.F.keeps k6 nk
   have nc6 := k6.get I.nc (by simp; omega)
   have qc6 := k6.get I.qc (by simp; omega)
   have md6 := k6.get I.mark (by simp)
   have I6 := I.I.keeps k6 (by simp; omega) (by simp; omega)
   have en6 := F6.ent _ (List.getElem_mem q)
   have hb1 := hbnd i
   have hdl := hd _ (List.getElem_mem q)
   have hst' := sumL_take totE q
   generalize l[i] = e at *
   unfold FE.cs at en6
   ·
    have hv : totE e = e.dl := by unfold totE; rw [if_pos hst]
    refine Go.runN (g:=?_)
    refine Go.loud (by kernel_rfl) rfl ?_
    (refine Go.runL (g:=?_))
    refine GoL.store (off := 0) (n := 1) (v := .int .i64 (sumL totE (l.take i) + e.dl : Nat)) (l := [.int .i64 (sumL totE (l.take i) + e.dl : Nat)]) rfl rfl rfl rfl rfl nc6 rfl rfl (Nat.le_refl 1) rfl rfl (.inl (by simp)) ?_
    (refine Go.runL (g:=?_))
    refine GoL.endN (g:=?_)
    refine Go.name ?_
    intro h7 e7
    have k7 : Keeps [h.n] h6 h7 := by subst e7; exact (Keeps.rf _ _).pt (.inl (by simp)) _
    have n7 : h7.n = h6.n := by subst e7; rfl
    have nc7 : h7.get h.n = some (.cells [.int .i64 (sumL totE (l.take i) + e.dl : Nat)] 3) := by subst e7; exact get_put_self nc6
    clear e7
    rw [← hv, ← hst'] at nc7
    (refine Go.run (g:=?_))
    refine Go.roundEnd rfl (k7.get l6 (by simp; omega)) ?_
    exact ⟨fun _ => OI.of (k7.get l6 (by simp; omega)) (by omega) (k7.get md6 (by simp; omega)) nc7 (k7.get qc6 (by simp; omega)) (F6.keepsL k7 nc6 (fun c t e => by cases e; simp)) (I6.keeps k7 (by simp; omega) (by simp; omega)) (by omega), (fun e => by cases e)⟩
 intro v H3 hres kp
 refine ⟨fun i hi => .inr (by simp only [List.mem_cons, List.not_mem_nil, or_false] at hi; omega), .inr (by omega), ?_⟩
 rcases hres with I | ⟨i, hbad⟩
 ·
  have hIn := I.n
  refine ⟨_, _, _, _, _, _, _, .normal, I.loop, by rfl, rfl, ?_⟩
  refine Go.name ?_
  intro h9 e9
  have k9 : Keeps [h2.n + 1] H3 h9 := by subst e9; exact (Keeps.rf _ _).pt (.inl (by simp)) _
  have n9 : h9.n = H3.n := by subst e9; rfl
  clear e9
  have c9 := k9.get I.nc (by simp; omega)
  have gd9 := k9.get I.mark (by simp)
  (refine Go.run (g:=?_))
  refine Go.fin_marks (.inr rfl) (by intro d hd; simp only [List.mem_singleton] at hd; omega) (takeAll_one gd9) (.tmp rfl .nil) ?_
  rw [List.take_length]; rfl
 · exact hbad.elim
end Go.Proofs.Ytfdglljlenkkbaa
namespace Go.Proofs.Ytfdglljlenkkbaa
set_option maxRecDepth 100000
attribute [local irreducible] Go GoR GoL
theorem ptrs_set {l : List FE} {i : Nat} (q : i < l.length) {e' : FE} (hb : e'.b = l[i].b) : ptrs (l.set i e') = ptrs l := by
 unfold ptrs
 rw [List.map_set, hb]
 apply List.ext_getElem?
 intro j
 rw [List.getElem?_set]
 split
 ·
  rename_i h; subst h
  simp [q]
 · rfl
theorem bs_set {l : List FE} {i : Nat} (q : i < l.length) {e' : FE} (hb : e'.b = l[i].b) : (l.set i e').map FE.b = l.map FE.b := by
 rw [List.map_set, hb]
 apply List.ext_getElem?
 intro j
 rw [List.getElem?_set]
 split
 ·
  rename_i h; subst h
  simp [q]
 · rfl
theorem nd_ne {l : List FE} (h : (l.map FE.b).Nodup) {i j : Nat} (hi : i < l.length) (hj : j < l.length) (hne : i ≠ j) : l[i].b ≠ l[j].b := by
 have key := List.pairwise_iff_getElem.1 h
 rcases Nat.lt_or_gt_of_ne hne with q | q
 ·
  have := key i j (by simpa using hi) (by simpa using hj) q
  simpa using this
 ·
  have := key j i (by simpa using hj) (by simpa using hi) q
  simpa using this.symm
section
variable {h h' : AHeap} {fb cum next : Nat} {ra : Option Addr} {rc : Nat} {l : List FE} {rec : Bool} {unt n0 : Nat}
theorem FlO.upd (F : FlO h fb cum next ra rc l rec unt n0) {i : Nat} (q : i < l.length) {e' : FE} (hb : e'.b = l[i].b) (hd : e'.da = l[i].da ∧ e'.dl = l[i].dl ∧ e'.dc = l[i].dc) (k : Keeps [l[i].b] h h') (g : h'.get l[i].b = some (.cells e'.cs 66)) : FlO h' fb cum next ra rc (l.set i e') rec unt n0 := by
 have hx := F.ent _ (List.getElem_mem q)
 have nf : fb ∉ [l[i].b] := fun hm => by
  have g1 := F.fc; rw [List.mem_singleton.1 hm, hx] at g1; cases g1
 have nsv : ∀ {t : TypeId} {sz : Nat} {a : Option Addr} {len cap : Nat} {cs : List Value}, Sv h t sz a len cap cs → t ≠ 66 → ∀ j ∈ blk a, j ∉ [l[i].b] := fun d ht j hj hm => by
  have e1 := sv_tyF d j hj
  rw [List.mem_singleton.1 hm, tyF_cells hx] at e1
  cases e1; exact ht rfl
 have mem : ∀ x ∈ l.set i e', x = e' ∨ ∃ j, ∃ hj : j < l.length, j ≠ i ∧ x = l[j] := fun x hx => by
  obtain ⟨j, hj, rfl⟩ := List.getElem_of_mem hx
  rw [List.length_set] at hj
  by_cases hji : i = j
  · subst hji; left; simp
  · right; exact ⟨j, hj, Ne.symm hji, by rw [List.getElem_set_ne hji]⟩
 refine ⟨by rw [List.length_set]; exact k.get F.fc nf, by rw [List.length_set, ptrs_set q hb]; exact F.row.keeps k (nsv F.row (by decide)), fun x hx => ?_, fun x hx => ?_, by rw [bs_set q hb]; exact F.nd, F.own.1, F.own.2.1, fun x hx => ?_⟩
 ·
  rcases mem x hx with rfl | ⟨j, hj, hne, rfl⟩
  · rw [hb]; exact g
  · exact k.get (F.ent _ (List.getElem_mem hj)) (by rw [List.mem_singleton]; exact nd_ne F.nd hj q hne)
 ·
  rcases mem x hx with rfl | ⟨j, hj, hne, rfl⟩
  ·
   rw [hd.1, hd.2.1, hd.2.2]
   exact (F.dat _ (List.getElem_mem q)).keeps k (nsv (F.dat _ (List.getElem_mem q)) (by decide))
  · exact (F.dat _ (List.getElem_mem hj)).keeps k (nsv (F.dat _ (List.getElem_mem hj)) (by decide))
 ·
  rcases mem x hx with rfl | ⟨j, hj, hne, rfl⟩
  · rw [hb]; exact F.own.2.2 _ (List.getElem_mem q)
  · exact F.own.2.2 _ (List.getElem_mem hj)
end
def expE (p : Int) (nx : Nat) (e : FE) : FE := if e.st = 0 ∧ (e.path : Int) = p then { e with st := 1, path := nx, missed := 0 } else e
theorem expE_b (p : Int) (nx : Nat) (e : FE) : (expE p nx e).b = e.b ∧ (expE p nx e).da = e.da ∧ (expE p nx e).dl = e.dl ∧ (expE p nx e).dc = e.dc := by unfold expE; split <;> exact ⟨rfl, rfl, rfl, rfl⟩
def mixL (f : FE → FE) (l : List FE) (i : Nat) : List FE := (l.take i).map f ++ l.drop i
theorem mixL_len (f : FE → FE) (l : List FE) (i : Nat) : (mixL f l i).length = l.length := by simp [mixL]; omega
theorem mixL_zero (f : FE → FE) (l : List FE) : mixL f l 0 = l := by simp [mixL]
theorem mixL_all (f : FE → FE) (l : List FE) : mixL f l l.length = l.map f := by simp [mixL]
theorem mixL_at (f : FE → FE) {l : List FE} {i : Nat} (q : i < l.length) : (mixL f l i)[i]'(by rw [mixL_len]; exact q) = l[i] := by
 unfold mixL
 rw [List.getElem_append_right (by simp; omega)]
 simp [Nat.min_eq_left (Nat.le_of_lt q)]
theorem mixL_succ (f : FE → FE) {l : List FE} {i : Nat} (q : i < l.length) : mixL f l (i + 1) = (mixL f l i).set i (f l[i]) := by
 unfold mixL
 have e1 : ((l.take i).map f).length = i := by simp; omega
 rw [List.set_append_right _ _ (by omega), e1, Nat.sub_self, List.drop_eq_getElem_cons q, List.set_cons_zero, show l.take (i + 1) = l.take i ++ [l[i]] from by simp, List.map_append, List.append_assoc]
 rfl
theorem mixL_ptrs {f : FE → FE} (hf : ∀ e, (f e).b = e.b) (l : List FE) (i : Nat) : ptrs (mixL f l i) = ptrs l := by
 unfold mixL ptrs
 rw [List.map_append, List.map_map]
 conv => rhs; rw [← List.take_append_drop i l, List.map_append]
 congr 1
 apply List.map_congr_left
 intro e he
 simp [hf]
structure EI (tm : List Value) (ps : Array Tmp) (asg bo : Code) (lb d pb sb nb qb xb fb cum next : Nat) (ra : Option Addr) (rc : Nat) (l : List FE) (rec : Bool) (unt n0 st : Nat) (p x : Int) (f : FE → FE) (i : Nat) (h : AHeap) : Prop where
 loop : h.get lb = some (.loop .ready none tm ps asg bo d)
 mark : h.get d = some (.deferred true)
 nc : ∃ c : Nat, c ≤ i ∧ h.get nb = some (.cells [.int .i64 (c : Nat)] 3)
 qc : h.get qb = some (.cells [.int .i64 p] 3)
 xc : h.get xb = some (.cells [.int .i64 x] 3)
 F : FlO h fb cum next ra rc (mixL f l i) rec unt n0
 I : InC h pb sb fb st
 n : lb + 1 ≤ h.n
theorem EI.of {h : AHeap} {tm : List Value} {ps : Array Tmp} {asg bo : Code} {lb d pb sb nb qb xb fb cum next : Nat} {ra : Option Addr} {rc : Nat} {l : List FE} {rec : Bool} {unt n0 st : Nat} {p x : Int} {f : FE → FE} {i : Nat} {s0 : LoopState} {p0 : Option Code} (hl : h.get lb = some (.loop s0 p0 tm ps asg bo d)) (ne : d ≠ lb ∧ pb ≠ lb ∧ sb ≠ lb ∧ nb ≠ lb ∧ qb ≠ lb ∧ xb ≠ lb) (mark : h.get d = some (.deferred true))
  (nc : ∃ c : Nat, c ≤ i ∧ h.get nb = some (.cells [.int .i64 (c : Nat)] 3)) (qc : h.get qb = some (.cells [.int .i64 p] 3)) (xc : h.get xb = some (.cells [.int .i64 x] 3)) (F : FlO h fb cum next ra rc (mixL f l i) rec unt n0) (I : InC h pb sb fb st) (n : lb + 1 ≤ h.n) : EI tm ps asg bo lb d pb sb nb qb xb fb cum next ra rc l rec unt n0 st p x f i (h.put lb (some (.loop .ready none tm ps asg bo d))) := by
 obtain ⟨n1, n2, n3, n4, n5, n6⟩ := ne
 obtain ⟨c, hc, gc⟩ := nc
 have kk : Keeps [lb] h (h.put lb (some (.loop .ready none tm ps asg bo d))) := (Keeps.rf _ _).pt (.inl (by simp)) _
 exact ⟨get_put_self hl, kk.get mark (by simpa using n1), ⟨c, hc, kk.get gc (by simpa using n4)⟩, kk.get qc (by simpa using n5), kk.get xc (by simpa using n6), F.keepsL kk hl (fun c t e => by cases e), I.keeps kk (by simpa using n2) (by simpa using n3), n⟩
set_option maxHeartbeats 16000000 in
theorem exp_spec (fb cum next : Nat) (ra : Option Addr) (rc : Nat) (l : List FE) (rec : Bool) (unt n0 : Nat) (p : Int) (nx : Nat) (hl : l.length ≤ 1000000) (h : AHeap) (F : FlO h fb cum next ra rc l rec unt n0) : CallS Try.prog (l.map FE.b) 15 [.pointer (some ⟨fb, 0, none⟩), .int .i64 p, .int .i64 (nx : Nat)] h fun v h' => FlO h' fb cum next ra rc (l.map (expE p nx)) rec unt n0 := by
 have hfl := F.lt
 have hbl : ∀ e ∈ l, e.b < h.n := fun e he => hfl _ (by unfold wrF; exact List.mem_cons_of_mem _ (List.mem_append_right _ (List.mem_map_of_mem he)))
 (refine CallS.of3 Try.func15 rfl Try.ntmps15 Try.results15 rfl ?_)
 (refine Go.run (g:=?_))
 refine GoR.name ?_
 intro h1 e1
 have s1 : Same h h1 := by subst e1; exact ((((Same.refl h).push _).push _).push _).put (by simp only [AHeap.n_push]; omega) _
 have n1 : h1.n = h.n + 3 := by subst e1; rfl
 have q1 : h1.get h.n = some (.cells [.int .i64 p] 3) := by subst e1; exact get_put_other (by simp only [AHeap.n_push]; omega) (get_push_lt (get_push_lt (AHeap.get_push_same h _)))
 have x1 : h1.get (h.n + 1) = some (.cells [.int .i64 (nx : Nat)] 3) := by subst e1; exact get_put_other (by simp only [AHeap.n_push]; omega) (get_push_lt (AHeap.get_push_same (h.push _) _))
 have c1 : h1.get (h.n + 2) = some (.cells [.int .i64 (0 : Nat)] 3) := by subst e1; exact AHeap.get_put_same _ (by simp) _
 clear e1
 rw [show (h.push (AObj.cells [.int .i64 p] 3)).n = h.n + 1 from rfl, show ((h.push (AObj.cells [.int .i64 p] 3)).push (AObj.cells [.int .i64 (nx : Nat)] 3)).n = h.n + 2 from rfl]
 refine GoR.call rfl rfl rfl rfl rfl rfl rfl (((in_spec fb 0 _).argA).mono ?_)
 rintro _ h2 ⟨rfl, I2, n2⟩ s2
 have q2 := s2.get q1
 have x2 := s2.get x1
 have c2 := s2.get c1
 have F2 := (F.same s1).same s2
 clear c1 q1 x1
 (refine Go.run (g:=?_))
 refine Go.rangeFunc' (wr := (h2.n + 1) :: ((h.n + 2) :: h2.n :: l.map FE.b)) rfl (by rfl) (by kernel_rfl) ?_
 intro tm ps asg bo HH eps easg ebo eH hN hr
 have Hs : Same h2 HH := by subst eH; exact ((Same.refl h2).push _).push _
 have Hl : HH.get (h2.n + 1) = some (.loop .ready none tm ps asg bo h2.n) := by subst eH; exact AHeap.get_push_same (h2.push _) _
 have Hd : HH.get h2.n = some (.deferred true) := by subst eH; exact get_push_lt (AHeap.get_push_same _ _)
 have Hn : HH.n = h2.n + 2 := by subst eH; rfl
 clear eH
 have FH := F2.same Hs
 have hf := expE_b p nx
 have hmp := mixL_ptrs (fun e => (hf e).1) l
 have hml := mixL_len (expE p nx) l
 have hms := fun (i : Nat) (q : i < l.length) => mixL_succ (expE p nx) q
 have hma := fun (i : Nat) (q : i < l.length) => mixL_at (expE p nx) q
 have hm0 := mixL_zero (expE p nx) l
 have hmL := mixL_all (expE p nx) l
 have hfn : ∀ e, expE p nx e = if e.st = 0 ∧ (e.path : Int) = p then { e with st := 1, path := nx, missed := 0 } else e := fun e => rfl
 generalize expE p nx = f at *
 refine ((in1_spec (lb := h2.n + 1) (wr := (h.n + 2) :: h2.n :: l.map FE.b) (pb := h1.n) (sb := h1.n + 1) (fb := fb) (st := 0) (ra := ra) (rc := rc) (l := l) (inv := fun i H => EI tm ps asg bo (h2.n + 1) h2.n h1.n (h1.n + 1) (h.n + 2) h.n (h.n + 1) fb cum next ra rc l rec unt n0 0 p (nx : Nat) f i H) (stop := fun i H => False) hl ?Y HH ?i0 FH.fc).args rfl).mono ?_
 case i0 => exact ⟨Hl, Hd, ⟨0, Nat.le_refl _, Hs.get c2⟩, Hs.get q2, Hs.get x2, by rw [hm0]; exact FH, I2.same Hs, by omega⟩
 case Y =>
  refine ⟨?_, ?_, ?_, ?_, ?_, ?_, ?_⟩
  ·
   rintro i H H' I sm
   obtain ⟨c, hc, gc⟩ := I.nc
   exact ⟨sm.get I.loop, sm.get I.mark, ⟨c, hc, sm.get gc⟩, sm.get I.qc, sm.get I.xc, I.F.same sm, I.I.same sm, Nat.le_trans I.n sm.1⟩
  ·
   rintro i H I b hb
   have := I.n
   simp only [List.mem_cons] at hb
   rcases hb with hb | hb | hb | hb
   · omega
   · omega
   · omega
   ·
    obtain ⟨e, he, rfl⟩ := List.mem_map.1 hb
    have := hbl e he
    omega
  ·
   rintro i H I
   have := I.F.row.rv (P := Try.prog)
   rwa [hmp, hml] at this
  ·
   rintro i H I q
   have := I.F.ent _ (List.getElem_mem (by rw [hml]; exact q))
   rwa [hma i q] at this
  ·
   rintro i H I
   exact I.I
  ·
   rintro i H I q hst
   obtain ⟨c, hc, gc⟩ := I.nc
   refine ⟨I.loop, I.mark, ⟨c, by omega, gc⟩, I.qc, I.xc, ?_, I.I, I.n⟩
   have e0 : f l[i] = l[i] := by rw [hfn, if_neg (fun e => hst e.1)]
   have e1 : mixL f l (i + 1) = mixL f l i := by
    rw [hms i q, e0, ← hma i q, List.set_getElem_self]
   rw [e1]; exact I.F
  ·
   rintro i H I q hst
   obtain ⟨c, hc, gc⟩ := I.nc
   have hIn := I.n
   refine YieldS.of' I.loop hN hr eps easg ebo rfl (by rfl) rfl (List.mem_cons_self ..) ?_
   (refine Go.run (g:=?_))
   refine Go.body I.loop ?_
   refine Go.name ?_
   intro h6 e6
   have k6 : Keeps [h2.n + 1] H h6 := by subst e6; exact (Keeps.rf _ _).pt (.inl (by simp)) _
   have n6 : h6.n = H.n := by subst e6; rfl
   have l6 : h6.get (h2.n + 1) = some (.loop .busy none tm ps asg bo h2.n) := by subst e6; exact get_put_self I.loop
   clear e6
   have F6 := I.F.keepsL k6 I.loop (fun c t e => by cases e)
   have nc6 := k6.get gc (by simp; omega)
   have qc6 := k6.get I.qc (by simp; omega)
   have xc6 := k6.get I.xc (by simp; omega)
   have md6 := k6.get I.mark (by simp)
   have I6 := I.I.keeps k6 (by simp; omega) (by simp; omega)
   have qm : i < (mixL f l i).length := by rw [hml]; exact q
   have en6 := F6.ent _ (List.getElem_mem qm)
   rw [hma i q] at en6
   have hblt := hbl _ (List.getElem_mem q)
   have hbm : l[i].b ∈ l.map FE.b := List.mem_map_of_mem (List.getElem_mem q)
   have ms := hms i q
   have ma := hma i q
   generalize l[i] = e at *
   have en6' := en6
   unfold FE.cs at en6'
   by_cases hp : (e.path : Int) = p
   ·
    have hv : f e = { e with st := 1, path := nx, missed := 0 } := by rw [hfn, if_pos ⟨hst, hp⟩]
    refine Go.runN (g:=?_)
    refine Go.kk 2 rfl ?_
    refine Go.drawnQ rfl (by kernel_rfl) rfl ?_
    refine Go.runN (g:=?_)
    refine Go.loud (by kernel_rfl) rfl ?_
    (refine Go.runL (g:=?_))
    have hwe : e.b ∈ (h2.n + 1) :: (h.n + 2) :: h2.n :: l.map FE.b := List.mem_cons_of_mem _ (List.mem_cons_of_mem _ (List.mem_cons_of_mem _ hbm))
    refine GoL.store (off := 0 + 8) (n := 1) (v := .int .i64 1) (l := [.int .i64 1]) rfl rfl rfl rfl rfl en6' rfl rfl (by simp) rfl rfl (.inl hwe) ?_
    have en7 := get_put_self (o := .cells (setL [.int .u32 (e.tsn : Nat), .int .u8 (0 : Nat), .int .u16 (3 : Nat), .int .u16 (0 : Nat), .int .u32 (0 : Nat), .slice e.da e.dl e.dc, .int .i64 (e.path : Nat), .int .u64 (e.at_ : Nat), .int .i64 (e.st : Nat), .bool e.again, .int .i64 (e.missed : Nat)] (0 + 8) [.int .i64 1]) 66) en6'
    (refine Go.runL (g:=?_))
    refine GoL.store (off := 0 + 6) (n := 1) (v := .int .i64 (nx : Nat)) (l := [.int .i64 (nx : Nat)]) rfl rfl rfl rfl rfl en7 rfl rfl (by simp [setL]) rfl rfl (.inl hwe) ?_
    have en8 := get_put_self (o := .cells (setL (setL [.int .u32 (e.tsn : Nat), .int .u8 (0 : Nat), .int .u16 (3 : Nat), .int .u16 (0 : Nat), .int .u32 (0 : Nat), .slice e.da e.dl e.dc, .int .i64 (e.path : Nat), .int .u64 (e.at_ : Nat), .int .i64 (e.st : Nat), .bool e.again, .int .i64 (e.missed : Nat)] (0 + 8) [.int .i64 1]) (0 + 6) [.int .i64 (nx : Nat)]) 66) en7
    (refine Go.runL (g:=?_))
    refine GoL.store (off := 0 + 10) (n := 1) (v := .int .i64 0) (l := [.int .i64 0]) rfl rfl rfl rfl rfl en8 rfl rfl (by simp [setL]) rfl rfl (.inl hwe) ?_
    (refine Go.runL (g:=?_))
    refine GoL.endN (g:=?_)
    refine Go.name ?_
    intro h7 e7
    have k7 : Keeps [e.b] h6 h7 := by subst e7; exact (((Keeps.rf _ _).pt (.inl (by simp)) _).pt (.inl (by simp)) _).pt (.inl (by simp)) _
    have n7 : h7.n = h6.n := by subst e7; rfl
    have g7 : h7.get e.b = some (.cells (f e).cs 66) := by subst e7; rw [hv]; exact get_put_self en8
    clear e7 en7 en8 en6'
    have F7 := F6.upd qm (e' := f e) (by rw [ma]; exact (hf e).1) (by rw [ma]; exact (hf e).2) (by rw [ma]; exact k7) (by rw [ma]; exact g7)
    rw [← ms] at F7
    have nee : ∀ j, h.n ≤ j → j ∉ [e.b] := fun j hj hm => by rw [List.mem_singleton.1 hm] at hj; omega
    have nc7 := k7.get nc6 (nee _ (by omega))
    have l7 := k7.get l6 (nee _ (by omega))
    have md7 := k7.get md6 (nee _ (by omega))
    have qc7 := k7.get qc6 (nee _ (by omega))
    have xc7 := k7.get xc6 (nee _ (by omega))
    have I7 := I6.keeps k7 (nee _ (by omega)) (nee _ (by omega))
    (refine Go.run (g:=?_))
    refine Go.name ?_
    intro h8 e8
    have k8 : Keeps [h.n + 2] h7 h8 := by subst e8; exact (Keeps.rf _ _).pt (.inl (by simp)) _
    have n8 : h8.n = h7.n := by subst e8; rfl
    have nc8 : h8.get (h.n + 2) = some (.cells [.int .i64 (c + 1 : Nat)] 3) := by subst e8; exact get_put_self nc7
    clear e8
    refine Go.roundEnd rfl (k8.get l7 (by simp; omega)) ?_
    exact ⟨fun _ => EI.of (k8.get l7 (by simp; omega)) (by omega) (k8.get md7 (by simp; omega)) ⟨c + 1, by omega, nc8⟩ (k8.get qc7 (by simp)) (k8.get xc7 (by simp)) (F7.keepsL k8 nc7 (fun c t e => by cases e; simp)) (I7.keeps k8 (by simp; omega) (by simp; omega)) (by omega), (fun e => by cases e)⟩
   ·
    have hv : f e = e := by rw [hfn, if_neg (fun q => hp q.2)]
    have e1 : mixL f l (i + 1) = mixL f l i := by
     rw [ms, hv, ← ma, List.set_getElem_self]
    rw [← e1] at F6
    (refine Go.run (g:=?_))
    refine Go.roundEnd rfl l6 ?_
    exact ⟨fun _ => EI.of l6 (by omega) md6 ⟨c, by omega, nc6⟩ qc6 xc6 F6 I6 (by omega), (fun e => by cases e)⟩
 intro v H3 hres kp
 refine ⟨fun i hi => ?_, .inr (by omega), ?_⟩
 ·
  simp only [List.mem_cons] at hi
  rcases hi with hi | hi | hi | hi
  · exact .inr (by omega)
  · exact .inr (by omega)
  · exact .inr (by omega)
  · exact .inl hi
 rcases hres with I | ⟨i, hbad⟩
 ·
  have hIn := I.n
  obtain ⟨c, hc, gc⟩ := I.nc
  refine ⟨_, _, _, _, _, _, _, .normal, I.loop, by rfl, rfl, ?_⟩
  refine Go.name ?_
  intro h9 e9
  have k9 : Keeps [h2.n + 1] H3 h9 := by subst e9; exact (Keeps.rf _ _).pt (.inl (by simp)) _
  have n9 : h9.n = H3.n := by subst e9; rfl
  clear e9
  have c9 := k9.get gc (by simp; omega)
  have gd9 := k9.get I.mark (by simp)
  have F9 := I.F.keepsL k9 I.loop (fun c t e => by cases e)
  rw [hmL] at F9
  (refine Go.run (g:=?_))
  refine Go.fin_marks (.inr rfl) (by intro d hd; simp only [List.mem_singleton] at hd; omega) (takeAll_one gd9) (.tmp rfl .nil) ?_
  exact F9.keepsL ((Keeps.rf [h2.n] h9).pt (.inl (by simp)) _) gd9 (fun c t e => by cases e)
 · exact hbad.elim
end Go.Proofs.Ytfdglljlenkkbaa
namespace Go.Proofs.Ytfdglljlenkkbaa
set_option maxRecDepth 100000
attribute [local irreducible] Go GoR GoL
theorem bytesU9 : Try.prog.underlying 34 = some (.slice 5) := by kernel_rfl
theorem aEq_rowNil9 {P : Program} {h : AHeap} {t e : TypeId} (hu : P.underlying t = some (.slice e)) (a : Option Addr) (l c : Nat) : aEq P h t (.slice a l c) (.slice none 0 0) = some (a.isNone, []) := by
 unfold aEq
 rw [hu]
 cases a <;> rfl
set_option maxHeartbeats 4000000 in
theorem bclone_spec (a : Option Addr) (cap : Nat) (zs : List UInt8) (hl : zs.length ≤ 1000000000) (h : AHeap) (hz : Rv Try.prog h 1 a zs.length cap (zs.map bv)) : CallS Try.prog [] 20 [.slice a zs.length cap] h fun v h' => ∃ b c, v = .slice b zs.length c ∧ Sv h' 5 1 b zs.length c (zs.map bv) ∧ Own h.n b := by
 have hone : (zs.map bv).all Value.oneCell' = true := by simp [bv, Value.oneCell']
 generalize hlen : zs.length = len at *
 cases a with
 | none =>
  obtain ⟨rfl, rfl⟩ : len = 0 ∧ cap = 0 := by
   generalize zs.map bv = cs at hz
   cases hz
   exact ⟨rfl, rfl⟩
  obtain rfl : zs = [] := List.eq_nil_of_length_eq_zero hlen
  (refine CallS.of1 Try.func20 rfl Try.ntmps20 Try.results20 rfl ?_)
  (refine Go.run (g:=?_))
  refine GoR.eqRef rfl rfl rfl rfl (.inl rfl) rfl rfl (aEq_rowNil9 bytesU9 _ _ _) ?_
  (refine Go.run (g:=?_))
  (first|refine Go.finA rfl ?_|refine Go.finB rfl (hq:=?_))
  exact ⟨none, 0, rfl, .nil, Own.nil _⟩
 | some a =>
  (refine CallS.of1 Try.func20 rfl Try.ntmps20 Try.results20 rfl ?_)
  (refine Go.run (g:=?_))
  refine GoR.eqRef rfl rfl rfl rfl (.inl rfl) rfl rfl (aEq_rowNil9 bytesU9 _ _ _) ?_
  (refine Go.run (g:=?_))
  refine GoR.buildO (c := []) rfl rfl rfl rfl rfl (by decide) (by rfl) (by rfl) ?_
  intro b h1 hb ob s1 n1
  (refine Go.run (g:=?_))
  refine GoR.appendV rfl rfl rfl rfl rfl rfl hb (hz.same s1) (Own.ok ob (by omega)) (by omega) (by omega) hone ?_
  intro b2 c2 h2 hb2 k2 o2
  (refine Go.run (g:=?_))
  (first|refine Go.finA rfl ?_|refine Go.finB rfl (hq:=?_))
  subst hlen
  rw [Nat.zero_add] at hb2 ⊢
  exact ⟨b2, c2, rfl, hb2, fun i hi => (o2 i hi).elim (ob i) fun q => by omega⟩
def FirstM (l : List FE) (i : Nat) : Prop := ∃ q : i < l.length, l[i].st = 1 ∧ ∀ j (hj : j < l.length), j < i → l[j].st ≠ 1
structure MI (tm : List Value) (ps : Array Tmp) (asg bo : Code) (lb d pb sb rb fb cum next : Nat) (ra : Option Addr) (rc : Nat) (l : List FE) (rec : Bool) (unt n0 : Nat) (G : AHeap → Prop) (i : Nat) (h : AHeap) : Prop where
 loop : h.get lb = some (.loop .ready none tm ps asg bo d)
 mark : h.get d = some (.deferred true)
 G : G h
 F : FlO h fb cum next ra rc l rec unt n0
 I : InC h pb sb fb 1
 n : lb + 1 ≤ h.n
 no : ∀ j (hj : j < l.length), j < i → l[j].st ≠ 1
def agE (now : Nat) (e : FE) : FE := { e with st := 0, at_ := now, again := true }
set_option maxHeartbeats 16000000 in
theorem again_spec (fb cum next : Nat) (ra : Option Addr) (rc : Nat) (l : List FE) (rec : Bool) (unt n0 now : Nat) (hl : l.length ≤ 1000000) (h : AHeap) (F : FlO h fb cum next ra rc l rec unt n0) : CallS Try.prog (l.map FE.b) 14 [.pointer (some ⟨fb, 0, none⟩), .int .u64 (now : Nat)] h fun v h' => (∃ i, ∃ q : i < l.length, FirstM l i ∧ v = .int .i64 0 ∧ FlO h' fb cum next ra rc (l.set i (agE now l[i])) rec unt n0) ∨ ((∀ e ∈ l, e.st ≠ 1) ∧ v = .int .i64 4 ∧ FlO h' fb cum next ra rc l rec unt n0) := by
 have hfl := F.lt
 have hbl : ∀ e ∈ l, e.b < h.n := fun e he => hfl _ (by unfold wrF; exact List.mem_cons_of_mem _ (List.mem_append_right _ (List.mem_map_of_mem he)))
 have hfb : fb < h.n := hfl _ (by simp [wrF])
 (refine CallS.of2 Try.func14 rfl Try.ntmps14 Try.results14 rfl ?_)
 (refine Go.run (g:=?_))
 refine GoR.eqRef rfl rfl rfl rfl (.inl rfl) rfl rfl (aEq_nilF flU _) ?_
 (refine Go.run (g:=?_))
 refine GoR.name ?_
 intro h1 e1
 have s1 : Same h h1 := by subst e1; exact ((Same.refl h).push _).push _
 have n1 : h1.n = h.n + 2 := by subst e1; rfl
 have q1 : h1.get h.n = some (.cells [.int .u64 (now : Nat)] 30) := by subst e1; exact get_push_lt (AHeap.get_push_same h _)
 have c1 : h1.get (h.n + 1) = some (.cells [.int .i64 0] 39) := by subst e1; exact AHeap.get_push_same (h.push _) _
 clear e1
 rw [show (h.push (AObj.cells [.int .u64 (now : Nat)] 30)).n = h.n + 1 from rfl]
 refine GoR.call rfl rfl rfl rfl rfl rfl rfl (((in_spec fb 1 _).argA).mono ?_)
 rintro _ h2 ⟨rfl, I2, n2⟩ s2
 have q2 := s2.get q1
 have c2 := s2.get c1
 have F2 := (F.same s1).same s2
 clear c1 q1
 (refine Go.run (g:=?_))
 refine Go.rangeFunc' (wr := (h2.n + 1) :: ((h.n + 1) :: h2.n :: l.map FE.b)) rfl (by rfl) (by kernel_rfl) ?_
 intro tm ps asg bo HH eps easg ebo eH hN hr
 have Hs : Same h2 HH := by subst eH; exact ((Same.refl h2).push _).push _
 have Hl : HH.get (h2.n + 1) = some (.loop .ready none tm ps asg bo h2.n) := by subst eH; exact AHeap.get_push_same (h2.push _) _
 have Hd : HH.get h2.n = some (.deferred true) := by subst eH; exact get_push_lt (AHeap.get_push_same _ _)
 have Hn : HH.n = h2.n + 2 := by subst eH; rfl
 clear eH
 have FH := F2.same Hs
 obtain ⟨G, hG⟩ : ∃ G : AHeap → Prop, G = fun H => H.get h.n = some (.cells [.int .u64 (now : Nat)] 30) ∧ H.get (h.n + 1) = some (.cells [.int .i64 0] 39) := ⟨_, rfl⟩
 refine ((in1_spec (lb := h2.n + 1) (wr := (h.n + 1) :: h2.n :: l.map FE.b) (pb := h1.n) (sb := h1.n + 1) (fb := fb) (st := 1) (ra := ra) (rc := rc) (l := l) (inv := fun i H => MI tm ps asg bo (h2.n + 1) h2.n h1.n (h1.n + 1) h.n fb cum next ra rc l rec unt n0 G i H) (stop := fun i H => (∃ j, ∃ q : j < l.length, FirstM l j ∧ FlO H fb cum next ra rc (l.set j (agE now l[j])) rec unt n0) ∧ (∃ tm' ps' as' bo' df', H.get (h2.n + 1) = some (.loop .done (some .ret) tm' ps' as' bo' df')) ∧ H.get h2.n = some (.deferred true) ∧ H.get (h.n + 1) = some (.cells [.int .i64 0] 39)) hl ?Y HH ?i0 FH.fc).args rfl).mono ?_
 case i0 => exact ⟨Hl, Hd, by rw [hG]; exact ⟨Hs.get q2, Hs.get c2⟩, FH, I2.same Hs, by omega, fun j _ hj => by omega⟩
 case Y =>
  refine ⟨?_, ?_, ?_, ?_, ?_, ?_, ?_⟩
  ·
   rintro i H H' I sm
   have g := I.G
   rw [hG] at g
   exact ⟨sm.get I.loop, sm.get I.mark, by rw [hG]; exact ⟨sm.get g.1, sm.get g.2⟩, I.F.same sm, I.I.same sm, Nat.le_trans I.n sm.1, I.no⟩
  ·
   rintro i H I b hb
   have := I.n
   simp only [List.mem_cons] at hb
   rcases hb with hb | hb | hb | hb
   · omega
   · omega
   · omega
   ·
    obtain ⟨e, he, rfl⟩ := List.mem_map.1 hb
    have := hbl e he
    omega
  ·
   rintro i H I
   exact I.F.row.rv
  ·
   rintro i H I q
   exact I.F.ent _ (List.getElem_mem q)
  ·
   rintro i H I
   exact I.I
  ·
   rintro i H I q hst
   refine ⟨I.loop, I.mark, I.G, I.F, I.I, I.n, fun j hj hji => ?_⟩
   rcases Nat.lt_or_ge j i with q1 | q1
   · exact I.no j hj q1
   ·
    have : j = i := by omega
    subst this; exact hst
  ·
   rintro i H I q hst
   have hIn := I.n
   have g := I.G
   rw [hG] at g
   obtain ⟨gq, gc⟩ := g
   have hfm : FirstM l i := ⟨q, hst, I.no⟩
   refine YieldS.of' I.loop hN hr eps easg ebo rfl (by rfl) rfl (List.mem_cons_self ..) ?_
   (refine Go.run (g:=?_))
   refine Go.body I.loop ?_
   refine Go.name ?_
   intro h6 e6
   have k6 : Keeps [h2.n + 1] H h6 := by subst e6; exact (Keeps.rf _ _).pt (.inl (by simp)) _
   have n6 : h6.n = H.n := by subst e6; rfl
   have l6 : h6.get (h2.n + 1) = some (.loop .busy none tm ps asg bo h2.n) := by subst e6; exact get_put_self I.loop
   clear e6
   have F6 := I.F.keepsL k6 I.loop (fun c t e => by cases e)
   have qc6 := k6.get gq (by simp; omega)
   have nc6 := k6.get gc (by simp; omega)
   have md6 := k6.get I.mark (by simp)
   have en6 := F6.ent _ (List.getElem_mem q)
   have hblt := hbl _ (List.getElem_mem q)
   have hbm : l[i].b ∈ l.map FE.b := List.mem_map_of_mem (List.getElem_mem q)
   obtain ⟨e, he⟩ : ∃ e, e = l[i] := ⟨_, rfl⟩
   have hupd : ∀ h7, Keeps [e.b] h6 h7 → h7.get e.b = some (.cells (agE now e).cs 66) → FlO h7 fb cum next ra rc (l.set i (agE now e)) rec unt n0 := fun h7 k g => by
    rw [he] at k g ⊢
    exact F6.upd q (e' := agE now l[i]) rfl ⟨rfl, rfl, rfl⟩ k g
   rw [← he] at en6 hblt hbm hst ⊢
   have en6' := en6
   unfold FE.cs at en6'
   have hwe : e.b ∈ (h2.n + 1) :: (h.n + 1) :: h2.n :: l.map FE.b := List.mem_cons_of_mem _ (List.mem_cons_of_mem _ (List.mem_cons_of_mem _ hbm))
   refine Go.runN (g:=?_)
   refine Go.loud (by kernel_rfl) rfl ?_
   (refine Go.runL (g:=?_))
   refine GoL.store (off := 0 + 8) (n := 1) (v := .int .i64 0) (l := [.int .i64 0]) rfl rfl rfl rfl rfl en6' rfl rfl (by simp) rfl rfl (.inl hwe) ?_
   have en7 := get_put_self (o := .cells (setL [.int .u32 (e.tsn : Nat), .int .u8 (0 : Nat), .int .u16 (3 : Nat), .int .u16 (0 : Nat), .int .u32 (0 : Nat), .slice e.da e.dl e.dc, .int .i64 (e.path : Nat), .int .u64 (e.at_ : Nat), .int .i64 (e.st : Nat), .bool e.again, .int .i64 (e.missed : Nat)] (0 + 8) [.int .i64 0]) 66) en6'
   (refine Go.runL (g:=?_))
   refine GoL.store (off := 0 + 7) (n := 1) (v := .int .u64 (now : Nat)) (l := [.int .u64 (now : Nat)]) rfl rfl rfl rfl rfl en7 rfl rfl (by simp [setL]) rfl rfl (.inl hwe) ?_
   have en8 := get_put_self (o := .cells (setL (setL [.int .u32 (e.tsn : Nat), .int .u8 (0 : Nat), .int .u16 (3 : Nat), .int .u16 (0 : Nat), .int .u32 (0 : Nat), .slice e.da e.dl e.dc, .int .i64 (e.path : Nat), .int .u64 (e.at_ : Nat), .int .i64 (e.st : Nat), .bool e.again, .int .i64 (e.missed : Nat)] (0 + 8) [.int .i64 0]) (0 + 7) [.int .u64 (now : Nat)]) 66) en7
   (refine Go.runL (g:=?_))
   refine GoL.store (off := 0 + 9) (n := 1) (v := .bool true) (l := [.bool true]) rfl rfl rfl rfl rfl en8 rfl rfl (by simp [setL]) rfl rfl (.inl hwe) ?_
   (refine Go.runL (g:=?_))
   refine GoL.endN (g:=?_)
   refine Go.name ?_
   intro h7 e7
   have k7 : Keeps [e.b] h6 h7 := by subst e7; exact (((Keeps.rf _ _).pt (.inl (by simp)) _).pt (.inl (by simp)) _).pt (.inl (by simp)) _
   have n7 : h7.n = h6.n := by subst e7; rfl
   have g7 : h7.get e.b = some (.cells (agE now e).cs 66) := by subst e7; exact get_put_self en8
   clear e7 en7 en8 en6'
   have F7 := hupd h7 k7 g7
   have nee : ∀ j, h.n ≤ j → j ∉ [e.b] := fun j hj hm => by rw [List.mem_singleton.1 hm] at hj; omega
   have nc7 := k7.get nc6 (nee _ (by omega))
   have l7 := k7.get l6 (nee _ (by omega))
   have md7 := k7.get md6 (nee _ (by omega))
   (refine Go.run (g:=?_))
   refine Go.name ?_
   intro h8 e8
   have k8 : Keeps [h.n + 1] h7 h8 := by subst e8; exact (Keeps.rf _ _).pt (.inl (by simp)) _
   have n8 : h8.n = h7.n := by subst e8; rfl
   have nc8 : h8.get (h.n + 1) = some (.cells [.int .i64 0] 39) := by subst e8; exact get_put_self nc7
   clear e8
   have F8 := F7.keepsL k8 nc7 (fun c t e => by cases e; decide)
   have l8 := k8.get l7 (by simp; omega)
   refine Go.roundEnd rfl l8 ?_
   have k9 : Keeps [h2.n + 1] h8 (h8.put (h2.n + 1) (some (.loop .done (some .ret) tm ps asg bo h2.n))) := (Keeps.rf _ _).pt (.inl (by simp)) _
   refine ⟨(fun e => by cases e), fun _ => ⟨⟨i, q, hfm, ?_⟩, ⟨_, _, _, _, _, get_put_self l8⟩, k9.get (k8.get md7 (by simp; omega)) (by simp), k9.get nc8 (by simp; omega)⟩⟩
   rw [← he]
   exact F8.keepsL k9 l8 (fun c t e => by cases e)
 intro v H3 hres kp
 refine ⟨fun i hi => ?_, .inr (by omega), ?_⟩
 ·
  simp only [List.mem_cons] at hi
  rcases hi with hi | hi | hi | hi
  · exact .inr (by omega)
  · exact .inr (by omega)
  · exact .inr (by omega)
  · exact .inl hi
 rcases hres with I | ⟨i, ⟨j, qj, hfm, FF⟩, ⟨tm', ps', as', bo', df', hl3⟩, hd3, h4⟩
 ·
  have hIn := I.n
  have g := I.G
  rw [hG] at g
  refine ⟨_, _, _, _, _, _, _, .normal, I.loop, by rfl, rfl, ?_⟩
  refine Go.name ?_
  intro h9 e9
  have k9 : Keeps [h2.n + 1] H3 h9 := by subst e9; exact (Keeps.rf _ _).pt (.inl (by simp)) _
  have n9 : h9.n = H3.n := by subst e9; rfl
  clear e9
  have c9 := k9.get g.2 (by simp; omega)
  have gd9 := k9.get I.mark (by simp)
  have F9 := I.F.keepsL k9 I.loop (fun c t e => by cases e)
  (refine Go.run (g:=?_))
  refine Go.name ?_
  intro h10 e10
  have k10 : Keeps [h.n + 1] h9 h10 := by subst e10; exact (Keeps.rf _ _).pt (.inl (by simp)) _
  have c10 : h10.get (h.n + 1) = some (.cells [.int .i64 4] 39) := by subst e10; exact get_put_self c9
  clear e10
  have gd10 := k10.get gd9 (by simp; omega)
  have F10 := F9.keepsL k10 c9 (fun c t e => by cases e; decide)
  refine Go.fin_marks (.inr rfl) (by intro d hd; simp only [List.mem_singleton] at hd; omega) (takeAll_one gd10) (.cell rfl inferInstance (get_put_other (by omega) c10) rfl .nil) ?_
  refine .inr ⟨fun e he => ?_, rfl, F10.keepsL ((Keeps.rf [h2.n] h10).pt (.inl (by simp)) _) gd10 (fun c t e => by cases e)⟩
  obtain ⟨j, hj, rfl⟩ := List.getElem_of_mem he
  exact I.no j hj hj
 ·
  refine ⟨_, _, _, _, _, _, _, .ret, hl3, by rfl, rfl, ?_⟩
  refine Go.name ?_
  intro h9 e9
  have k9 : Keeps [h2.n + 1] H3 h9 := by subst e9; exact (Keeps.rf _ _).pt (.inl (by simp)) _
  have n9 : h9.n = H3.n := by subst e9; rfl
  have hln := AHeap.lt hl3
  clear e9
  have c9 := k9.get h4 (by simp; omega)
  have gd9 := k9.get hd3 (by simp)
  have F9 := FF.keepsL k9 hl3 (fun c t e => by cases e)
  (refine Go.run (g:=?_))
  refine Go.fin_marks (.inr rfl) (by intro d hd; simp only [List.mem_singleton] at hd; omega) (takeAll_one gd9) (.cell rfl inferInstance (get_put_other (by omega) c9) rfl .nil) ?_
  exact .inl ⟨j, qj, hfm, rfl, F9.keepsL ((Keeps.rf [h2.n] h9).pt (.inl (by simp)) _) gd9 (fun c t e => by cases e)⟩
end Go.Proofs.Ytfdglljlenkkbaa
namespace Go.Proofs.Ytfdglljlenkkbaa
set_option maxRecDepth 100000
attribute [local irreducible] Go GoR GoL
def z0P : List Value := [.int .u32 0, .int .u8 0, .int .u16 0, .int .u16 0, .int .u32 0, .slice none 0 0]
def FE.pc (e : FE) (b : Option Addr) (c : Nat) : List Value := [.int .u32 (e.tsn : Nat), .int .u8 (0 : Nat), .int .u16 (3 : Nat), .int .u16 (0 : Nat), .int .u32 (0 : Nat), .slice b e.dl c]
set_option maxHeartbeats 16000000 in
theorem marked_spec (fb cum next : Nat) (ra : Option Addr) (rc : Nat) (l : List FE) (rec : Bool) (unt n0 : Nat) (hl : l.length ≤ 1000000) (hd : ∀ e ∈ l, e.dl ≤ 255) (h : AHeap) (F : FlO h fb cum next ra rc l rec unt n0) : CallS Try.prog [] 18 [.pointer (some ⟨fb, 0, none⟩)] h fun v h' => (∃ i b c, ∃ q : i < l.length, FirstM l i ∧ v = .tuple #[.agg (l[i].pc b c).toArray, .int .i64 (l[i].path : Nat), .bool true]) ∨ ((∀ e ∈ l, e.st ≠ 1) ∧ v = .tuple #[.agg z0P.toArray, .int .i64 0, .bool false]) := by
 have hfl := F.lt
 have hbl : ∀ e ∈ l, e.b < h.n := fun e he => hfl _ (by unfold wrF; exact List.mem_cons_of_mem _ (List.mem_append_right _ (List.mem_map_of_mem he)))
 have hfb : fb < h.n := hfl _ (by simp [wrF])
 (refine CallS.of1 Try.func18 rfl Try.ntmps18 Try.results18 rfl ?_)
 (refine Go.run (g:=?_))
 refine GoR.name ?_
 intro h1 e1
 have s1 : Same h h1 := by subst e1; exact (((Same.refl h).push _).push _).push _
 have n1 : h1.n = h.n + 3 := by subst e1; rfl
 have q1 : h1.get h.n = some (.cells z0P 36) := by subst e1; exact get_push_lt (get_push_lt (AHeap.get_push_same h _))
 have c1 : h1.get (h.n + 1) = some (.cells [.int .i64 0] 3) := by subst e1; exact get_push_lt (AHeap.get_push_same (h.push _) _)
 have d1 : h1.get (h.n + 2) = some (.cells [.bool false] 4) := by subst e1; exact AHeap.get_push_same ((h.push _).push _) _
 clear e1
 rw [show ((h.push (AObj.cells [.int .u32 0, .int .u8 0, .int .u16 0, .int .u16 0, .int .u32 0, .slice none 0 0] 36)).push (AObj.cells [.int .i64 0] 3)).n = h.n + 2 from rfl, show (h.push (AObj.cells [.int .u32 0, .int .u8 0, .int .u16 0, .int .u16 0, .int .u32 0, .slice none 0 0] 36)).n = h.n + 1 from rfl]
 refine GoR.call rfl rfl rfl rfl rfl rfl rfl (((in_spec fb 1 _).argA).mono ?_)
 rintro _ h2 ⟨rfl, I2, n2⟩ s2
 have q2 := s2.get q1
 have c2 := s2.get c1
 have d2 := s2.get d1
 have F2 := (F.same s1).same s2
 clear c1 q1 d1
 (refine Go.run (g:=?_))
 refine Go.rangeFunc' (wr := [h2.n + 1, h.n, h.n + 1, h.n + 2, h2.n]) rfl (by rfl) (by kernel_rfl) ?_
 intro tm ps asg bo HH eps easg ebo eH hN hr
 have Hs : Same h2 HH := by subst eH; exact ((Same.refl h2).push _).push _
 have Hl : HH.get (h2.n + 1) = some (.loop .ready none tm ps asg bo h2.n) := by subst eH; exact AHeap.get_push_same (h2.push _) _
 have Hd : HH.get h2.n = some (.deferred true) := by subst eH; exact get_push_lt (AHeap.get_push_same _ _)
 have Hn : HH.n = h2.n + 2 := by subst eH; rfl
 clear eH
 have FH := F2.same Hs
 obtain ⟨G, hG⟩ : ∃ G : AHeap → Prop, G = fun H => H.get h.n = some (.cells z0P 36) ∧ H.get (h.n + 1) = some (.cells [.int .i64 0] 3) ∧ H.get (h.n + 2) = some (.cells [.bool false] 4) := ⟨_, rfl⟩
 refine ((in1_spec (lb := h2.n + 1) (wr := [h.n, h.n + 1, h.n + 2, h2.n]) (pb := h1.n) (sb := h1.n + 1) (fb := fb) (st := 1) (ra := ra) (rc := rc) (l := l) (inv := fun i H => MI tm ps asg bo (h2.n + 1) h2.n h1.n (h1.n + 1) h.n fb cum next ra rc l rec unt n0 G i H) (stop := fun i H => (∃ j b c, ∃ q : j < l.length, FirstM l j ∧ H.get h.n = some (.cells (l[j].pc b c) 36) ∧ H.get (h.n + 1) = some (.cells [.int .i64 (l[j].path : Nat)] 3)) ∧ (∃ tm' ps' as' bo' df', H.get (h2.n + 1) = some (.loop .done (some .ret) tm' ps' as' bo' df')) ∧ H.get h2.n = some (.deferred true) ∧ H.get (h.n + 2) = some (.cells [.bool true] 4)) hl ?Y HH ?i0 FH.fc).args rfl).mono ?_
 case i0 => exact ⟨Hl, Hd, by rw [hG]; exact ⟨Hs.get q2, Hs.get c2, Hs.get d2⟩, FH, I2.same Hs, by omega, fun j _ hj => by omega⟩
 case Y =>
  refine ⟨?_, ?_, ?_, ?_, ?_, ?_, ?_⟩
  ·
   rintro i H H' I sm
   have g := I.G
   rw [hG] at g
   exact ⟨sm.get I.loop, sm.get I.mark, by rw [hG]; exact ⟨sm.get g.1, sm.get g.2.1, sm.get g.2.2⟩, I.F.same sm, I.I.same sm, Nat.le_trans I.n sm.1, I.no⟩
  ·
   rintro i H I b hb
   have := I.n
   simp only [List.mem_cons, List.not_mem_nil, or_false] at hb
   omega
  ·
   rintro i H I
   exact I.F.row.rv
  ·
   rintro i H I q
   exact I.F.ent _ (List.getElem_mem q)
  ·
   rintro i H I
   exact I.I
  ·
   rintro i H I q hst
   refine ⟨I.loop, I.mark, I.G, I.F, I.I, I.n, fun j hj hji => ?_⟩
   rcases Nat.lt_or_ge j i with q1 | q1
   · exact I.no j hj q1
   ·
    have : j = i := by omega
    subst this; exact hst
  ·
   rintro i H I q hst
   have hIn := I.n
   have g := I.G
   rw [hG] at g
   obtain ⟨gq, gc, gd⟩ := g
   have hfm : FirstM l i := ⟨q, hst, I.no⟩
   refine YieldS.of' I.loop hN hr eps easg ebo rfl (by rfl) rfl (List.mem_cons_self ..) ?_
   (refine Go.run (g:=?_))
   refine Go.body I.loop ?_
   refine Go.name ?_
   intro h6 e6
   have k6 : Keeps [h2.n + 1] H h6 := by subst e6; exact (Keeps.rf _ _).pt (.inl (by simp)) _
   have n6 : h6.n = H.n := by subst e6; rfl
   have l6 : h6.get (h2.n + 1) = some (.loop .busy none tm ps asg bo h2.n) := by subst e6; exact get_put_self I.loop
   clear e6
   have F6 := I.F.keepsL k6 I.loop (fun c t e => by cases e)
   have qc6 := k6.get gq (by simp; omega)
   have nc6 := k6.get gc (by simp; omega)
   have dc6 := k6.get gd (by simp; omega)
   have md6 := k6.get I.mark (by simp)
   have en6 := F6.ent _ (List.getElem_mem q)
   have hblt := hbl _ (List.getElem_mem q)
   have hdl := hd _ (List.getElem_mem q)
   have dat6 := F6.dat _ (List.getElem_mem q)
   obtain ⟨e, he⟩ : ∃ e, e = l[i] := ⟨_, rfl⟩
   rw [← he] at en6 hblt hst hdl dat6 ⊢
   unfold FE.cs at en6
   (refine Go.run (g:=?_))
   refine GoR.name ?_
   intro h7 e7
   have s7 : Same h6 h7 := by subst e7; exact ((Same.refl h6).push _).put (Nat.le_refl _) _
   have n7 : h7.n = h6.n + 1 := by subst e7; rfl
   have p7 : h7.get h6.n = some (.cells (e.pc e.da e.dc) 36) := by subst e7; exact AHeap.get_put_same _ (by simp) _
   clear e7
   have hrep : List.replicate e.dl (Value.int .u8 0) = (List.replicate e.dl (0 : UInt8)).map bv := by simp [bv]
   have zl : (List.replicate e.dl (0 : UInt8)).length = e.dl := by simp
   have rv7 : Rv Try.prog h7 1 e.da (List.replicate e.dl (0 : UInt8)).length e.dc ((List.replicate e.dl (0 : UInt8)).map bv) := by
    rw [← hrep, zl]; exact (dat6.same s7).rv
   refine GoR.call rfl rfl rfl rfl rfl rfl rfl (((bclone_spec e.da e.dc (List.replicate e.dl 0) (by rw [zl]; omega) _ rv7).argA).mono ?_)
   rintro _ h8 ⟨b, c, rfl, -, -⟩ s8
   rw [zl]
   have p8 := s8.get p7
   have S8 := s7.trans s8
   have q8 := S8.get qc6
   have c8 := S8.get nc6
   have d8 := S8.get dc6
   have md8 := S8.get md6
   have l8 := S8.get l6
   have en8 := S8.get en6
   have m8 := s8.1
   clear rv7 hrep
   unfold FE.pc at p8
   unfold z0P at q8
   refine Go.runN (g:=?_)
   refine Go.name ?_
   intro ha ea
   have ka : Keeps [h6.n] h8 ha := by subst ea; exact (Keeps.rf _ _).pt (.inl (by simp)) _
   have na : ha.n = h8.n := by subst ea; rfl
   have pa : ha.get h6.n = some (.cells [.int .u32 (e.tsn : Nat), .int .u8 (0 : Nat), .int .u16 (3 : Nat), .int .u16 (0 : Nat), .int .u32 (0 : Nat), .slice b e.dl c] 36) := by subst ea; exact get_put_self p8
   clear ea p8 p7
   have qa := ka.get q8 (by simp; omega)
   have ca := ka.get c8 (by simp; omega)
   have dxa := ka.get d8 (by simp; omega)
   have mda := ka.get md8 (by simp; omega)
   have la := ka.get l8 (by simp; omega)
   have ena := ka.get en8 (by simp; omega)
   refine Go.loud (by kernel_rfl) rfl ?_
   (refine Go.runL (g:=?_))
   refine GoL.store (off := 0) (n := 6) (v := .agg #[.int .u32 (e.tsn : Nat), .int .u8 (0 : Nat), .int .u16 (3 : Nat), .int .u16 (0 : Nat), .int .u32 (0 : Nat), .slice b e.dl c]) (l := [.int .u32 (e.tsn : Nat), .int .u8 (0 : Nat), .int .u16 (3 : Nat), .int .u16 (0 : Nat), .int .u32 (0 : Nat), .slice b e.dl c]) rfl rfl rfl rfl rfl qa rfl rfl (by simp) rfl rfl (.inl (by simp)) ?_
   (refine Go.runL (g:=?_))
   refine GoL.store (off := 0) (n := 1) (v := .int .i64 (e.path : Nat)) (l := [.int .i64 (e.path : Nat)]) rfl rfl rfl rfl rfl (get_put_other (by omega) ca) rfl rfl (by simp) rfl rfl (.inl (by simp)) ?_
   (refine Go.runL (g:=?_))
   refine GoL.store (off := 0) (n := 1) (v := .bool true) (l := [.bool true]) rfl rfl rfl rfl rfl (get_put_other (by omega) (get_put_other (by omega) dxa)) rfl rfl (by simp) rfl rfl (.inl (by simp)) ?_
   (refine Go.runL (g:=?_))
   refine GoL.endN (g:=?_)
   refine Go.name ?_
   intro hb eb
   have qb : hb.get h.n = some (.cells (e.pc b c) 36) := by subst eb; exact get_put_other (by omega) (get_put_other (by omega) (get_put_self qa))
   have cb : hb.get (h.n + 1) = some (.cells [.int .i64 (e.path : Nat)] 3) := by subst eb; exact get_put_other (by omega) (get_put_self (get_put_other (by omega) ca))
   have db : hb.get (h.n + 2) = some (.cells [.bool true] 4) := by subst eb; exact get_put_self (get_put_other (by omega) (get_put_other (by omega) dxa))
   have kb : Keeps [h.n, h.n + 1, h.n + 2] ha hb := by subst eb; exact (((Keeps.rf _ _).pt (.inl (by simp)) _).pt (.inl (by simp)) _).pt (.inl (by simp)) _
   clear eb
   have lb' := kb.get la (by simp; omega)
   have mdb := kb.get mda (by simp; omega)
   (refine Go.run (g:=?_))
   refine Go.roundEnd rfl lb' ?_
   have kc : Keeps [h2.n + 1] hb (hb.put (h2.n + 1) (some (.loop .done (some .ret) tm ps asg bo h2.n))) := (Keeps.rf _ _).pt (.inl (by simp)) _
   refine ⟨(fun e => by cases e), fun _ => ⟨⟨i, b, c, q, hfm, ?_, ?_⟩, ⟨_, _, _, _, _, get_put_self lb'⟩, kc.get mdb (by simp), kc.get db (by simp; omega)⟩⟩
   · rw [← he]; exact kc.get qb (by simp; omega)
   · rw [← he]; exact kc.get cb (by simp; omega)
 intro v H3 hres kp
 refine ⟨fun i hi => ?_, .inr (by omega), ?_⟩
 ·
  simp only [List.mem_cons, List.not_mem_nil, or_false] at hi
  exact .inr (by omega)
 rcases hres with I | ⟨i, ⟨j, b, c, qj, hfm, gp3, gi3⟩, ⟨tm', ps', as', bo', df', hl3⟩, hd3, h4⟩
 ·
  have hIn := I.n
  have g := I.G
  rw [hG] at g
  refine ⟨_, _, _, _, _, _, _, .normal, I.loop, by rfl, rfl, ?_⟩
  refine Go.name ?_
  intro h9 e9
  have k9 : Keeps [h2.n + 1] H3 h9 := by subst e9; exact (Keeps.rf _ _).pt (.inl (by simp)) _
  have n9 : h9.n = H3.n := by subst e9; rfl
  clear e9
  have q9 := k9.get g.1 (by simp; omega)
  unfold z0P at q9
  have c9 := k9.get g.2.1 (by simp; omega)
  have d9 := k9.get g.2.2 (by simp; omega)
  have gd9 := k9.get I.mark (by simp)
  (refine Go.run (g:=?_))
  refine Go.name ?_
  intro h10 e10
  have q10 : h10.get h.n = some (.cells z0P 36) := by subst e10; exact get_put_other (by omega) (get_put_other (by omega) (get_put_self q9))
  have c10 : h10.get (h.n + 1) = some (.cells [.int .i64 0] 3) := by subst e10; exact get_put_other (by omega) (get_put_self (get_put_other (by omega) c9))
  have d10 : h10.get (h.n + 2) = some (.cells [.bool false] 4) := by subst e10; exact get_put_self (get_put_other (by omega) (get_put_other (by omega) d9))
  have gd10 : h10.get h2.n = some (.deferred true) := by subst e10; exact get_put_other (by omega) (get_put_other (by omega) (get_put_other (by omega) gd9))
  clear e10
  refine Go.fin_marks (.inr rfl) (by intro d hd; simp only [List.mem_singleton] at hd; omega) (takeAll_one gd10) (.cellN rfl inferInstance (get_put_other (by omega) q10) (by decide) rfl (.cell rfl inferInstance (get_put_other (by omega) c10) rfl (.cell rfl inferInstance (get_put_other (by omega) d10) rfl .nil))) ?_
  refine .inr ⟨fun e he => ?_, rfl⟩
  obtain ⟨j, hj, rfl⟩ := List.getElem_of_mem he
  exact I.no j hj hj
 ·
  refine ⟨_, _, _, _, _, _, _, .ret, hl3, by rfl, rfl, ?_⟩
  refine Go.name ?_
  intro h9 e9
  have k9 : Keeps [h2.n + 1] H3 h9 := by subst e9; exact (Keeps.rf _ _).pt (.inl (by simp)) _
  have n9 : h9.n = H3.n := by subst e9; rfl
  have hln := AHeap.lt hl3
  clear e9
  have q9 := k9.get gp3 (by simp; omega)
  have c9 := k9.get gi3 (by simp; omega)
  have d9 := k9.get h4 (by simp; omega)
  have gd9 := k9.get hd3 (by simp)
  (refine Go.run (g:=?_))
  refine Go.fin_marks (.inr rfl) (by intro d hd; simp only [List.mem_singleton] at hd; omega) (takeAll_one gd9) (.cellN rfl inferInstance (get_put_other (by omega) q9) (by simp [FE.pc]) rfl (.cell rfl inferInstance (get_put_other (by omega) c9) rfl (.cell rfl inferInstance (get_put_other (by omega) d9) rfl .nil))) ?_
  exact .inl ⟨j, b, c, qj, hfm, rfl⟩
end Go.Proofs.Ytfdglljlenkkbaa
namespace Go.Proofs.Ytfdglljlenkkbaa
set_option maxRecDepth 100000
attribute [local irreducible] Go GoR GoL
theorem m32 (c : Nat) : iBin .add .u32 (c : Int) ((1 : Nat) : Int) = some (.int .u32 (((c + 1) % 4294967296 : Nat) : Int)) := by
 have q : (((c + 1) % 4294967296 : Nat) : Int) = ((c : Int) + 1) % 4294967296 := by omega
 simp [iBin, IntKind.wrap, IntKind.bits, IntKind.signed, q]
theorem d32 (c : Nat) (hc : c < 4294967296) : iBin .sub .u32 (c : Int) ((1 : Nat) : Int) = some (.int .u32 (((c + 4294967295) % 4294967296 : Nat) : Int)) := by
 have q : (((c + 4294967295) % 4294967296 : Nat) : Int) = ((c : Int) - 1) % 4294967296 := by omega
 simp [iBin, IntKind.wrap, IntKind.bits, IntKind.signed, q]
set_option maxHeartbeats 8000000 in
theorem fnew_spec (tsn : Nat) (ht : tsn < 4294967296) (h : AHeap) : CallS Try.prog [] 7 [.int .u32 (tsn : Nat)] h fun v h' => ∃ fb, v = .pointer (some ⟨fb, 0, none⟩) ∧ FlO h' fb ((tsn + 4294967295) % 4294967296) tsn none 0 [] false 0 h.n := by
 have hd := d32 tsn ht
 (refine CallS.of1 Try.func7 rfl Try.ntmps7 Try.results7 rfl ?_)
 (refine Go.run (g:=?_))
 refine GoR.bin rfl rfl rfl rfl rfl rfl hd ?_
 (refine Go.run (g:=?_))
 (first|refine Go.finA rfl ?_|refine Go.finB rfl (hq:=?_))
 refine ⟨_, rfl, AHeap.get_push_same h _, .nil, (fun e he => by cases he), (fun e he => by cases he), List.nodup_nil, Nat.le_refl _, (fun j hj => by cases hj), (fun e he => by cases he)⟩
theorem fcum_spec (fb cum next : Nat) (ra : Option Addr) (rc : Nat) (l : List FE) (rec : Bool) (unt n0 : Nat) (h : AHeap) (F : FlO h fb cum next ra rc l rec unt n0) : CallS Try.prog [] 11 [.pointer (some ⟨fb, 0, none⟩)] h fun v h' => v = .int .u32 (cum : Nat) := by
 have fc := F.fc
 (refine CallS.of1 Try.func11 rfl Try.ntmps11 Try.results11 rfl ?_)
 (refine Go.run (g:=?_))
 refine GoR.eqRef rfl rfl rfl rfl (.inl rfl) rfl rfl (aEq_nilF flU _) ?_
 (refine Go.run (g:=?_))
 (first|refine Go.finA rfl ?_|refine Go.finB rfl (hq:=?_))
 rfl
theorem fnext_spec (fb cum next : Nat) (ra : Option Addr) (rc : Nat) (l : List FE) (rec : Bool) (unt n0 : Nat) (h : AHeap) (F : FlO h fb cum next ra rc l rec unt n0) : CallS Try.prog [] 9 [.pointer (some ⟨fb, 0, none⟩)] h fun v h' => v = .int .u32 (next : Nat) := by
 have fc := F.fc
 (refine CallS.of1 Try.func9 rfl Try.ntmps9 Try.results9 rfl ?_)
 (refine Go.run (g:=?_))
 refine GoR.eqRef rfl rfl rfl rfl (.inl rfl) rfl rfl (aEq_nilF flU _) ?_
 (refine Go.run (g:=?_))
 (first|refine Go.finA rfl ?_|refine Go.finB rfl (hq:=?_))
 rfl
def pcs (tsn : Nat) (a : Option Addr) (k c : Nat) : List Value := [.int .u32 (tsn : Nat), .int .u8 (0 : Nat), .int .u16 (3 : Nat), .int .u16 (0 : Nat), .int .u32 (0 : Nat), .slice a k c]
def SentI (h : AHeap) (fb cum next : Nat) (ra : Option Addr) (rc : Nat) (l : List FE) (rec : Bool) (unt n0 tsn k : Nat) (p : Int) (now : Nat) (v : Value) (h' : AHeap) : Prop :=
 (tsn = next ∧ 0 < k ∧ 0 ≤ p ∧ v = .int .i64 0 ∧ ∃ ra' rc' b da dc, FlO h' fb cum ((next + 1) % 4294967296) ra' rc' (l ++ [⟨b, tsn, da, k, dc, p.toNat, now, 0, false, 0⟩]) rec unt n0 ∧ (∀ j ∈ blk ra', j ∈ blk ra ∨ h.n ≤ j) ∧ h.n ≤ b) ∨ (¬ (tsn = next ∧ 0 < k ∧ 0 ≤ p) ∧ v = .int .i64 2 ∧ Same h h')
set_option maxHeartbeats 16000000 in
theorem sent_spec (fb cum next : Nat) (ra : Option Addr) (rc : Nat) (l : List FE) (rec : Bool) (unt n0 tsn k c now : Nat) (a : Option Addr) (p : Int) (hl : l.length ≤ 60000) (hk : k ≤ 255) (h : AHeap) (F : FlO h fb cum next ra rc l rec unt n0) (hn0 : n0 ≤ h.n) (D : Sv h 5 1 a k c (List.replicate k (.int .u8 0))) : CallS Try.prog (fb :: blk ra) 10 [.pointer (some ⟨fb, 0, none⟩), .agg (pcs tsn a k c).toArray, .int .i64 p, .int .u64 (now : Nat)] h fun v h' => SentI h fb cum next ra rc l rec unt n0 tsn k p now v h' := by
 have hfl := F.lt
 have fc := F.fc
 have hfb := AHeap.lt fc
 by_cases ht : tsn = next
 case neg =>
  unfold pcs
  (refine CallS.of4 Try.func10 rfl Try.ntmps10 Try.results10 rfl ?_)
  (refine Go.run (g:=?_))
  refine GoR.eqRef rfl rfl rfl rfl (.inl rfl) rfl rfl (aEq_nilF flU _) ?_
  (refine Go.run (g:=?_))
  (first|refine Go.finA rfl ?_|refine Go.finB rfl (hq:=?_))
  exact .inr ⟨fun q => ht q.1, rfl, (Same.refl h).push _⟩
 by_cases hk0 : 0 < k
 case neg =>
  unfold pcs
  (refine CallS.of4 Try.func10 rfl Try.ntmps10 Try.results10 rfl ?_)
  (refine Go.run (g:=?_))
  refine GoR.eqRef rfl rfl rfl rfl (.inl rfl) rfl rfl (aEq_nilF flU _) ?_
  (refine Go.run (g:=?_))
  (first|refine Go.finA rfl ?_|refine Go.finB rfl (hq:=?_))
  exact .inr ⟨fun q => hk0 q.2.1, rfl, (Same.refl h).push _⟩
 by_cases hp : 0 ≤ p
 case neg =>
  unfold pcs
  (refine CallS.of4 Try.func10 rfl Try.ntmps10 Try.results10 rfl ?_)
  (refine Go.run (g:=?_))
  refine GoR.eqRef rfl rfl rfl rfl (.inl rfl) rfl rfl (aEq_nilF flU _) ?_
  (refine Go.run (g:=?_))
  (first|refine Go.finA rfl ?_|refine Go.finB rfl (hq:=?_))
  exact .inr ⟨fun q => hp q.2.2, rfl, (Same.refl h).push _⟩
 obtain ⟨pn, rfl⟩ : ∃ pn : Nat, p = pn := ⟨p.toNat, by omega⟩
 subst ht
 have hrep : List.replicate k (Value.int .u8 0) = (List.replicate k (0 : UInt8)).map bv := by simp [bv]
 have zl : (List.replicate k (0 : UInt8)).length = k := by simp
 have hinc := m32 tsn
 unfold pcs
 (refine CallS.of4 Try.func10 rfl Try.ntmps10 Try.results10 rfl ?_)
 (refine Go.run (g:=?_))
 refine GoR.eqRef rfl rfl rfl rfl (.inl rfl) rfl rfl (aEq_nilF flU _) ?_
 (refine Go.run (g:=?_))
 refine GoR.name ?_
 intro h1 e1
 have s1 : Same h h1 := by subst e1; exact (Same.refl h).push _
 have n1 : h1.n = h.n + 1 := by subst e1; rfl
 have p1 : h1.get h.n = some (.cells [.int .u32 (tsn : Nat), .int .u8 (0 : Nat), .int .u16 (3 : Nat), .int .u16 (0 : Nat), .int .u32 (0 : Nat), .slice a k c] 36) := by subst e1; exact AHeap.get_push_same h _
 clear e1
 have rv1 : Rv Try.prog h1 1 a (List.replicate k (0 : UInt8)).length c ((List.replicate k (0 : UInt8)).map bv) := by
  rw [← hrep, zl]; exact (D.same s1).rv
 refine GoR.call rfl rfl rfl rfl rfl rfl rfl (((bclone_spec a c (List.replicate k 0) (by rw [zl]; omega) _ rv1).argA).mono ?_)
 rintro _ h2 ⟨b2, c2, rfl, D2, -⟩ s2
 rw [zl] at D2 ⊢
 rw [← hrep] at D2
 have p2 := s2.get p1
 have F2 := (F.same s1).same s2
 have n2 := s2.1
 clear rv1 hrep
 refine Go.runN (g:=?_)
 refine Go.name ?_
 intro h3 e3
 have k3 : Keeps [h.n] h2 h3 := by subst e3; exact (Keeps.rf _ _).pt (.inl (by simp)) _
 have n3 : h3.n = h2.n := by subst e3; rfl
 have p3 : h3.get h.n = some (.cells [.int .u32 (tsn : Nat), .int .u8 (0 : Nat), .int .u16 (3 : Nat), .int .u16 (0 : Nat), .int .u32 (0 : Nat), .slice b2 k c2] 36) := by subst e3; exact get_put_self p2
 clear e3
 have D3 := D2.keeps k3 (fun j hj hm => by
  have e1 := sv_tyF D2 j hj
  rw [List.mem_singleton.1 hm, tyF_cells p2] at e1
  cases e1)
 have F3 := F2.keepsL k3 p2 (fun c t e => by cases e; decide)
 have fc3 := F3.fc
 refine Go.loud (by kernel_rfl) rfl ?_
 (refine Go.runL (g:=?_))
 refine GoL.name ?_
 intro h4 e4
 have s4 : Same h3 h4 := by subst e4; exact (Same.refl h3).push _
 have n4 : h4.n = h3.n + 1 := by subst e4; rfl
 have g4 : h4.get h3.n = some (.cells [.int .u32 (tsn : Nat), .int .u8 (0 : Nat), .int .u16 (3 : Nat), .int .u16 (0 : Nat), .int .u32 (0 : Nat), .slice b2 k c2, .int .i64 (pn : Nat), .int .u64 (now : Nat), .int .i64 (0 : Nat), .bool false, .int .i64 (0 : Nat)] 66) := by subst e4; exact AHeap.get_push_same h3 _
 clear e4
 have F4 := F3.same s4
 have D4 := D3.same s4
 refine GoL.buildRo (c := [.pointer (some ⟨h3.n, 0, none⟩)]) rfl rfl rfl rfl rfl (by decide) (by rfl) (by rfl) ?_
 intro b5 h5 hb5 rb5 ob5 s5 n5
 have F5 := F4.same s5
 have D5 := D4.same s5
 have g5 := s5.get g4
 refine GoL.appendV rfl rfl rfl rfl rfl rfl F5.row hb5 (fun i hi => .inl (List.mem_cons_of_mem _ hi)) (by omega) (by omega) (by rfl) ?_
 intro ra' rc' h6 rd6 wr6 hwr6 hrd6 sv6 k6 o6
 have n6 := k6.1
 have rafb : ∀ j ∈ blk ra, j ≠ fb := fun j hj e => by
  have e1 := sv_tyF F5.row j hj
  rw [e, tyF_cells F5.fc] at e1
  cases e1
 have fc6 := k6.get F5.fc (fun hm => rafb _ hm rfl)
 (refine Go.runL (g:=?_))
 refine GoL.store (off := 0 + 2) (n := 1) (v := .slice ra' (l.length + 1) rc') (l := [.slice ra' (l.length + 1) rc']) rfl rfl rfl rfl rfl fc6 rfl rfl (by simp) rfl rfl (.inl (by simp)) ?_
 have hdis : ∀ b ∈ wr6, b ≠ h.n ∧ b ≠ fb ∧ b < h3.n ∧ b < h.n := fun b hb => by
  have h1 := hwr6 b hb
  have h2 := rafb b h1
  have h3 := F.row.lt b h1
  omega
 have hdis2 := hdis
 refine GoL.endC (g:=?_)
 refine Go.name ?_
 intro h7 e7
 have k7 : Keeps [fb] h6 h7 := by subst e7; exact (Keeps.rf _ _).pt (.inl (by simp)) _
 have n7 : h7.n = h6.n := by subst e7; rfl
 have fc7 : h7.get fb = some (.cells [.int .u32 (cum : Nat), .int .u32 (tsn : Nat), .slice ra' (l.length + 1) rc', .bool rec, .int .u32 (unt : Nat)] 62) := by subst e7; exact get_put_self fc6
 clear e7 hdis hdis2
 (refine Go.run (g:=?_))
 refine GoR.bin rfl rfl rfl rfl rfl rfl hinc ?_
 (refine Go.run (g:=?_))
 refine Go.name ?_
 intro h8 e8
 have k8 : Keeps [fb] h7 h8 := by subst e8; exact (Keeps.rf _ _).pt (.inl (by simp)) _
 have n8 : h8.n = h7.n := by subst e8; rfl
 have fc8 : h8.get fb = some (.cells [.int .u32 (cum : Nat), .int .u32 ((tsn + 1) % 4294967296 : Nat), .slice ra' (l.length + 1) rc', .bool rec, .int .u32 (unt : Nat)] 62) := by subst e8; exact get_put_self fc7
 clear e8
 (first|refine Go.finA rfl ?_|refine Go.finB rfl (hq:=?_))
 have kk : ∀ {j : Nat} {o : AObj}, h5.get j = some o → j ∉ blk ra → j ≠ fb → h8.get j = some o := fun {j o} g h1 h2 => k8.get (k7.get (k6.get g h1) (by simpa using h2)) (by simpa using h2)
 have fb5 := F5.fc
 have nty : ∀ {j : Nat} {c : List Value} {t : TypeId}, h5.get j = some (.cells c t) → t ≠ 64 → t ≠ 62 → h8.get j = some (.cells c t) := fun {j c t} g h1 h2 => kk g (fun hm => by
   have e1 := sv_tyF F5.row j hm
   rw [tyF_cells g] at e1; cases e1; exact h1 rfl) (fun e => by rw [e, fb5] at g; cases g; exact h2 rfl)
 have ksv : ∀ {a : Option Addr} {len cap : Nat} {cs : List Value}, Sv h5 5 1 a len cap cs → Sv h8 5 1 a len cap cs := fun d => by
  have d6 := d.keeps k6 (fun j hj hm => by
   have e1 := sv_tyF F5.row j hm
   rw [sv_tyF d j hj] at e1; cases e1)
  have nf : ∀ {H : AHeap} {c : List Value}, H.get fb = some (.cells c 62) → ∀ {a : Option Addr} {len cap : Nat} {cs : List Value}, Sv H 5 1 a len cap cs → ∀ j ∈ blk a, j ∉ [fb] := fun g => @fun a len cap cs d j hj hm => by
   have e1 := sv_tyF d j hj
   rw [List.mem_singleton.1 hm, tyF_cells g] at e1; cases e1
  have d7 := d6.keeps k7 (nf fc6 d6)
  exact d7.keeps k8 (nf fc7 d7)
 have sv8 : Sv h8 64 1 ra' (l.length + 1) rc' (ptrs l ++ [.pointer (some ⟨h3.n, 0, none⟩)]) := by
  have nf : ∀ {H : AHeap} {c : List Value}, H.get fb = some (.cells c 62) → ∀ {a : Option Addr} {len cap : Nat} {cs : List Value}, Sv H 64 1 a len cap cs → ∀ j ∈ blk a, j ∉ [fb] := fun g => @fun a len cap cs d j hj hm => by
   have e1 := sv_tyF d j hj
   rw [List.mem_singleton.1 hm, tyF_cells g] at e1; cases e1
  have d7 := sv6.keeps k7 (nf fc6 sv6)
  exact d7.keeps k8 (nf fc7 d7)
 have ltb : ∀ e ∈ l, e.b < h3.n := fun e he => AHeap.lt (F3.ent e he)
 refine .inl ⟨rfl, hk0, hp, rfl, ra', rc', h3.n, b2, c2, ⟨?_, ?_, fun e he => ?_, fun e he => ?_, ?_, F.own.1, fun j hj => ?_, fun e he => ?_⟩, fun j hj => ?_, by omega⟩
 · rw [List.length_append]; exact fc8
 · rw [List.length_append]; simpa [ptrs] using sv8
 ·
  rcases List.mem_append.1 he with he | he
  · exact nty (F5.ent e he) (by decide) (by decide)
  ·
   rw [List.mem_singleton.1 he]
   have := nty g5 (by decide) (by decide)
   simpa [FE.cs] using this
 ·
  rcases List.mem_append.1 he with he | he
  · exact ksv (F5.dat e he)
  · rw [List.mem_singleton.1 he]; exact ksv D5
 ·
  rw [List.map_append, List.nodup_append]
  refine ⟨F.nd, by simp, fun x hx y hy => ?_⟩
  obtain ⟨e, he, rfl⟩ := List.mem_map.1 hx
  simp only [List.map_cons, List.map_nil, List.mem_singleton] at hy
  have := ltb e he
  omega
 ·
  rcases o6 j hj with q | q
  · exact F.own.2.1 j q
  · omega
 ·
  rcases List.mem_append.1 he with he | he
  · exact F.own.2.2 e he
  · rw [List.mem_singleton.1 he]; simp only; omega
 ·
  rcases o6 j hj with q | q
  · exact .inl q
  · exact .inr (by omega)
end Go.Proofs.Ytfdglljlenkkbaa
namespace Go.Proofs.Ytfdglljlenkkbaa
set_option maxRecDepth 100000
attribute [local irreducible] Go GoR GoL
def spanN (a b : Nat) : Nat := (b + 4294967296 - a) % 4294967296
theorem sub32 (a b : Nat) (ha : a < 4294967296) (hb : b < 4294967296) : iBin .sub .u32 (b : Int) (a : Int) = some (.int .u32 ((spanN a b : Nat) : Int)) := by
 have e : ((spanN a b : Nat) : Int) = ((b : Int) - (a : Int)) % 4294967296 := by unfold spanN; omega
 simp [iBin, IntKind.wrap, IntKind.bits, IntKind.signed, e]
theorem span_lt (a b : Nat) : spanN a b < 4294967296 := Nat.mod_lt _ (by decide)
abbrev gcs (l : List (Nat × Nat)) : List Value := (l.map fun x => [Value.int .u16 x.1, .int .u16 x.2]).flatten
theorem gcs_len (l : List (Nat × Nat)) : (gcs l).length = l.length * 2 := by
 induction l with
 | nil => rfl
 | cons x l ih => simp only [gcs, List.map_cons, List.flatten_cons, List.length_append, List.length_cons, List.length_nil] at ih ⊢; omega
theorem gcs_get : ∀ {l : List (Nat × Nat)} {i : Nat} (hi : i < l.length), ((gcs l).drop (i * 2)).take 2 = [.int .u16 (l[i].1 : Nat), .int .u16 (l[i].2 : Nat)]
 | x :: l, 0, _ => rfl
 | x :: l, i + 1, hi => by
  have := gcs_get (l := l) (i := i) (by simpa using hi)
  rw [show (i + 1) * 2 = i * 2 + 1 + 1 by omega]
  exact this
def bef32 (a b : Nat) : Bool := decide (0 < spanN a b) && decide (spanN a b < 2147483648)
set_option maxHeartbeats 8000000 in
theorem before_spec (a b : Nat) (ha : a < 4294967296) (hb : b < 4294967296) (h : AHeap) : CallS Try.prog [] 26 [.int .u32 a, .int .u32 b] h fun v h' => v = .bool (bef32 a b) ∧ h' = h := by
 have hs := sub32 a b ha hb
 have hl := span_lt a b
 unfold bef32
 generalize spanN a b = s at *
 (refine CallS.of2 Try.func26 rfl Try.ntmps26 Try.results26 rfl ?_)
 (iterate 8 (refine Go.one (g:=?_)))
 refine GoR.bin rfl rfl rfl rfl rfl rfl hs ?_
 rcases Nat.lt_or_ge 0 s with s0 | s0
 case inr =>
  obtain rfl : s = 0 := by omega
  (refine Go.run (g:=?_))
  (first|refine Go.finA rfl ?_|refine Go.finB rfl (hq:=?_))
  exact ⟨rfl, rfl⟩
 (refine Go.run (g:=?_))
 refine GoR.com (v := .int .u32 (4294967295 : Nat)) rfl rfl rfl rfl rfl (by kernel_rfl) ?_
 (refine Go.run (g:=?_))
 (first|refine Go.finA rfl ?_|refine Go.finB rfl (hq:=?_))
 refine ⟨?_, rfl⟩
 simp only [retV]
 rw [decide_eq_true s0, Bool.true_and]
 exact congrArg Value.bool (decide_eq_decide.2 (by omega))
structure PrK (f : FuncId) (nb : Nat) (pr : Nat × Nat → Bool) (h : AHeap) : Prop where
 k : ∀ H, Same h H → ∀ g : Nat × Nat, g.1 < 65536 → g.2 < 65536 → CallS Try.prog [] f [.agg #[.int .u16 (g.1 : Nat), .int .u16 (g.2 : Nat)], .pointer (some ⟨nb, 0, none⟩)] H fun v h' => v = .bool (pr g)
def NPr (f : FuncId) (nb : Nat) : Value := .func (.func f) #[] #[.pointer (some ⟨nb, 0, none⟩)]
set_option maxHeartbeats 16000000 in
theorem indexf_spec (f : FuncId) (hcf : calls Try.prog f = true) (nb : Nat) (pr : Nat × Nat → Bool) (a : Option Addr) (gs : List (Nat × Nat)) (c : Nat) (hg : ∀ g ∈ gs, g.1 < 65536 ∧ g.2 < 65536) (hl : gs.length ≤ 1000) (h : AHeap) (hz : Rv Try.prog h 2 a gs.length c (gcs gs)) (K : PrK f nb pr h) : CallS Try.prog [] 31 [.slice a gs.length c, NPr f nb] h fun v h' => ∃ i : Int, v = .int .i64 i ∧ (decide (0 ≤ i)) = gs.any pr := by
 unfold NPr
 (refine CallS.of2 Try.func31 rfl Try.ntmps31 Try.results31 rfl ?_)
 (refine Go.run (g:=?_))
 refine Go.loop (α := Nat × AHeap) (fun x => [(8, .int .i64 x.1), (7, .int .i64 gs.length), (0, .slice a gs.length c), (1, .func (.func f) #[] #[.pointer (some ⟨nb, 0, none⟩)])]) (fun _ => []) (fun x => x.2) (fun x => x.1 ≤ gs.length ∧ Same h x.2 ∧ (gs.take x.1).any pr = false) (fun x => gs.length - x.1) (0, h) ⟨Nat.zero_le _, .refl h, rfl⟩ ⟨rfl, rfl, rfl, rfl, trivial⟩ rfl rfl ?_
 rintro ⟨i, H⟩ ⟨hi, sH, hno⟩
 simp only at hi sH hno ⊢
 rcases Nat.lt_or_ge i gs.length with i0 | i0
 ·
  have rvH := hz.same sH
  have c0 := gcs_get i0
  have hb2 : i * 2 + 2 ≤ (gcs gs).length := by rw [gcs_len]; omega
  have hb3 : i * 2 < (gcs gs).length := by rw [gcs_len]; omega
  have hgi := hg _ (List.getElem_mem i0)
  have htk : gs.take (i + 1) = gs.take i ++ [gs[i]] := by simp
  have hdr : gs.any pr = ((gs.take i).any pr || (pr gs[i] || (gs.drop (i + 1)).any pr)) := by
   have e : gs = gs.take i ++ gs[i] :: gs.drop (i + 1) := by rw [← List.drop_eq_getElem_cons i0, List.take_append_drop]
   exact (congrArg (List.any · pr) e).trans (by rw [List.any_append, List.any_cons])
  generalize gs[i] = g at *
  obtain ⟨g1, g2⟩ := g
  simp only at c0 hgi
  have kk := K.k H sH (g1, g2) hgi.1 hgi.2
  (refine Go.run (g:=?_))
  refine GoR.call rfl rfl rfl rfl rfl rfl hcf ((kk.args rfl).mono ?_)
  rintro _ h2 rfl s2
  cases hp : pr (g1, g2) with
  | true =>
   (refine Go.run (g:=?_))
   (first|refine Go.finA rfl ?_|refine Go.finB rfl (hq:=?_))
   refine ⟨(i : Int), rfl, ?_⟩
   rw [decide_eq_true (by omega), hdr, hp]; simp
  | false =>
   (refine Go.run (g:=?_))
   refine Go.again (i + 1, h2) ⟨i0, sH.trans s2, ?_⟩ (by simp only; omega) ⟨rfl, rfl, rfl, rfl, trivial⟩ rfl rfl
   simp only
   rw [htk, List.any_append, hno]; simp [hp]
 ·
  rw [List.take_of_length_le i0] at hno
  (refine Go.run (g:=?_))
  (first|refine Go.finA rfl ?_|refine Go.finB rfl (hq:=?_))
  exact ⟨-1, rfl, by rw [hno]; decide⟩
theorem contf_spec (f : FuncId) (hcf : calls Try.prog f = true) (nb : Nat) (pr : Nat × Nat → Bool) (a : Option Addr) (gs : List (Nat × Nat)) (c : Nat) (hg : ∀ g ∈ gs, g.1 < 65536 ∧ g.2 < 65536) (hl : gs.length ≤ 1000) (h : AHeap) (hz : Rv Try.prog h 2 a gs.length c (gcs gs)) (K : PrK f nb pr h) : CallS Try.prog [] 23 [.slice a gs.length c, NPr f nb] h fun v h' => v = .bool (gs.any pr) := by
 have hz2 := indexf_spec f hcf nb pr a gs c hg hl h hz K
 unfold NPr at *
 (refine CallS.of2 Try.func23 rfl Try.ntmps23 Try.results23 rfl ?_)
 (refine Go.run (g:=?_))
 refine GoR.call rfl rfl rfl rfl rfl rfl rfl (((hz2).argA).mono ?_)
 rintro _ h2 ⟨i, rfl, hi⟩ s2
 (refine Go.run (g:=?_))
 (first|refine Go.finA rfl ?_|refine Go.finB rfl (hq:=?_))
 rw [← hi]; rfl
def mayG (left : Nat) (g : Nat × Nat) : Bool := decide (g.1 < 1) || (decide (g.2 < g.1) || decide (left ≤ g.2))
def tellG (n : Nat) (g : Nat × Nat) : Bool := decide (g.1 ≤ n) && decide (n ≤ g.2)
set_option maxHeartbeats 8000000 in
theorem mayg_spec (nb left : Nat) (h : AHeap) (g0 : h.get nb = some (.cells [.int .u32 (left : Nat)] 22)) : PrK 30 nb (mayG left) h := ⟨fun H s g h1 h2 => by
 obtain ⟨a, b⟩ := g
 simp only at h1 h2 ⊢
 have gH := s.get g0
 unfold mayG
 simp only
 rcases Nat.lt_or_ge a 1 with c1 | c1
 ·
  (refine CallS.of2 Try.func30 rfl Try.ntmps30 Try.results30 rfl ?_)
  (refine Go.run (g:=?_))
  (first|refine Go.finA rfl ?_|refine Go.finB rfl (hq:=?_))
  rw [decide_eq_true c1]; rfl
 ·
  rcases Nat.lt_or_ge b a with c2 | c2
  ·
   (refine CallS.of2 Try.func30 rfl Try.ntmps30 Try.results30 rfl ?_)
   (refine Go.run (g:=?_))
   (first|refine Go.finA rfl ?_|refine Go.finB rfl (hq:=?_))
   rw [decide_eq_true c2, decide_eq_false (show ¬ a < 1 from by omega)]; rfl
  ·
   (refine CallS.of2 Try.func30 rfl Try.ntmps30 Try.results30 rfl ?_)
   (refine Go.run (g:=?_))
   (first|refine Go.finA rfl ?_|refine Go.finB rfl (hq:=?_))
   rw [decide_eq_false (show ¬ a < 1 from by omega), decide_eq_false (show ¬ b < a from by omega)]
   simp only [retV, Bool.false_or]
   exact congrArg Value.bool (decide_eq_decide.2 (by omega))⟩
set_option maxHeartbeats 8000000 in
theorem tellg_spec (nb n : Nat) (h : AHeap) (g0 : h.get nb = some (.cells [.int .u32 (n : Nat)] 22)) : PrK 24 nb (tellG n) h := ⟨fun H s g h1 h2 => by
 obtain ⟨a, b⟩ := g
 simp only at h1 h2 ⊢
 have gH := s.get g0
 unfold tellG
 simp only
 rcases Nat.lt_or_ge n a with c1 | c1
 ·
  (refine CallS.of2 Try.func24 rfl Try.ntmps24 Try.results24 rfl ?_)
  (refine Go.run (g:=?_))
  (first|refine Go.finA rfl ?_|refine Go.finB rfl (hq:=?_))
  rw [decide_eq_false (show ¬ a ≤ n from by omega)]; rfl
 ·
  (refine CallS.of2 Try.func24 rfl Try.ntmps24 Try.results24 rfl ?_)
  (refine Go.run (g:=?_))
  (first|refine Go.finA rfl ?_|refine Go.finB rfl (hq:=?_))
  rw [decide_eq_true c1]
  simp only [retV, Bool.true_and]
  exact congrArg Value.bool (decide_eq_decide.2 (by omega))⟩
def toldN (c : Nat) (gs : List (Nat × Nat)) (t : Nat) : Bool := decide (spanN c t = 0) || (decide (2147483648 < spanN c t) || gs.any (tellG (spanN c t)))
set_option maxHeartbeats 8000000 in
theorem told_spec (c t cb gb : Nat) (ga : Option Addr) (gc : Nat) (gs : List (Nat × Nat)) (hc : c < 4294967296) (ht : t < 4294967296) (hg : ∀ g ∈ gs, g.1 < 65536 ∧ g.2 < 65536) (hl : gs.length ≤ 1000) (h : AHeap) (gcb : h.get cb = some (.cells [.int .u32 (c : Nat)] 22)) (ggb : h.get gb = some (.cells [.slice ga gs.length gc] 29)) (hz : Rv Try.prog h 2 ga gs.length gc (gcs gs)) : CallS Try.prog [] 22 [.int .u32 (t : Nat), .pointer (some ⟨cb, 0, none⟩), .pointer (some ⟨gb, 0, none⟩)] h fun v h' => v = .bool (toldN c gs t) := by
 have hs := sub32 c t hc ht
 have hlt := span_lt c t
 have gblt := AHeap.lt ggb
 unfold toldN
 generalize spanN c t = n at *
 (refine CallS.of3 Try.func22 rfl Try.ntmps22 Try.results22 rfl ?_)
 (refine Go.run (g:=?_))
 refine GoR.bin rfl rfl rfl rfl rfl rfl hs ?_
 rcases Nat.eq_zero_or_pos n with z0 | z0
 ·
  (refine Go.run (g:=?_))
  (first|refine Go.finA rfl ?_|refine Go.finB rfl (hq:=?_))
  rw [decide_eq_true z0]; rfl
 rcases Nat.lt_or_ge 2147483648 n with z1 | z1
 ·
  (refine Go.run (g:=?_))
  (first|refine Go.finA rfl ?_|refine Go.finB rfl (hq:=?_))
  rw [decide_eq_true z1, Bool.true_or, Bool.or_true]; rfl
 (refine Go.run (g:=?_))
 refine GoR.name ?_
 intro h2 e2
 have s2 : Same h h2 := by subst e2; exact ((Same.refl h).push _).put (Nat.le_refl _) _
 have g2 : h2.get h.n = some (.cells [.int .u32 (n : Nat)] 22) := by subst e2; exact AHeap.get_put_same _ (by simp) _
 clear e2
 refine GoR.call rfl rfl rfl rfl rfl rfl rfl (((contf_spec _ (by kernel_rfl) h.n (tellG n) ga gs gc hg hl _ (hz.same s2) (tellg_spec h.n n h2 g2)).argA).mono ?_)
 rintro _ h3 rfl s3
 (refine Go.run (g:=?_))
 (first|refine Go.finA rfl ?_|refine Go.finB rfl (hq:=?_))
 rw [decide_eq_false (show ¬ n = 0 from by omega), decide_eq_false (show ¬ 2147483648 < n from by omega), Bool.false_or, Bool.false_or]; rfl
end Go.Proofs.Ytfdglljlenkkbaa
namespace Go.Proofs.Ytfdglljlenkkbaa
set_option maxRecDepth 100000
attribute [local irreducible] Go GoR GoL
section
variable {P : Program} {h : AHeap} {o : Oper} {ov : Ov} {W : Nat → Prop} {q : Bool} {N : Nat} {ops : Array Oper} {os : List Oper} {k : List It} {df : List Nat} {Q : PQ} {d : Nat} {tr : List (Option LE)}
theorem S.minN {x y : Operand} {ts : Array TypeId} {kd : IntKind} {i j : Int} (ho : o.op = .call ⟨.builtin .min, #[x, y], ts⟩) (hx : evO ov x = some (.int kd i)) (hy : evO ov y = some (.int kd j)) : ∀ tm, Rp ov tm → OpOk P o tm h ⟨.int kd (if j < i then j else i), h, [], [], false, true⟩ := fun tm hr => by
 refine OpOk.flat (by simp [ho]) rfl fun m w A hxx => ?_
 have a1 := hxx x (by simp [ho, Op.operands, Call.operands])
 have a2 := hxx y (by simp [ho, Op.operands, Call.operands])
 rw [evO_eq hr hx] at a1
 rw [evO_eq hr hy] at a2
 have a1 := VRel.eq_of_flat a1 rfl
 have a2 := VRel.eq_of_flat a2 rfl
 rw [exec_builtin ho]
 simp [builtin, Builtin.min_, Builtin.min2, a1, a2]
theorem GoL.minN {x y : Operand} {ts : Array TypeId} {kd : IntKind} {i j : Int} (ho : o.op = .call ⟨.builtin .min, #[x, y], ts⟩) (hd : o.dst = some d) (hN : dOk d N = true) (hgd : o.guard = none) (hx : evO ov x = some (.int kd i)) (hy : evO ov y = some (.int kd j)) (g : GoL P W q N ops (tr ++ [none]) os k ((d, .int kd (if j < i then j else i)) :: ov) df h Q) : GoL P W q N ops tr (o :: os) k ov df h Q :=
 GoL.step (r := ⟨.int kd (if j < i then j else i), h, [], [], false, true⟩) none ⟨rfl, rfl, rfl, rfl, rfl⟩ hgd hd hN (S.minN ho hx hy) (fun i hi => by cases hi) g
end
structure FlW (h : AHeap) (fb : Nat) (fcs : List Value) (ra : Option Addr) (rc : Nat) (l : List FE) (n0 : Nat) : Prop where
 fc : h.get fb = some (.cells fcs 62)
 row : Sv h 64 1 ra l.length rc (ptrs l)
 ent : ∀ e ∈ l, h.get e.b = some (.cells e.cs 66)
 dat : ∀ e ∈ l, Sv h 5 1 e.da e.dl e.dc (List.replicate e.dl (.int .u8 0))
 nd : (l.map FE.b).Nodup
 own : n0 ≤ fb ∧ (∀ j ∈ blk ra, n0 ≤ j) ∧ ∀ e ∈ l, n0 ≤ e.b
def fcs (cum next : Nat) (a : Option Addr) (n c : Nat) (rec : Bool) (unt : Nat) : List Value := [.int .u32 (cum : Nat), .int .u32 (next : Nat), .slice a n c, .bool rec, .int .u32 (unt : Nat)]
abbrev kF : List (Option TypeId) := [some 62, some 64, some 66, some 5]
section
variable {h h' : AHeap} {fb cum next : Nat} {ra : Option Addr} {rc : Nat} {l : List FE} {rec : Bool} {unt n0 : Nat} {f f' : List Value}
theorem FlO.w (F : FlO h fb cum next ra rc l rec unt n0) : FlW h fb (fcs cum next ra l.length rc rec unt) ra rc l n0 := ⟨F.fc, F.row, F.ent, F.dat, F.nd, F.own⟩
theorem FlW.same (F : FlW h fb f ra rc l n0) (s : Same h h') : FlW h' fb f ra rc l n0 := ⟨s.get F.fc, F.row.same s, fun e he => s.get (F.ent e he), fun e he => (F.dat e he).same s, F.nd, F.own⟩
theorem FlW.keeps (F : FlW h fb f ra rc l n0) {wr : List Nat} (k : Keeps wr h h') (hw : ∀ j ∈ wr, tyF h j ∉ kF) : FlW h' fb f ra rc l n0 := by
 have nt : ∀ {j : Nat} {t : TypeId}, tyF h j = some t → (some t : Option TypeId) ∈ kF → j ∉ wr := fun {j t} e m hm => hw j hm (by rw [e]; exact m)
 exact ⟨k.get F.fc (nt (tyF_cells F.fc) (by simp)), F.row.keeps k (fun i hi => nt (sv_tyF F.row i hi) (by simp)), fun e he => k.get (F.ent e he) (nt (tyF_cells (F.ent e he)) (by simp)), fun e he => (F.dat e he).keeps k (fun i hi => nt (sv_tyF (F.dat e he) i hi) (by simp)), F.nd, F.own⟩
theorem FlW.keepsL (F : FlW h fb f ra rc l n0) {b : Nat} (k : Keeps [b] h h') {o : AObj} (g : h.get b = some o) (ho : ∀ c t, o = .cells c t → (some t : Option TypeId) ∉ kF) : FlW h' fb f ra rc l n0 :=
 F.keeps k fun j hj => by
  rw [List.mem_singleton.1 hj]
  unfold tyF
  rw [g]
  cases o with
  | cells c t => exact ho c t rfl
  | _ => simp
theorem FlW.lt (F : FlW h fb f ra rc l n0) : ∀ j ∈ wrF fb ra l, j < h.n := fun j hj => by
 unfold wrF at hj
 rcases List.mem_cons.1 hj with rfl | hj
 · exact AHeap.lt F.fc
 ·
  rcases List.mem_append.1 hj with hj | hj
  · exact F.row.lt j hj
  ·
   obtain ⟨e, he, rfl⟩ := List.mem_map.1 hj
   exact AHeap.lt (F.ent e he)
theorem FlW.setF (F : FlW h fb f ra rc l n0) (k : Keeps [fb] h h') (g : h'.get fb = some (.cells f' 62)) : FlW h' fb f' ra rc l n0 := by
 have nf : ∀ {a : Option Addr} {t : TypeId} {sz len cap : Nat} {cs : List Value}, Sv h t sz a len cap cs → t ≠ 62 → ∀ j ∈ blk a, j ∉ [fb] := fun d ht j hj hm => by
  have e1 := sv_tyF d j hj
  rw [List.mem_singleton.1 hm, tyF_cells F.fc] at e1
  cases e1; exact ht rfl
 exact ⟨g, F.row.keeps k (nf F.row (by decide)), fun e he => k.get (F.ent e he) (fun hm => by
  have g1 := F.ent e he
  rw [List.mem_singleton.1 hm, F.fc] at g1; cases g1), fun e he => (F.dat e he).keeps k (nf (F.dat e he) (by decide)), F.nd, F.own⟩
theorem FlW.upd (F : FlW h fb f ra rc l n0) {i : Nat} (q : i < l.length) {e' : FE} (hb : e'.b = l[i].b) (hd : e'.da = l[i].da ∧ e'.dl = l[i].dl ∧ e'.dc = l[i].dc) (k : Keeps [l[i].b] h h') (g : h'.get l[i].b = some (.cells e'.cs 66)) : FlW h' fb f ra rc (l.set i e') n0 := by
 have hx := F.ent _ (List.getElem_mem q)
 have nf : fb ∉ [l[i].b] := fun hm => by
  have g1 := F.fc; rw [List.mem_singleton.1 hm, hx] at g1; cases g1
 have nsv : ∀ {t : TypeId} {sz : Nat} {a : Option Addr} {len cap : Nat} {cs : List Value}, Sv h t sz a len cap cs → t ≠ 66 → ∀ j ∈ blk a, j ∉ [l[i].b] := fun d ht j hj hm => by
  have e1 := sv_tyF d j hj
  rw [List.mem_singleton.1 hm, tyF_cells hx] at e1
  cases e1; exact ht rfl
 have mem : ∀ x ∈ l.set i e', x = e' ∨ ∃ j, ∃ hj : j < l.length, j ≠ i ∧ x = l[j] := fun x hx => by
  obtain ⟨j, hj, rfl⟩ := List.getElem_of_mem hx
  rw [List.length_set] at hj
  by_cases hji : i = j
  · subst hji; left; simp
  · right; exact ⟨j, hj, Ne.symm hji, by rw [List.getElem_set_ne hji]⟩
 refine ⟨k.get F.fc nf, by rw [List.length_set, ptrs_set q hb]; exact F.row.keeps k (nsv F.row (by decide)), fun x hx => ?_, fun x hx => ?_, by rw [bs_set q hb]; exact F.nd, F.own.1, F.own.2.1, fun x hx => ?_⟩
 ·
  rcases mem x hx with rfl | ⟨j, hj, hne, rfl⟩
  · rw [hb]; exact g
  · exact k.get (F.ent _ (List.getElem_mem hj)) (by rw [List.mem_singleton]; exact nd_ne F.nd hj q hne)
 ·
  rcases mem x hx with rfl | ⟨j, hj, hne, rfl⟩
  ·
   rw [hd.1, hd.2.1, hd.2.2]
   exact (F.dat _ (List.getElem_mem q)).keeps k (nsv (F.dat _ (List.getElem_mem q)) (by decide))
  · exact (F.dat _ (List.getElem_mem hj)).keeps k (nsv (F.dat _ (List.getElem_mem hj)) (by decide))
 ·
  rcases mem x hx with rfl | ⟨j, hj, hne, rfl⟩
  · rw [hb]; exact F.own.2.2 _ (List.getElem_mem q)
  · exact F.own.2.2 _ (List.getElem_mem hj)
theorem subA_add (a : Option Addr) (i j : Nat) : subA (subA a i) j = subA a (i + j) := by
 cases a with
 | none => rfl
 | some a => simp [subA, Nat.add_assoc]
theorem blk_subA (a : Option Addr) (i : Nat) : blk (subA a i) = blk a := by
 cases a with
 | none => rfl
 | some a => rfl
theorem ptrs_drop (l : List FE) (i : Nat) : ptrs (l.drop i) = (ptrs l).drop i := by simp [ptrs]
theorem FlW.rowd (F : FlW h fb f ra rc l n0) {i : Nat} (hi : i ≤ l.length) : Sv h 64 1 (subA ra i) (l.length - i) (rc - i) (ptrs (l.drop i)) := by
 have := F.row.sub (l := i) (r := l.length) hi (Nat.le_refl _)
 rw [Nat.mul_one, Nat.mul_one, ← ptrs_drop, List.take_of_length_le (by rw [ptrs_len, List.length_drop]; omega)] at this
 exact this
theorem FlW.o {i : Nat} (hi : i ≤ l.length) (F : FlW h fb (fcs cum next (subA ra i) (l.length - i) (rc - i) rec unt) ra rc l n0) : FlO h fb cum next (subA ra i) (rc - i) (l.drop i) rec unt n0 := by
 have e : (l.drop i).length = l.length - i := List.length_drop
 refine ⟨by rw [e]; exact F.fc, by rw [e]; exact F.rowd hi, fun x hx => F.ent x (List.mem_of_mem_drop hx), fun x hx => F.dat x (List.mem_of_mem_drop hx), ?_, F.own.1, by rw [blk_subA]; exact F.own.2.1, fun x hx => F.own.2.2 x (List.mem_of_mem_drop hx)⟩
 rw [List.map_drop]
 exact F.nd.sublist (List.drop_sublist _ _)
end
def mayB (cum next c : Nat) (gs : List (Nat × Nat)) : Bool := (!bef32 c cum) && (bef32 c next && !(gs.any (mayG (spanN c next))))
set_option maxHeartbeats 16000000 in
theorem may_spec (fb cum next : Nat) (ra : Option Addr) (rc : Nat) (l : List FE) (rec : Bool) (unt n0 c : Nat) (ga : Option Addr) (gc : Nat) (gs : List (Nat × Nat)) (hc : c < 4294967296) (hcum : cum < 4294967296) (hnx : next < 4294967296) (hg : ∀ g ∈ gs, g.1 < 65536 ∧ g.2 < 65536) (hl : gs.length ≤ 1000) (h : AHeap) (F : FlO h fb cum next ra rc l rec unt n0) (hz : Rv Try.prog h 2 ga gs.length gc (gcs gs)) : CallS Try.prog [] 21 [.pointer (some ⟨fb, 0, none⟩), .int .u32 (c : Nat), .slice ga gs.length gc] h fun v h' => v = .bool (mayB cum next c gs) := by
 have fc := F.fc
 have b1 := before_spec c cum hc hcum
 have b2 := before_spec c next hc hnx
 have hs := sub32 c next hc hnx
 unfold mayB
 (refine CallS.of3 Try.func21 rfl Try.ntmps21 Try.results21 rfl ?_)
 (refine Go.run (g:=?_))
 refine GoR.call rfl rfl rfl rfl rfl rfl rfl (((b1 _).argA).mono ?_)
 rintro _ hA ⟨rfl, rfl⟩ -
 cases h1 : bef32 c cum with
 | true =>
  (refine Go.run (g:=?_))
  (first|refine Go.finA rfl ?_|refine Go.finB rfl (hq:=?_))
  rfl
 | false =>
 (refine Go.run (g:=?_))
 refine GoR.call rfl rfl rfl rfl rfl rfl rfl (((b2 _).argA).mono ?_)
 rintro _ hB ⟨rfl, rfl⟩ -
 cases h2 : bef32 c next with
 | false =>
  (refine Go.run (g:=?_))
  (first|refine Go.finA rfl ?_|refine Go.finB rfl (hq:=?_))
  rfl
 | true =>
 (refine Go.run (g:=?_))
 refine GoR.bin rfl rfl rfl rfl rfl rfl hs ?_
 (refine Go.run (g:=?_))
 refine GoR.name ?_
 intro h3 e3
 have s3 : Same hB h3 := by subst e3; exact ((Same.refl hB).push _).put (Nat.le_refl _) _
 have g3 : h3.get hB.n = some (.cells [.int .u32 (spanN c next : Nat)] 22) := by subst e3; exact AHeap.get_put_same _ (by simp) _
 clear e3
 refine GoR.call rfl rfl rfl rfl rfl rfl rfl (((contf_spec _ (by kernel_rfl) hB.n (mayG (spanN c next)) ga gs gc hg hl _ (hz.same s3) (mayg_spec hB.n (spanN c next) h3 g3)).argA).mono ?_)
 rintro _ h4 rfl s4
 (refine Go.run (g:=?_))
 (first|refine Go.finA rfl ?_|refine Go.finB rfl (hq:=?_))
 rfl
end Go.Proofs.Ytfdglljlenkkbaa
namespace Go.Proofs.Ytfdglljlenkkbaa
set_option maxRecDepth 100000
def newB (c : Nat) (gs : List (Nat × Nat)) (e : FE) : Bool := !decide (e.st = 2) && toldN c gs e.tsn
def ackE (c : Nat) (gs : List (Nat × Nat)) (e : FE) : FE := if newB c gs e = true then { e with st := 2 } else e
theorem ackE_b (c : Nat) (gs : List (Nat × Nat)) (e : FE) : (ackE c gs e).b = e.b ∧ (ackE c gs e).da = e.da ∧ (ackE c gs e).dl = e.dl ∧ (ackE c gs e).dc = e.dc := by unfold ackE; split <;> exact ⟨rfl, rfl, rfl, rfl⟩
def bytE (c : Nat) (gs : List (Nat × Nat)) (p : Nat) (e : FE) : Nat := if newB c gs e = true ∧ e.st = 0 ∧ e.path = p then e.dl else 0
def sumP (p : Nat) : List (Nat × Nat) → Nat
 | [] => 0
 | b :: l => (if b.1 = p then b.2 else 0) + sumP p l
theorem sumP_append (p : Nat) (l k : List (Nat × Nat)) : sumP p (l ++ k) = sumP p l + sumP p k := by
 induction l with
 | nil => simp [sumP]
 | cons e l ih => simp only [List.cons_append, sumP, ih]; omega
theorem sumP_mem {p n : Nat} {l : List (Nat × Nat)} (h : (p, n) ∈ l) : n ≤ sumP p l := by
 induction l with
 | nil => cases h
 | cons b l ih =>
  rcases List.mem_cons.1 h with rfl | h
  · simp [sumP]
  · have := ih h; simp only [sumP]; omega
structure BOk (c : Nat) (gs : List (Nat × Nat)) (l : List FE) (B : List (Nat × Nat)) : Prop where
 s : ∀ p, sumP p B = sumL (bytE c gs p) l
 m : ∀ b ∈ B, 0 < b.2 ∧ ∃ e ∈ l, e.path = b.1
 n : B.length ≤ l.length
theorem BOk.add {c : Nat} {gs : List (Nat × Nat)} {l : List FE} {B B' : List (Nat × Nat)} {e : FE} (k : BOk c gs l B) (h0 : newB c gs e = true) (h1 : e.st = 0) (h2 : 0 < e.dl) (A : AddR B e.path e.dl B') : BOk c gs (l ++ [e]) B' := by
 have hb : ∀ p, bytE c gs p e = if e.path = p then e.dl else 0 := fun p => by unfold bytE; simp [h0, h1]
 obtain ⟨i, ⟨q, hq, rfl⟩ | ⟨hi, rfl⟩⟩ := A
 ·
  have d1 : B = B.take i ++ B[i] :: B.drop (i + 1) := by rw [← List.drop_eq_getElem_cons q, List.take_append_drop]
  have d2 : B.set i (e.path, B[i].2 + e.dl) = B.take i ++ (e.path, B[i].2 + e.dl) :: B.drop (i + 1) := List.set_eq_take_append_cons_drop (l := B) (i := i) (a := (e.path, B[i].2 + e.dl)) |>.trans (if_pos q)
  refine ⟨fun p => ?_, fun b hb' => ?_, by rw [List.length_set, List.length_append]; have := k.n; simp; omega⟩
  ·
   have s1 := k.s p
   rw [d1, sumP_append] at s1
   simp only [sumP] at s1
   rw [d2, sumP_append, sumL_append]
   simp only [sumP, sumL, hb p]
   rw [hq] at s1
   split <;> rename_i hp
   · rw [if_pos hp] at s1; omega
   · rw [if_neg hp] at s1; omega
  ·
   rw [d2] at hb'
   rcases List.mem_append.1 hb' with hx | hx
   ·
    obtain ⟨a, x, hx1, hx2⟩ := k.m b (List.mem_of_mem_take hx)
    exact ⟨a, x, List.mem_append_left _ hx1, hx2⟩
   ·
    rcases List.mem_cons.1 hx with rfl | hx
    · exact ⟨by simp only; omega, e, by simp, rfl⟩
    ·
     obtain ⟨a, x, hx1, hx2⟩ := k.m b (List.mem_of_mem_drop hx)
     exact ⟨a, x, List.mem_append_left _ hx1, hx2⟩
 ·
  refine ⟨fun p => ?_, fun b hb' => ?_, by simp only [List.length_append, List.length_take, List.length_cons, List.length_drop, List.length_nil]; have := k.n; omega⟩
  ·
   have s1 := k.s p
   rw [← List.take_append_drop i B, sumP_append] at s1
   rw [sumP_append, sumL_append]
   simp only [sumP, sumL, hb p]
   omega
  ·
   rcases List.mem_append.1 hb' with hx | hx
   ·
    obtain ⟨a, x, hx1, hx2⟩ := k.m b (List.mem_of_mem_take hx)
    exact ⟨a, x, List.mem_append_left _ hx1, hx2⟩
   ·
    rcases List.mem_cons.1 hx with rfl | hx
    · exact ⟨h2, e, by simp, rfl⟩
    ·
     obtain ⟨a, x, hx1, hx2⟩ := k.m b (List.mem_of_mem_drop hx)
     exact ⟨a, x, List.mem_append_left _ hx1, hx2⟩
theorem BOk.skip {c : Nat} {gs : List (Nat × Nat)} {l : List FE} {B : List (Nat × Nat)} {e : FE} (k : BOk c gs l B) (h0 : ¬ (newB c gs e = true ∧ e.st = 0)) : BOk c gs (l ++ [e]) B :=
 ⟨fun p => by rw [sumL_append, k.s p]; simp only [sumL]; rw [show bytE c gs p e = 0 from by unfold bytE; rw [if_neg (fun q => h0 ⟨q.1, q.2.1⟩)]]; rfl, fun b hb => let ⟨a, x, h1, h2⟩ := k.m b hb; ⟨a, x, List.mem_append_left _ h1, h2⟩, by rw [List.length_append]; have := k.n; omega⟩
theorem BOk.nil (c : Nat) (gs : List (Nat × Nat)) : BOk c gs [] [] := ⟨fun p => rfl, (fun b hb => by cases hb), Nat.le_refl _⟩
theorem bytE_le {c : Nat} {gs : List (Nat × Nat)} {l : List FE} (hd : ∀ e ∈ l, e.dl ≤ 255) (p : Nat) : sumL (bytE c gs p) l ≤ 255 * l.length := sumL_le fun e he => by
 have := hd e he
 unfold bytE; split <;> omega
theorem BOk.lt {c : Nat} {gs : List (Nat × Nat)} {l : List FE} {B : List (Nat × Nat)} (k : BOk c gs l B) (hd : ∀ e ∈ l, e.dl ≤ 255) (hp : ∀ e ∈ l, e.path < 9223372036854775808) (hl : l.length ≤ 1000000) : ∀ b ∈ B, b.1 < 9223372036854775808 ∧ b.2 < 4611686018427387904 := fun b hb => by
 obtain ⟨-, x, hx1, hx2⟩ := k.m b hb
 have h1 := sumP_mem (p := b.1) (n := b.2) hb
 rw [k.s] at h1
 have h2 := bytE_le (c := c) (gs := gs) hd b.1
 have := hp x hx1
 exact ⟨by omega, by omega⟩
def drpB (c : Nat) (e : FE) : Bool := decide (2147483648 ≤ spanN 1 (spanN c e.tsn))
def markE (e : FE) : FE := if e.st = 0 then (if e.missed + 1 < 3 ∨ e.again = true then { e with missed := e.missed + 1 } else { e with missed := e.missed + 1, st := 1 }) else e
theorem markE_b (e : FE) : (markE e).b = e.b ∧ (markE e).da = e.da ∧ (markE e).dl = e.dl ∧ (markE e).dc = e.dc := by unfold markE; split <;> (try split) <;> exact ⟨rfl, rfl, rfl, rfl⟩
def lastI : Nat → Int
 | 0 => -1
 | m + 1 => (m : Nat)
theorem lastI_add (m : Nat) (hm : m ≤ 1000000) : iBin .add .i64 (lastI m) 1 = some (.int .i64 (m : Nat)) := by
 cases m with
 | zero => rfl
 | succ m => simp [iBin, lastI, IntKind.wrap_i64]; omega
theorem subA_zero (a : Option Addr) : subA a (0 * 1) = a := by
 cases a with
 | none => rfl
 | some a => simp [subA]
theorem subA_z (a : Option Addr) : subA a 0 = a := by
 cases a with
 | none => rfl
 | some a => simp [subA]
structure AS (n c : Nat) (ga : Option Addr) (gc : Nat) (gs : List (Nat × Nat)) (n0 : Nat) (h : AHeap) : Prop where
 r : h.get (n + 2) = some (.cells [.int .i64 0, .bool false, .slice none 0 0, .int .i64 0, .int .u64 0, .slice none 0 0] 43)
 cc : h.get n = some (.cells [.int .u32 (c : Nat)] 22)
 gg : h.get (n + 1) = some (.cells [.slice ga gs.length gc] 29)
 gz : Rv Try.prog h 2 ga gs.length gc (gcs gs)
 gl : ∀ j ∈ blk ga, j < n0
 n0 : n0 ≤ n
section
variable {n tb fb : Nat} {f : List Value} {ra : Option Addr} {rc : Nat} {l : List FE} {n0 c : Nat} {ga : Option Addr} {gc : Nat} {gs : List (Nat × Nat)} {adv : Bool} {i : Nat} {ba : Option Addr} {B : List (Nat × Nat)} {m : Nat} {pth : Int} {tks : Nat} {h h' : AHeap}
theorem AS.same (k : AS n c ga gc gs n0 h) (s : Same h h') : AS n c ga gc gs n0 h' := ⟨s.get k.r, s.get k.cc, s.get k.gg, k.gz.same s, k.gl, k.n0⟩
theorem AS.keeps (k : AS n c ga gc gs n0 h) {wr : List Nat} (kk : Keeps wr h h') (hw : ∀ j ∈ wr, n0 ≤ j ∧ (j < n ∨ n + 2 < j)) : AS n c ga gc gs n0 h' :=
 ⟨kk.get k.r (fun hm => by have := hw _ hm; omega), kk.get k.cc (fun hm => by have := hw _ hm; omega), kk.get k.gg (fun hm => by have := hw _ hm; omega), k.gz.keeps kk (fun j hj hm => by have h1 := hw _ hm; have h2 := k.gl j hj; omega), k.gl, k.n0⟩
variable (n tb fb f ra rc l n0 c ga gc gs adv i ba B m pth tks h) in
structure AI : Prop where
 F : FlW h fb f ra rc (mixL (ackE c gs) l i) n0
 t : h.get tb = some (.cells [.int .i64 0, .bool adv, .slice ba B.length B.length, .int .i64 pth, .int .u64 (tks : Nat), .slice none 0 0] 43)
 S : AS n c ga gc gs n0 h
 pb : PB h ba B
 bo : ∀ j ∈ blk ba, tb < j
 ok : BOk c gs (l.take i) B
 mi : m ≤ i
 nn : (∀ e ∈ l.take i, newB c gs e = false) → m = 0 ∧ B = [] ∧ pth = -1
 tn : n + 2 < tb ∧ tb < h.n
theorem AI.by_ (k : AI n tb fb f ra rc l n0 c ga gc gs adv i ba B m pth tks h) (s : Same h h') : AI n tb fb f ra rc l n0 c ga gc gs adv i ba B m pth tks h' :=
 ⟨k.F.same s, s.get k.t, k.S.same s, k.pb.same s, k.bo, k.ok, k.mi, k.nn, k.tn.1, Nat.lt_of_lt_of_le k.tn.2 s.1⟩
theorem AI.skip (k : AI n tb fb f ra rc l n0 c ga gc gs adv i ba B m pth tks h) (q : i < l.length) (h0 : newB c gs l[i] = false) : AI n tb fb f ra rc l n0 c ga gc gs adv (i + 1) ba B m pth tks h := by
 have e0 : ackE c gs l[i] = l[i] := by unfold ackE; rw [h0]; rfl
 have e1 : mixL (ackE c gs) l (i + 1) = mixL (ackE c gs) l i := by
  rw [mixL_succ _ q, e0]
  conv => lhs; rw [← mixL_at (ackE c gs) q]
  exact List.set_getElem_self _
 have tk : l.take (i + 1) = l.take i ++ [l[i]] := by simp
 exact ⟨by rw [e1]; exact k.F, k.t, k.S, k.pb, k.bo, by rw [tk]; exact k.ok.skip (fun z => by rw [h0] at z; cases z.1), Nat.le_succ_of_le k.mi, fun ha => k.nn fun e he => ha e (by rw [tk]; exact List.mem_append_left _ he), k.tn⟩
theorem AI.new_ (F : FlW h fb f ra rc (mixL (ackE c gs) l i) n0) (t : h.get tb = some (.cells [.int .i64 0, .bool adv, .slice ba B.length B.length, .int .i64 pth, .int .u64 (tks : Nat), .slice none 0 0] 43)) (S : AS n c ga gc gs n0 h) (pb : PB h ba B) (bo : ∀ j ∈ blk ba, tb < j) (q : i < l.length) (ok : BOk c gs (l.take (i + 1)) B) (tn : n + 2 < tb ∧ tb < h.n) (hb : ∀ e ∈ l, e.b < n) (h0 : newB c gs l[i] = true) (kk : Keeps [l[i].b] h h') (g : h'.get l[i].b = some (.cells (ackE c gs l[i]).cs 66)) : AI n tb fb f ra rc l n0 c ga gc gs adv (i + 1) ba B (i + 1) pth tks h' := by
 have qm : i < (mixL (ackE c gs) l i).length := by rw [mixL_len]; exact q
 have em := mixL_at (ackE c gs) q
 have lb := hb _ (List.getElem_mem q)
 have ob := F.own.2.2 _ (List.getElem_mem qm)
 rw [em] at ob
 have F' := F.upd qm (e' := ackE c gs l[i]) (by rw [em]; exact (ackE_b c gs _).1) (by rw [em]; exact (ackE_b c gs _).2) (by rw [em]; exact kk) (by rw [em]; exact g)
 rw [← mixL_succ _ q] at F'
 have tk : l.take (i + 1) = l.take i ++ [l[i]] := by simp
 have m1 := kk.1
 refine ⟨F', kk.get t (by simp; omega), S.keeps kk (fun j hj => ?_), pb.keeps kk (fun j hj hm => ?_), bo, ok, Nat.le_refl _, fun ha => ?_, tn.1, by omega⟩
 · rw [List.mem_singleton.1 hj]; exact ⟨ob, .inl lb⟩
 ·
  have h1 := bo j hj
  rw [List.mem_singleton.1 hm] at h1; omega
 ·
  have := ha l[i] (by rw [tk]; exact List.mem_append_right _ (List.mem_singleton.2 rfl))
  rw [h0] at this; cases this
end
end Go.Proofs.Ytfdglljlenkkbaa
namespace Go.Proofs.Ytfdglljlenkkbaa
open Go.Sort
set_option maxRecDepth 100000
attribute [local irreducible] Go GoR GoL
abbrev ksI (d : Array Int) : List Value := d.toList.map (Value.int .i64)
theorem ksI_len (d : Array Int) : (ksI d).length = d.size := by simp
theorem ksI_get {d : Array Int} {i : Nat} (hi : i < d.size) : (ksI d)[i]? = some (.int .i64 d[i]!) := by
 simp [getElem!_pos, hi]
theorem ksI_swp (d : Array Int) (i j : Nat) : ((ksI d).set i (.int .i64 d[j]!)).set j (.int .i64 d[i]!) = ksI (swp d i j) := by
 unfold ksI
 simp [swp, List.map_set]
set_option maxHeartbeats 4000000 in
theorem nanI_spec (x : Int) (h : AHeap) : CallS Try.prog [] 58 [.int .i64 x] h fun v h' => v = .bool false ∧ h' = h := by
 (refine CallS.of1 Try.func58 rfl Try.ntmps58 Try.results58 rfl ?_)
 (refine Go.run (g:=?_))
 (first|refine Go.finA rfl ?_|refine Go.finB rfl (hq:=?_))
 simp [retV]
set_option maxHeartbeats 4000000 in
theorem lessI_spec (x y : Int) (h : AHeap) : CallS Try.prog [] 47 [.int .i64 x, .int .i64 y] h fun v h' => v = .bool (decide (x < y)) ∧ h' = h := by
 (refine CallS.of2 Try.func47 rfl Try.ntmps47 Try.results47 rfl ?_)
 (refine Go.run (g:=?_))
 refine GoR.call rfl rfl rfl rfl rfl rfl rfl (((nanI_spec x _).argA).mono ?_)
 rintro _ h2 ⟨rfl, rfl⟩ -
 (refine Go.run (g:=?_))
 (first|refine Go.finA rfl ?_|refine Go.finB rfl (hq:=?_))
 simp [retV]
abbrev KvI (h : AHeap) (a : Option Addr) (cap : Nat) (d : Array Int) : Prop := Sv h 3 1 a d.size cap (ksI d)
abbrev SortsI (f : FuncId) (a : Option Addr) (cap : Nat) (d : Array Int) (args : List Value) (h : AHeap) (d' : Array Int) : Prop := CallS Try.prog (blk a) f (.slice a d.size cap :: args) h fun v h' => v = .tuple #[] ∧ d'.size = d.size ∧ Sv h' 3 1 a d.size cap (ksI d')
set_option maxHeartbeats 16000000 in
theorem insI_spec (a : Option Addr) (cap : Nat) (d : Array Int) (x y : Nat) (hxy : x ≤ y) (hy : y ≤ d.size) (hn : d.size ≤ 1000000) (h : AHeap) (hS : KvI h a cap d) : SortsI 41 a cap d [.int .i64 x, .int .i64 y] h (insertionSort ltInt d x y) := by
 unfold SortsI insertionSort
 unfold KvI at hS
 generalize hL : d.size = L at *
 have hW : ∀ i ∈ blk a, i ∈ blk a ∨ h.n ≤ i := fun i hi => .inl hi
 (refine CallS.of3 Try.func41 rfl Try.ntmps41 Try.results41 rfl ?_)
 (refine Go.run (g:=?_))
 refine Go.loop (α := Nat × Array Int × AHeap) (fun s => [(6, .int .i64 s.1), (0, .slice a L cap), (1, .int .i64 x), (2, .int .i64 y)]) (fun _ => []) (fun s => s.2.2) (fun s => s.1 ≤ max y (x + 1) ∧ x < s.1 ∧ s.2.1.size = L ∧ Keeps (blk a) h s.2.2 ∧ Sv s.2.2 3 1 a L cap (ksI s.2.1) ∧ insOuter ltInt x y s.1 s.2.1 = insOuter ltInt x y (x + 1) d) (fun s => y - s.1) (x + 1, d, h) ?_ ?_ rfl rfl ?_
 · exact ⟨by simp only; omega, by simp only; omega, hL, Keeps.rf _ _, hS, rfl⟩
 · exact ⟨rfl, rfl, rfl, rfl, trivial⟩
 rintro ⟨i, e, H⟩ ⟨hi1, hi2, he, kp, sv, eq⟩
 simp only at hi1 hi2 he kp sv eq ⊢
 rcases Nat.lt_or_ge i y with i0 | i0
 case inr =>
  rw [insOuter, if_neg (by omega)] at eq
  (refine Go.run (g:=?_))
  (first|refine Go.finA rfl ?_|refine Go.finB rfl (hq:=?_))
  exact ⟨rfl, by rw [← eq]; exact he, by rw [← eq]; exact sv⟩
 rw [insOuter, if_pos i0] at eq
 (refine Go.run (g:=?_))
 refine Go.loop (α := Nat × Array Int × AHeap) (fun s => [(7, .int .i64 s.1), (6, .int .i64 i), (0, .slice a L cap), (1, .int .i64 x), (2, .int .i64 y)]) (fun _ => []) (fun s => s.2.2) (fun s => s.1 ≤ i ∧ x ≤ s.1 ∧ s.2.1.size = L ∧ Keeps (blk a) h s.2.2 ∧ Sv s.2.2 3 1 a L cap (ksI s.2.1) ∧ insInner ltInt x s.1 s.2.1 = insInner ltInt x i e) (fun s => s.1) (i, e, H) ?_ ?_ rfl rfl ?_
 · exact ⟨Nat.le_refl _, by simp only; omega, he, kp, sv, rfl⟩
 · exact ⟨rfl, rfl, rfl, rfl, rfl, trivial⟩
 rintro ⟨j, g, H1⟩ ⟨hj1, hj2, hg, kp1, sv1, eq1⟩
 simp only at hj1 hj2 hg kp1 sv1 eq1 ⊢
 have done : insInner ltInt x j g = g → insOuter ltInt x y (i + 1) g = insOuter ltInt x y (x + 1) d := fun e0 => by rw [← eq, ← eq1, e0]
 rcases Nat.lt_or_ge x j with j0 | j0
 case inr =>
  have e0 : insInner ltInt x j g = g := by
   cases j with
   | zero => rfl
   | succ j => unfold insInner; rw [if_neg]; simp; omega
  (refine Go.run (g:=?_))
  refine Go.again (i + 1, g, H1) ⟨by simp only; omega, by simp only; omega, hg, kp1, sv1, done e0⟩ (by simp only; omega) ⟨rfl, rfl, rfl, rfl, trivial⟩ rfl rfl
 have c1 : (ksI g)[j]? = some (.int .i64 g[j]!) := ksI_get (by omega)
 have c2 : (ksI g)[j - 1]? = some (.int .i64 g[j - 1]!) := ksI_get (by omega)
 have hl := ksI_len g
 (refine Go.run (g:=?_))
 refine GoR.call rfl rfl rfl rfl rfl rfl rfl (((lessI_spec _ _ _).argA).mono ?_)
 rintro _ H2 ⟨rfl, rfl⟩ -
 have un : insInner ltInt x j g = if decide (g[j]! < g[j - 1]!) = true then insInner ltInt x (j - 1) (swp g j (j - 1)) else g := by
  obtain ⟨k, rfl⟩ : ∃ k, j = k + 1 := ⟨j - 1, by omega⟩
  rw [insInner, show decide (k + 1 > x) = true from decide_eq_true (by omega), Bool.true_and]
  rfl
 cases hq : decide (g[j]! < g[j - 1]!) with
 | false =>
  rw [hq, if_neg (by decide)] at un
  (refine Go.run (g:=?_))
  refine Go.again (i + 1, g, H2) ⟨by simp only; omega, by simp only; omega, hg, kp1, sv1, done un⟩ (by simp only; omega) ⟨rfl, rfl, rfl, rfl, trivial⟩ rfl rfl
 | true =>
  rw [hq, if_pos rfl] at un
  refine Go.runN (g:=?_)
  refine Go.loud (by kernel_rfl) rfl ?_
  (refine Go.runL (g:=?_))
  refine GoL.store1' rfl rfl rfl rfl rfl rfl (hS := sv1) (hw := hW) (g:=?_)
  intro H3 sv3 k3 n3
  (refine Go.runL (g:=?_))
  refine GoL.store1' rfl rfl rfl rfl rfl rfl (hS := sv3) (hw := hW) (g:=?_)
  intro H4 sv4 k4 n4
  (refine Go.runL (g:=?_))
  (refine GoL.end_ (g:=?_))
  rw [ksI_swp] at sv4
  (refine Go.run (g:=?_))
  refine Go.again (j - 1, swp g j (j - 1), H4) ⟨by simp only; omega, by simp only; omega, by simp only [swp_size]; exact hg, (kp1.tr k3).tr k4, sv4, by simp only; rw [← un]; exact eq1⟩ (by simp only; omega) ⟨rfl, rfl, rfl, rfl, rfl, trivial⟩ rfl rfl
end Go.Proofs.Ytfdglljlenkkbaa
namespace Go.Proofs.Ytfdglljlenkkbaa
open Go.Sort
set_option maxRecDepth 100000
attribute [local irreducible] Go GoR GoL
set_option maxHeartbeats 16000000 in
theorem siftI_spec (a : Option Addr) (cap : Nat) (d : Array Int) (lo hi first : Nat) (hf : first + hi ≤ d.size) (hlo : lo ≤ 1000000) (hn : d.size ≤ 1000000) (h : AHeap) (hS : KvI h a cap d) : SortsI 53 a cap d [.int .i64 lo, .int .i64 hi, .int .i64 first] h (siftDown ltInt hi first lo d) := by
 unfold SortsI
 unfold KvI at hS
 generalize hL : d.size = L at *
 have hW : ∀ i ∈ blk a, i ∈ blk a ∨ h.n ≤ i := fun i hi => .inl hi
 (refine CallS.of4 Try.func53 rfl Try.ntmps53 Try.results53 rfl ?_)
 (refine Go.run (g:=?_))
 refine Go.loop (α := Nat × Array Int × AHeap) (fun s => [(8, .int .i64 s.1), (0, .slice a L cap), (2, .int .i64 hi), (3, .int .i64 first)]) (fun _ => []) (fun s => s.2.2) (fun s => s.1 ≤ 1000000 ∧ s.2.1.size = L ∧ Keeps (blk a) h s.2.2 ∧ Sv s.2.2 3 1 a L cap (ksI s.2.1) ∧ siftDown ltInt hi first s.1 s.2.1 = siftDown ltInt hi first lo d) (fun s => hi - s.1) (lo, d, h) ?_ ?_ rfl rfl ?_
 · exact ⟨hlo, hL, Keeps.rf _ _, hS, rfl⟩
 · exact ⟨rfl, rfl, rfl, rfl, trivial⟩
 rintro ⟨root, g, H⟩ ⟨hr, he, kp, sv, eq⟩
 simp only at hr he kp sv eq ⊢
 have hl := ksI_len g
 rw [siftDown] at eq
 rcases Nat.lt_or_ge (2 * root + 1) hi with i0 | i0
 case inr =>
  rw [dif_pos i0] at eq
  (refine Go.run (g:=?_))
  (first|refine Go.finA rfl ?_|refine Go.finB rfl (hq:=?_))
  exact ⟨rfl, by rw [← eq]; exact he, by rw [← eq]; exact sv⟩
 rw [dif_neg (by omega)] at eq
 rcases Nat.lt_or_ge (2 * root + 2) hi with i1 | i1
 case inr =>
  rw [show decide (2 * root + 1 + 1 < hi) = false from decide_eq_false (by omega), Bool.false_and, if_neg (by decide)] at eq
  have c1 : (ksI g)[first + root]? = some (.int .i64 g[first + root]!) := ksI_get (by omega)
  have c2 : (ksI g)[first + (2 * root + 1)]? = some (.int .i64 g[first + (2 * root + 1)]!) := ksI_get (by omega)
  (refine Go.run (g:=?_))
  refine GoR.call rfl rfl rfl rfl rfl rfl rfl (((lessI_spec _ _ _).argA).mono ?_)
  rintro _ H2 ⟨rfl, rfl⟩ -
  cases hq : decide (g[first + root]! < g[first + (2 * root + 1)]!) with
  | false =>
   rw [show ltInt g[first + root]! g[first + (2 * root + 1)]! = false from hq] at eq
   have eq : g = siftDown ltInt hi first lo d := by simpa using eq
   (refine Go.run (g:=?_))
   (first|refine Go.finA rfl ?_|refine Go.finB rfl (hq:=?_))
   exact ⟨rfl, by rw [← eq]; exact he, by rw [← eq]; exact sv⟩
  | true =>
   rw [show ltInt g[first + root]! g[first + (2 * root + 1)]! = true from hq] at eq
   have eq : siftDown ltInt hi first (2 * root + 1) (swp g (first + root) (first + (2 * root + 1))) = siftDown ltInt hi first lo d := by
    simpa (disch := omega) [show (2 * root + 1) < hi from by omega] using eq
   refine Go.runN (g:=?_)
   refine Go.loud (by kernel_rfl) rfl ?_
   (refine Go.runL (g:=?_))
   refine GoL.store1' rfl rfl rfl rfl rfl rfl (hS := sv) (hw := hW) (g:=?_)
   intro H3 sv3 k3 n3
   (refine Go.runL (g:=?_))
   refine GoL.store1' rfl rfl rfl rfl rfl rfl (hS := sv3) (hw := hW) (g:=?_)
   intro H4 sv4 k4 n4
   (refine Go.runL (g:=?_))
   (refine GoL.end_ (g:=?_))
   rw [ksI_swp] at sv4
   (refine Go.run (g:=?_))
   refine Go.again (2 * root + 1, swp g (first + root) (first + (2 * root + 1)), H4) ⟨by simp only; omega, by simp only [swp_size]; exact he, (kp.tr k3).tr k4, sv4, eq⟩ (by simp only; omega) ⟨rfl, rfl, rfl, rfl, trivial⟩ rfl rfl
 have c3 : (ksI g)[first + (2 * root + 1)]? = some (.int .i64 g[first + (2 * root + 1)]!) := ksI_get (by omega)
 have c4 : (ksI g)[first + (2 * root + 1) + 1]? = some (.int .i64 g[first + (2 * root + 1) + 1]!) := ksI_get (by omega)
 rw [show decide (2 * root + 1 + 1 < hi) = true from decide_eq_true (by omega), Bool.true_and] at eq
 (refine Go.run (g:=?_))
 refine GoR.call rfl rfl rfl rfl rfl rfl rfl (((lessI_spec _ _ _).argA).mono ?_)
 rintro _ H1 ⟨rfl, rfl⟩ -
 cases hc : decide (g[first + (2 * root + 1)]! < g[first + (2 * root + 1) + 1]!) with
 | false =>
  rw [show ltInt g[first + (2 * root + 1)]! g[first + (2 * root + 1) + 1]! = false from hc, if_neg (by decide)] at eq
  clear c3 c4
  have c1 : (ksI g)[first + root]? = some (.int .i64 g[first + root]!) := ksI_get (by omega)
  have c2 : (ksI g)[first + (2 * root + 1)]? = some (.int .i64 g[first + (2 * root + 1)]!) := ksI_get (by omega)
  (refine Go.run (g:=?_))
  refine GoR.call rfl rfl rfl rfl rfl rfl rfl (((lessI_spec _ _ _).argA).mono ?_)
  rintro _ H2 ⟨rfl, rfl⟩ -
  cases hq : decide (g[first + root]! < g[first + (2 * root + 1)]!) with
  | false =>
   rw [show ltInt g[first + root]! g[first + (2 * root + 1)]! = false from hq] at eq
   have eq : g = siftDown ltInt hi first lo d := by simpa using eq
   (refine Go.run (g:=?_))
   (first|refine Go.finA rfl ?_|refine Go.finB rfl (hq:=?_))
   exact ⟨rfl, by rw [← eq]; exact he, by rw [← eq]; exact sv⟩
  | true =>
   rw [show ltInt g[first + root]! g[first + (2 * root + 1)]! = true from hq] at eq
   have eq : siftDown ltInt hi first (2 * root + 1) (swp g (first + root) (first + (2 * root + 1))) = siftDown ltInt hi first lo d := by
    simpa (disch := omega) [show (2 * root + 1) < hi from by omega] using eq
   refine Go.runN (g:=?_)
   refine Go.loud (by kernel_rfl) rfl ?_
   (refine Go.runL (g:=?_))
   refine GoL.store1' rfl rfl rfl rfl rfl rfl (hS := sv) (hw := hW) (g:=?_)
   intro H3 sv3 k3 n3
   (refine Go.runL (g:=?_))
   refine GoL.store1' rfl rfl rfl rfl rfl rfl (hS := sv3) (hw := hW) (g:=?_)
   intro H4 sv4 k4 n4
   (refine Go.runL (g:=?_))
   (refine GoL.end_ (g:=?_))
   rw [ksI_swp] at sv4
   (refine Go.run (g:=?_))
   refine Go.again (2 * root + 1, swp g (first + root) (first + (2 * root + 1)), H4) ⟨by simp only; omega, by simp only [swp_size]; exact he, (kp.tr k3).tr k4, sv4, eq⟩ (by simp only; omega) ⟨rfl, rfl, rfl, rfl, trivial⟩ rfl rfl
 | true =>
  rw [show ltInt g[first + (2 * root + 1)]! g[first + (2 * root + 1) + 1]! = true from hc, if_pos rfl] at eq
  simp only [show 2 * root + 2 = 2 * root + 1 + 1 from rfl] at eq
  clear c3 c4
  have c1 : (ksI g)[first + root]? = some (.int .i64 g[first + root]!) := ksI_get (by omega)
  have c2 : (ksI g)[first + (2 * root + 1 + 1)]? = some (.int .i64 g[first + (2 * root + 1 + 1)]!) := ksI_get (by omega)
  (refine Go.run (g:=?_))
  refine GoR.call rfl rfl rfl rfl rfl rfl rfl (((lessI_spec _ _ _).argA).mono ?_)
  rintro _ H2 ⟨rfl, rfl⟩ -
  cases hq : decide (g[first + root]! < g[first + (2 * root + 1 + 1)]!) with
  | false =>
   rw [show ltInt g[first + root]! g[first + (2 * root + 1 + 1)]! = false from hq] at eq
   have eq : g = siftDown ltInt hi first lo d := by simpa using eq
   (refine Go.run (g:=?_))
   (first|refine Go.finA rfl ?_|refine Go.finB rfl (hq:=?_))
   exact ⟨rfl, by rw [← eq]; exact he, by rw [← eq]; exact sv⟩
  | true =>
   rw [show ltInt g[first + root]! g[first + (2 * root + 1 + 1)]! = true from hq] at eq
   have eq : siftDown ltInt hi first (2 * root + 1 + 1) (swp g (first + root) (first + (2 * root + 1 + 1))) = siftDown ltInt hi first lo d := by
    simpa (disch := omega) [show (2 * root + 1 + 1) < hi from by omega] using eq
   refine Go.runN (g:=?_)
   refine Go.loud (by kernel_rfl) rfl ?_
   (refine Go.runL (g:=?_))
   refine GoL.store1' rfl rfl rfl rfl rfl rfl (hS := sv) (hw := hW) (g:=?_)
   intro H3 sv3 k3 n3
   (refine Go.runL (g:=?_))
   refine GoL.store1' rfl rfl rfl rfl rfl rfl (hS := sv3) (hw := hW) (g:=?_)
   intro H4 sv4 k4 n4
   (refine Go.runL (g:=?_))
   (refine GoL.end_ (g:=?_))
   rw [ksI_swp] at sv4
   (refine Go.run (g:=?_))
   refine Go.again (2 * root + 1 + 1, swp g (first + root) (first + (2 * root + 1 + 1)), H4) ⟨by simp only; omega, by simp only [swp_size]; exact he, (kp.tr k3).tr k4, sv4, eq⟩ (by simp only; omega) ⟨rfl, rfl, rfl, rfl, trivial⟩ rfl rfl
set_option maxHeartbeats 16000000 in
theorem heapI_spec (a : Option Addr) (cap : Nat) (d : Array Int) (x y : Nat) (hxy : x < y) (hy : y ≤ d.size) (hn : d.size ≤ 1000000) (h : AHeap) (hS : KvI h a cap d) : SortsI 42 a cap d [.int .i64 x, .int .i64 y] h (heapSort ltInt d x y) := by
 unfold SortsI heapSort
 unfold KvI at hS
 generalize hL : d.size = L at *
 have hW : ∀ i ∈ blk a, i ∈ blk a ∨ h.n ≤ i := fun i hi => .inl hi
 obtain ⟨n, hyn⟩ : ∃ n, n = y - x := ⟨_, rfl⟩
 have hn1 : 1 ≤ n := by omega
 have hnx : x + n ≤ L := by omega
 rw [← hyn]
 (refine CallS.of3 Try.func42 rfl Try.ntmps42 Try.results42 rfl ?_)
 (refine Go.run (g:=?_))
 rw [← hyn]
 (refine Go.run (g:=?_))
 refine Go.loop (α := Int × Array Int × AHeap) (fun s => [(9, .int .i64 s.1), (8, .int .i64 n), (7, .int .i64 0), (6, .int .i64 x), (0, .slice a L cap)]) (fun _ => []) (fun s => s.2.2) (fun s => -1 ≤ s.1 ∧ s.1 < n ∧ s.2.1.size = L ∧ Keeps (blk a) h s.2.2 ∧ Sv s.2.2 3 1 a L cap (ksI s.2.1) ∧ heapBuild ltInt n x (s.1 + 1).toNat s.2.1 = heapBuild ltInt n x ((n - 1) / 2 + 1) d) (fun s => (s.1 + 1).toNat) (((n - 1) / 2 : Nat), d, h) ?_ ?_ rfl rfl ?_
 · exact ⟨by simp only; omega, by simp only; omega, hL, Keeps.rf _ _, hS, rfl⟩
 · exact ⟨rfl, rfl, rfl, rfl, rfl, trivial⟩
 rintro ⟨i, g, H⟩ ⟨hi0, hi1, he, kp, sv, eq⟩
 simp only at hi0 hi1 he kp sv eq ⊢
 rcases Int.lt_or_le i 0 with i0 | i0
 case inr =>
  obtain ⟨m, rfl⟩ : ∃ m : Nat, i = m := ⟨i.toNat, by omega⟩
  rw [show ((m : Int) + 1).toNat = m + 1 from by omega, heapBuild] at eq
  subst he
  (refine Go.run (g:=?_))
  refine GoR.callW rfl rfl rfl rfl rfl rfl rfl (((siftI_spec a cap g m n x (by omega) (by omega) (by omega) _ sv).argA).mono ?_)
  rintro _ H1 ⟨rfl, e1, sv1⟩ k1
  refine ⟨hW, ?_⟩
  (refine Go.run (g:=?_))
  refine Go.again ((m : Int) - 1, siftDown ltInt n x m g, H1) ⟨by simp only; omega, by simp only; omega, e1, kp.tr k1, sv1, by simp only; rw [← eq]; congr 1; omega⟩ (by simp only; omega) ⟨rfl, rfl, rfl, rfl, rfl, trivial⟩ rfl rfl
 obtain rfl : i = -1 := by omega
 have eq : g = heapBuild ltInt n x ((n - 1) / 2 + 1) d := by rw [← eq]; rfl
 rw [← eq]
 clear eq
 (refine Go.run (g:=?_))
 refine Go.loop (α := Int × Array Int × AHeap) (fun s => [(10, .int .i64 s.1), (8, .int .i64 n), (7, .int .i64 0), (6, .int .i64 x), (0, .slice a L cap)]) (fun _ => []) (fun s => s.2.2) (fun s => -1 ≤ s.1 ∧ s.1 < n ∧ s.2.1.size = L ∧ Keeps (blk a) h s.2.2 ∧ Sv s.2.2 3 1 a L cap (ksI s.2.1) ∧ heapPop ltInt x (s.1 + 1).toNat s.2.1 = heapPop ltInt x n g) (fun s => (s.1 + 1).toNat) ((n - 1 : Nat), g, H) ?_ ?_ rfl rfl ?_
 · exact ⟨by simp only; omega, by simp only; omega, he, kp, sv, by simp only; rw [show (((n - 1 : Nat) : Int) + 1).toNat = n from by omega]⟩
 · exact ⟨rfl, rfl, rfl, rfl, rfl, trivial⟩
 clear he kp sv
 rintro ⟨i, e, H0⟩ ⟨hi0, hi1, he, kp, sv, eq⟩
 simp only at hi0 hi1 he kp sv eq ⊢
 rcases Int.lt_or_le i 0 with i0 | i0
 case inl =>
  obtain rfl : i = -1 := by omega
  have eq : e = heapPop ltInt x n g := by rw [← eq]; rfl
  (refine Go.run (g:=?_))
  (first|refine Go.finA rfl ?_|refine Go.finB rfl (hq:=?_))
  exact ⟨rfl, by rw [← eq]; exact he, by rw [← eq]; exact sv⟩
 obtain ⟨m, rfl⟩ : ∃ m : Nat, i = m := ⟨i.toNat, by omega⟩
 rw [show ((m : Int) + 1).toNat = m + 1 from by omega, heapPop] at eq
 have hl := ksI_len e
 have c1 : (ksI e)[x]? = some (.int .i64 e[x]!) := ksI_get (by omega)
 have c2 : (ksI e)[x + m]? = some (.int .i64 e[x + m]!) := ksI_get (by omega)
 refine Go.runN (g:=?_)
 refine Go.loud (by kernel_rfl) rfl ?_
 (refine Go.runL (g:=?_))
 refine GoL.store1' rfl rfl rfl rfl rfl rfl (hS := sv) (hw := hW) (g:=?_)
 intro H3 sv3 k3 n3
 (refine Go.runL (g:=?_))
 refine GoL.store1' rfl rfl rfl rfl rfl rfl (hS := sv3) (hw := hW) (g:=?_)
 intro H4 sv4 k4 n4
 (refine Go.runL (g:=?_))
 (refine GoL.end_ (g:=?_))
 rw [ksI_swp] at sv4
 have hz : (swp e x (x + m)).size = L := by rw [swp_size]; exact he
 rw [← hz] at sv4
 (refine Go.run (g:=?_))
 have ssp := siftI_spec a cap (swp e x (x + m)) 0 m x (by omega) (by omega) (by omega) _ sv4
 unfold SortsI at ssp
 rw [hz] at ssp
 refine GoR.callW rfl rfl rfl rfl rfl rfl rfl (((ssp).argA).mono ?_)
 rintro _ H5 ⟨rfl, e5, sv5⟩ k5
 refine ⟨hW, ?_⟩
 (refine Go.run (g:=?_))
 refine Go.again ((m : Int) - 1, siftDown ltInt m x 0 (swp e x (x + m)), H5) ⟨by simp only; omega, by simp only; omega, e5, ((kp.tr k3).tr k4).tr k5, sv5, by simp only; rw [← eq]; congr 1; omega⟩ (by simp only; omega) ⟨rfl, rfl, rfl, rfl, rfl, trivial⟩ rfl rfl
end Go.Proofs.Ytfdglljlenkkbaa