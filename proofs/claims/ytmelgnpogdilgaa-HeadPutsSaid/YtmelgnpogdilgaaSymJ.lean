/- Walks on the abstract heap: division, texts, appends. No conditions. -/
import Derived.Test.YtmelgnpogdilgaaSymI
namespace Go.Proofs.Ytmelgnpogdilgaa
set_option linter.unusedVariables false
theorem iRem_nat {k : IntKind} {x y : Nat} (hy : 0 < y) : iBin .rem k x y = some (.int k ((x % y : Nat) : Int)) := by
  have h0 : ¬ ((y : Int) = 0) := by omega
  simp only [iBin, if_neg h0]
  rfl
theorem iQuo_nat {k : IntKind} {x y : Nat} (hy : 0 < y) (hx : Sm k x) : iBin .quo k x y = some (.int k ((x / y : Nat) : Int)) := by
  have h0 : ¬ ((y : Int) = 0) := by omega
  have hs : Sm k (x / y) := Nat.lt_of_le_of_lt (Nat.div_le_self _ _) hx
  have e : (x : Int).tdiv (y : Int) = ((x / y : Nat) : Int) := rfl
  simp only [iBin, if_neg h0, e, hs.wrap]
theorem u8s_bv : ∀ zs : List UInt8, u8s (zs.map bv) = some (zs.map fun z => (z.toNat : Int))
  | [] => rfl
  | z :: zs => by simp [u8s, bv, u8s_bv zs]
theorem strOf_bv (zs : List UInt8) : strOf (zs.map fun z => (z.toNat : Int)) = ⟨zs.toArray⟩ := by
  unfold strOf
  congr 1
  simp only [List.map_map]
  have : ((fun n : Int => UInt8.ofNat n.toNat) ∘ fun z : UInt8 => (z.toNat : Int)) = id := by funext z; simp
  rw [this, List.map_id]
section
variable {P : Program} {h : AHeap}
theorem aStr_of {t t₂ e : TypeId} (hu : P.underlying t = some (.slice e)) (hd : P.underlying t₂ = some .string) (he : P.underlying e = some (.int .u8)) {a : Option Addr} {len cap : Nat} {zs : List UInt8} (hS : Rv P h 1 a len cap (zs.map bv)) : ∃ rd, aStr P h t t₂ (.slice a len cap) = some (⟨zs.toArray⟩, rd) ∧ ∀ i ∈ rd, i ∈ blk a := by
  have hl := hS.length
  simp only [List.length_map, Nat.mul_one] at hl
  rcases Nat.eq_zero_or_pos len with h0 | h0
  · subst h0
    have hz : zs = [] := List.length_eq_zero_iff.1 hl
    subst hz
    generalize hm : ([] : List UInt8).map bv = l at hS
    cases hS with
    | nil => exact ⟨[], by simp [aStr, hu, hd, he], fun i hi => by cases hi⟩
    | mk hg ho hle hc => exact ⟨[], by simp [aStr, hu, hd, he], fun i hi => by cases hi⟩
  · obtain ⟨b, o, c, rfl, hg, ho, hle, hc⟩ := hS.some h0
    rw [Nat.mul_one] at ho hc
    refine ⟨[b], ?_, fun i hi => by simpa [blk] using hi⟩
    simp only [aStr, hu, hd, he]
    rw [if_neg (by omega)]
    simp only [hg]
    rw [if_pos ho, hc, u8s_bv]
    simp [strOf_bv]
end
class BY (P : Program) (t t₂ : TypeId) : Prop where
  h : ∃ e, P.underlying t = some (.slice e) ∧ P.underlying e = some (.int .u8)
  s : P.underlying t₂ = some .string
theorem strEq_run {P : Program} {o : Oper} {t t₂ : TypeId} {x y : Operand} {op : BinOp} (hop : op = .eql ∨ op = .neq) (ho : o.op = .binOp op t x y t₂) (a b : List UInt8) (ρ : Operand → Value) (hx : ρ x = .string ⟨a.toArray⟩) (hy : ρ y = .string ⟨b.toArray⟩) : calm P (execOp ρ o) = some (.value (.bool (if op = .eql then decide (a = b) else !decide (a = b)))) := by
  have e1 : (ByteArray.mk a.toArray).toList = a := ByteArray.toList_mk a
  have e2 : (ByteArray.mk b.toArray).toList = b := ByteArray.toList_mk b
  rcases hop with rfl | rfl
  · simp only [execOp, ho, hx, hy]
    have eg : eqGuard .eql t x y (.string ⟨a.toArray⟩) (.string ⟨b.toArray⟩) = Sem.pure () := by unfold eqGuard; split <;> rfl
    have eb : binOp .eql t (.string ⟨a.toArray⟩) (.string ⟨b.toArray⟩) = Sem.pure (.bool (a == b)) := by
      show Op.stringOp .eql _ _ = _
      simp only [Op.stringOp, e1, e2]; rfl
    rw [eg, eb]
    have : (a == b) = decide (a = b) := by rw [Bool.eq_iff_iff]; simp
    rw [this]; rfl
  · simp only [execOp, ho, hx, hy]
    have eg : eqGuard .neq t x y (.string ⟨a.toArray⟩) (.string ⟨b.toArray⟩) = Sem.pure () := by unfold eqGuard; split <;> rfl
    have eb : binOp .neq t (.string ⟨a.toArray⟩) (.string ⟨b.toArray⟩) = Sem.pure (.bool (!(a == b))) := by
      show Op.stringOp .neq _ _ = _
      simp only [Op.stringOp, e1, e2]; rfl
    rw [eg, eb]
    have : (a == b) = decide (a = b) := by rw [Bool.eq_iff_iff]; simp
    rw [this]; rfl
section
variable {P : Program} {W : Nat → Prop} {q : Bool} {N : Nat} {k : List It} {ov : Ov} {df : List Nat} {h : AHeap} {Q : PQ} {id : Nat} {ops : Array Oper} {os : List Oper} {o : Oper} {d : Nat} {b₀ : Bool} {tr : List (Option LE)}
theorem GoR.remN {t t₂ : TypeId} {x y : Operand} {kd : IntKind} {i j : Nat} (ho : o.op = .binOp .rem t x y t₂) (hd : o.dst = some d) (hN : dOk d N = true) (hgd : o.guard = none) (hx : evO ov x = some (.int kd (i : Int))) (hy : evO ov y = some (.int kd (j : Int))) (h1 : 0 < j) (g : GoR P W q N ops b₀ os k ((d, .int kd ((i % j : Nat) : Int)) :: ov) df h Q) : GoR P W q N ops b₀ (o :: os) k ov df h Q := GoR.binE _ ho hd hN hgd hx hy (iRem_nat h1) g
theorem GoR.quoN {t t₂ : TypeId} {x y : Operand} {kd : IntKind} {i j : Nat} (ho : o.op = .binOp .quo t x y t₂) (hd : o.dst = some d) (hN : dOk d N = true) (hgd : o.guard = none) (hx : evO ov x = some (.int kd (i : Int))) (hy : evO ov y = some (.int kd (j : Int))) (h1 : 0 < j) (h2 : i < 2 ^ (kd.bits - if kd.signed then 1 else 0)) (g : GoR P W q N ops b₀ os k ((d, .int kd ((i / j : Nat) : Int)) :: ov) df h Q) : GoR P W q N ops b₀ (o :: os) k ov df h Q := GoR.binE _ ho hd hN hgd hx hy (iQuo_nat h1 h2) g
theorem GoR.strV {t t₂ : TypeId} {x : Operand} {a : Option Addr} {len cap : Nat} {zs : List UInt8} (ho : o.op = .convert t t₂ x) (hd : o.dst = some d) (hN : dOk d N = true) (hgd : o.guard = none) (hx : evO ov x = some (.slice a len cap)) [hB : BY P t t₂] (hS : Rv P h 1 a len cap (zs.map bv)) (g : GoR P W q N ops b₀ os k ((d, .string ⟨zs.toArray⟩) :: ov) df h Q) : GoR P W q N ops b₀ (o :: os) k ov df h Q := by
  obtain ⟨e, h1, h2⟩ := hB.h
  obtain ⟨rd, h3, h4⟩ := aStr_of (P := P) (h := h) h1 hB.s h2 hS
  exact GoR.convStr ho hd hN hgd hx h3 g
theorem GoR.strEq {t t₂ : TypeId} {x y : Operand} {a b : List UInt8} (ho : o.op = .binOp .eql t x y t₂) (hd : o.dst = some d) (hN : dOk d N = true) (hgd : o.guard = none) (hx : evO ov x = some (.string ⟨a.toArray⟩)) (hy : evO ov y = some (.string ⟨b.toArray⟩)) (g : GoR P W q N ops b₀ os k ((d, .bool (decide (a = b))) :: ov) df h Q) : GoR P W q N ops b₀ (o :: os) k ov df h Q := by
  refine GoR.calm (u := .bool (decide (a = b))) (l := [.string ⟨a.toArray⟩, .string ⟨b.toArray⟩]) hd hN hgd (by simp [ho, Op.operands, evOs, hx, hy]) (by simp [ho]) (by simp [ho]) rfl rfl (fun ρ hρ => ?_) g
  simp only [ho, Op.operands, List.map_cons, List.map_nil, List.cons.injEq, and_true] at hρ
  exact strEq_run (.inl rfl) ho a b ρ hρ.1 hρ.2
theorem GoR.strNe {t t₂ : TypeId} {x y : Operand} {a b : List UInt8} (ho : o.op = .binOp .neq t x y t₂) (hd : o.dst = some d) (hN : dOk d N = true) (hgd : o.guard = none) (hx : evO ov x = some (.string ⟨a.toArray⟩)) (hy : evO ov y = some (.string ⟨b.toArray⟩)) (g : GoR P W q N ops b₀ os k ((d, .bool (!decide (a = b))) :: ov) df h Q) : GoR P W q N ops b₀ (o :: os) k ov df h Q := by
  refine GoR.calm (u := .bool (!decide (a = b))) (l := [.string ⟨a.toArray⟩, .string ⟨b.toArray⟩]) hd hN hgd (by simp [ho, Op.operands, evOs, hx, hy]) (by simp [ho]) (by simp [ho]) rfl rfl (fun ρ hρ => ?_) g
  simp only [ho, Op.operands, List.map_cons, List.map_nil, List.cons.injEq, and_true] at hρ
  exact strEq_run (.inr rfl) ho a b ρ hρ.1 hρ.2
theorem GoL.remN {t t₂ : TypeId} {x y : Operand} {kd : IntKind} {i j : Nat} (ho : o.op = .binOp .rem t x y t₂) (hd : o.dst = some d) (hN : dOk d N = true) (hgd : o.guard = none) (hx : evO ov x = some (.int kd (i : Int))) (hy : evO ov y = some (.int kd (j : Int))) (h1 : 0 < j) (g : GoL P W q N ops (tr ++ [none]) os k ((d, .int kd ((i % j : Nat) : Int)) :: ov) df h Q) : GoL P W q N ops tr (o :: os) k ov df h Q := GoL.binE _ ho hd hN hgd hx hy (iRem_nat h1) g
theorem GoL.quoN {t t₂ : TypeId} {x y : Operand} {kd : IntKind} {i j : Nat} (ho : o.op = .binOp .quo t x y t₂) (hd : o.dst = some d) (hN : dOk d N = true) (hgd : o.guard = none) (hx : evO ov x = some (.int kd (i : Int))) (hy : evO ov y = some (.int kd (j : Int))) (h1 : 0 < j) (h2 : i < 2 ^ (kd.bits - if kd.signed then 1 else 0)) (g : GoL P W q N ops (tr ++ [none]) os k ((d, .int kd ((i / j : Nat) : Int)) :: ov) df h Q) : GoL P W q N ops tr (o :: os) k ov df h Q := GoL.binE _ ho hd hN hgd hx hy (iQuo_nat h1 h2) g
theorem GoL.strV {t t₂ : TypeId} {x : Operand} {a : Option Addr} {len cap : Nat} {zs : List UInt8} (ho : o.op = .convert t t₂ x) (hd : o.dst = some d) (hN : dOk d N = true) (hgd : o.guard = none) (hx : evO ov x = some (.slice a len cap)) [hB : BY P t t₂] (hS : Rv P h 1 a len cap (zs.map bv)) (g : ∀ rd, (∀ i ∈ rd, i ∈ blk a) → GoL P W q N ops (tr ++ [some ⟨h.n, h.n, rd, [], false, true⟩]) os k ((d, .string ⟨zs.toArray⟩) :: ov) df h Q) : GoL P W q N ops tr (o :: os) k ov df h Q := by
  obtain ⟨e, h1, h2⟩ := hB.h
  obtain ⟨rd, h3, h4⟩ := aStr_of (P := P) (h := h) h1 hB.s h2 hS
  exact GoL.convStr ho hd hN hgd hx h3 (g rd h4)
theorem GoL.strEq {t t₂ : TypeId} {x y : Operand} {a b : List UInt8} (ho : o.op = .binOp .eql t x y t₂) (hd : o.dst = some d) (hN : dOk d N = true) (hgd : o.guard = none) (hx : evO ov x = some (.string ⟨a.toArray⟩)) (hy : evO ov y = some (.string ⟨b.toArray⟩)) (g : GoL P W q N ops (tr ++ [none]) os k ((d, .bool (decide (a = b))) :: ov) df h Q) : GoL P W q N ops tr (o :: os) k ov df h Q := by
  refine GoL.calm (u := .bool (decide (a = b))) (l := [.string ⟨a.toArray⟩, .string ⟨b.toArray⟩]) hd hN hgd (by simp [ho, Op.operands, evOs, hx, hy]) (by simp [ho]) (by simp [ho]) rfl rfl (fun ρ hρ => ?_) g
  simp only [ho, Op.operands, List.map_cons, List.map_nil, List.cons.injEq, and_true] at hρ
  exact strEq_run (.inl rfl) ho a b ρ hρ.1 hρ.2
theorem GoL.strNe {t t₂ : TypeId} {x y : Operand} {a b : List UInt8} (ho : o.op = .binOp .neq t x y t₂) (hd : o.dst = some d) (hN : dOk d N = true) (hgd : o.guard = none) (hx : evO ov x = some (.string ⟨a.toArray⟩)) (hy : evO ov y = some (.string ⟨b.toArray⟩)) (g : GoL P W q N ops (tr ++ [none]) os k ((d, .bool (!decide (a = b))) :: ov) df h Q) : GoL P W q N ops tr (o :: os) k ov df h Q := by
  refine GoL.calm (u := .bool (!decide (a = b))) (l := [.string ⟨a.toArray⟩, .string ⟨b.toArray⟩]) hd hN hgd (by simp [ho, Op.operands, evOs, hx, hy]) (by simp [ho]) (by simp [ho]) rfl rfl (fun ρ hρ => ?_) g
  simp only [ho, Op.operands, List.map_cons, List.map_nil, List.cons.injEq, and_true] at hρ
  exact strEq_run (.inr rfl) ho a b ρ hρ.1 hρ.2
theorem subA_blk (a : Option Addr) (k : Nat) : blk (subA a k) = blk a := by
  cases a with
  | none => rfl
  | some x => cases x; rfl
theorem Rv.bytes_sub {P : Program} {h : AHeap} {a : Option Addr} {len cap : Nat} {zs : List UInt8} (k : Rv P h 1 a len cap (zs.map bv)) {l r : Nat} (h1 : l ≤ r) (h2 : r ≤ len) : Rv P h 1 (subA a (l * 1)) (r - l) (cap - l) (((zs.drop l).take (r - l)).map bv) := by
  have := k.sub h1 h2
  rw [Nat.mul_one (r - l)] at this
  rw [List.map_take, List.map_drop]
  simpa using this
theorem GoR.bLo {t e : TypeId} {x : Operand} {lo : Operand} {kd : IntKind} {l : Nat} {a : Option Addr} {len cap : Nat} {zs : List UInt8} (ho : o.op = .slice t x (some lo) none none) (hd : o.dst = some d) (hN : dOk d N = true) (hgd : o.guard = none) (hx : evO ov x = some (.slice a len cap)) (hlo : evO ov lo = some (.int kd (l : Int))) [hu : UN P t (.slice e)] [hs : SZ P e 1] (hS : Rv P h 1 a len cap (zs.map bv)) (h1 : l ≤ len) (g : ∀ a', Rv P h 1 a' (len - l) (cap - l) (((zs.drop l).take (len - l)).map bv) → (∀ i ∈ blk a', i ∈ blk a) → GoR P W q N ops b₀ os k ((d, .slice a' (len - l) (cap - l)) :: ov) df h Q) : GoR P W q N ops b₀ (o :: os) k ov df h Q := by
  have fact : Rv P h 1 (subA a (l * 1)) (len - l) (cap - l) (((zs.drop l).take (len - l)).map bv) := (hS.bytes_sub h1 (Nat.le_refl _))
  have := g _ fact (fun i hi => by rw [subA_blk] at hi; exact hi)
  refine GoR.sliceV ho hd hN hgd hx (l := l) (r := len) (lo' := some (.int kd (l : Int))) (hi' := none) (by simp [hlo]) rfl hS (by simp [bnd]) (by simp [bnd]) h1 hS.le ?_
  simpa using this
theorem GoR.bHi {t e : TypeId} {x : Operand} {hi : Operand} {kd : IntKind} {r : Nat} {a : Option Addr} {len cap : Nat} {zs : List UInt8} (ho : o.op = .slice t x none (some hi) none) (hd : o.dst = some d) (hN : dOk d N = true) (hgd : o.guard = none) (hx : evO ov x = some (.slice a len cap)) (hhi : evO ov hi = some (.int kd (r : Int))) [hu : UN P t (.slice e)] [hs : SZ P e 1] (hS : Rv P h 1 a len cap (zs.map bv)) (h1 : r ≤ len) (g : ∀ a', Rv P h 1 a' (r) (cap) ((zs.take r).map bv) → (∀ i ∈ blk a', i ∈ blk a) → GoR P W q N ops b₀ os k ((d, .slice a' (r) (cap)) :: ov) df h Q) : GoR P W q N ops b₀ (o :: os) k ov df h Q := by
  have fact : Rv P h 1 (subA a (0 * 1)) (r) (cap) ((zs.take r).map bv) := (by have := hS.bytes_sub (Nat.zero_le r) h1; simpa using this)
  have := g _ fact (fun i hi => by rw [subA_blk] at hi; exact hi)
  refine GoR.sliceV ho hd hN hgd hx (l := 0) (r := r) (lo' := none) (hi' := some (.int kd (r : Int))) rfl (by simp [hhi]) hS (by simp [bnd]) (by simp [bnd]) (Nat.zero_le _) (Nat.le_trans h1 hS.le) ?_
  simpa using this
theorem GoR.bLH {t e : TypeId} {x : Operand} {lo hi : Operand} {kd kd' : IntKind} {l r : Nat} {a : Option Addr} {len cap : Nat} {zs : List UInt8} (ho : o.op = .slice t x (some lo) (some hi) none) (hd : o.dst = some d) (hN : dOk d N = true) (hgd : o.guard = none) (hx : evO ov x = some (.slice a len cap)) (hlo : evO ov lo = some (.int kd (l : Int))) (hhi : evO ov hi = some (.int kd' (r : Int))) [hu : UN P t (.slice e)] [hs : SZ P e 1] (hS : Rv P h 1 a len cap (zs.map bv)) (h1 : l ≤ r) (h2 : r ≤ len) (g : ∀ a', Rv P h 1 a' (r - l) (cap - l) (((zs.drop l).take (r - l)).map bv) → (∀ i ∈ blk a', i ∈ blk a) → GoR P W q N ops b₀ os k ((d, .slice a' (r - l) (cap - l)) :: ov) df h Q) : GoR P W q N ops b₀ (o :: os) k ov df h Q := by
  have fact : Rv P h 1 (subA a (l * 1)) (r - l) (cap - l) (((zs.drop l).take (r - l)).map bv) := (hS.bytes_sub h1 h2)
  have := g _ fact (fun i hi => by rw [subA_blk] at hi; exact hi)
  refine GoR.sliceV ho hd hN hgd hx (l := l) (r := r) (lo' := some (.int kd (l : Int))) (hi' := some (.int kd' (r : Int))) (by simp [hlo]) (by simp [hhi]) hS (by simp [bnd]) (by simp [bnd]) h1 (Nat.le_trans h2 hS.le) ?_
  simpa using this
theorem GoL.bLo {t e : TypeId} {x : Operand} {lo : Operand} {kd : IntKind} {l : Nat} {a : Option Addr} {len cap : Nat} {zs : List UInt8} (ho : o.op = .slice t x (some lo) none none) (hd : o.dst = some d) (hN : dOk d N = true) (hgd : o.guard = none) (hx : evO ov x = some (.slice a len cap)) (hlo : evO ov lo = some (.int kd (l : Int))) [hu : UN P t (.slice e)] [hs : SZ P e 1] (hS : Rv P h 1 a len cap (zs.map bv)) (h1 : l ≤ len) (g : ∀ a', Rv P h 1 a' (len - l) (cap - l) (((zs.drop l).take (len - l)).map bv) → (∀ i ∈ blk a', i ∈ blk a) → GoL P W q N ops (tr ++ [none]) os k ((d, .slice a' (len - l) (cap - l)) :: ov) df h Q) : GoL P W q N ops tr (o :: os) k ov df h Q := by
  have fact : Rv P h 1 (subA a (l * 1)) (len - l) (cap - l) (((zs.drop l).take (len - l)).map bv) := (hS.bytes_sub h1 (Nat.le_refl _))
  have := g _ fact (fun i hi => by rw [subA_blk] at hi; exact hi)
  refine GoL.sliceV ho hd hN hgd hx (l := l) (r := len) (lo' := some (.int kd (l : Int))) (hi' := none) (by simp [hlo]) rfl hS (by simp [bnd]) (by simp [bnd]) h1 hS.le ?_
  simpa using this
theorem GoL.bHi {t e : TypeId} {x : Operand} {hi : Operand} {kd : IntKind} {r : Nat} {a : Option Addr} {len cap : Nat} {zs : List UInt8} (ho : o.op = .slice t x none (some hi) none) (hd : o.dst = some d) (hN : dOk d N = true) (hgd : o.guard = none) (hx : evO ov x = some (.slice a len cap)) (hhi : evO ov hi = some (.int kd (r : Int))) [hu : UN P t (.slice e)] [hs : SZ P e 1] (hS : Rv P h 1 a len cap (zs.map bv)) (h1 : r ≤ len) (g : ∀ a', Rv P h 1 a' (r) (cap) ((zs.take r).map bv) → (∀ i ∈ blk a', i ∈ blk a) → GoL P W q N ops (tr ++ [none]) os k ((d, .slice a' (r) (cap)) :: ov) df h Q) : GoL P W q N ops tr (o :: os) k ov df h Q := by
  have fact : Rv P h 1 (subA a (0 * 1)) (r) (cap) ((zs.take r).map bv) := (by have := hS.bytes_sub (Nat.zero_le r) h1; simpa using this)
  have := g _ fact (fun i hi => by rw [subA_blk] at hi; exact hi)
  refine GoL.sliceV ho hd hN hgd hx (l := 0) (r := r) (lo' := none) (hi' := some (.int kd (r : Int))) rfl (by simp [hhi]) hS (by simp [bnd]) (by simp [bnd]) (Nat.zero_le _) (Nat.le_trans h1 hS.le) ?_
  simpa using this
theorem GoL.bLH {t e : TypeId} {x : Operand} {lo hi : Operand} {kd kd' : IntKind} {l r : Nat} {a : Option Addr} {len cap : Nat} {zs : List UInt8} (ho : o.op = .slice t x (some lo) (some hi) none) (hd : o.dst = some d) (hN : dOk d N = true) (hgd : o.guard = none) (hx : evO ov x = some (.slice a len cap)) (hlo : evO ov lo = some (.int kd (l : Int))) (hhi : evO ov hi = some (.int kd' (r : Int))) [hu : UN P t (.slice e)] [hs : SZ P e 1] (hS : Rv P h 1 a len cap (zs.map bv)) (h1 : l ≤ r) (h2 : r ≤ len) (g : ∀ a', Rv P h 1 a' (r - l) (cap - l) (((zs.drop l).take (r - l)).map bv) → (∀ i ∈ blk a', i ∈ blk a) → GoL P W q N ops (tr ++ [none]) os k ((d, .slice a' (r - l) (cap - l)) :: ov) df h Q) : GoL P W q N ops tr (o :: os) k ov df h Q := by
  have fact : Rv P h 1 (subA a (l * 1)) (r - l) (cap - l) (((zs.drop l).take (r - l)).map bv) := (hS.bytes_sub h1 h2)
  have := g _ fact (fun i hi => by rw [subA_blk] at hi; exact hi)
  refine GoL.sliceV ho hd hN hgd hx (l := l) (r := r) (lo' := some (.int kd (l : Int))) (hi' := some (.int kd' (r : Int))) (by simp [hlo]) (by simp [hhi]) hS (by simp [bnd]) (by simp [bnd]) h1 (Nat.le_trans h2 hS.le) ?_
  simpa using this
end
end Go.Proofs.Ytmelgnpogdilgaa
