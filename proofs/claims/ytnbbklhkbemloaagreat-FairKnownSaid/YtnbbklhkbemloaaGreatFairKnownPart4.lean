/- What the law leans on, part 4. No conditions. -/
import Derived.ProofKit
import Derived.OpenShut
import Derived.ChangeOld
import Derived.Deep.Slices
import Derived.KernelRfl
import Derived.Laws.StructEq
import Derived.Test.YtnbbklhkbemloaaGreatFairKnownPart3
set_option linter.unusedVariables false
set_option linter.unusedSimpArgs false
namespace Go.Proofs.YtnbbklhkbemloaaGreat
theorem ofInt_toNat {w x : Nat} (h : x < 2 ^ w) : (BitVec.ofInt w (x : Int)).toNat = x := by
  rw [BitVec.ofInt_natCast, BitVec.toNat_ofNat, Nat.mod_eq_of_lt h]
def Sm (k : IntKind) (x : Nat) : Prop := x < 2 ^ (k.bits - if k.signed then 1 else 0)
theorem Sm.lt {k : IntKind} {x : Nat} (h : Sm k x) : x < 2 ^ k.bits := by
  unfold Sm at h
  exact Nat.lt_of_lt_of_le h (Nat.pow_le_pow_right (by omega) (by omega))
theorem Sm.wrap {k : IntKind} {x : Nat} (h : Sm k x) : k.wrap (x : Int) = x := by
  unfold Sm at h
  cases hs : k.signed with
  | false =>
    rw [hs] at h
    exact wrap_us k hs (by omega) (by simpa using Int.ofNat_lt.2 h)
  | true =>
    rw [hs] at h
    have hb : k.bits = (k.bits - 1) + 1 := by cases k <;> rfl
    have e : (2 : Int) ^ k.bits = 2 * 2 ^ (k.bits - 1) := by rw [hb, Int.pow_succ]; simp; omega
    have h' : (x : Int) < 2 ^ (k.bits - 1) := by simpa using Int.ofNat_lt.2 h
    simp only [IntKind.wrap, hs, Bool.true_and, decide_eq_true_eq]
    rw [Int.emod_eq_of_lt (by omega) (by omega), if_neg (by omega)]
theorem iXor_nat {k : IntKind} {x y : Nat} (hx : Sm k x) (hy : Sm k y) : iBin .xor k x y = some (.int k ((x ^^^ y : Nat) : Int)) := by
  have hz : Sm k (x ^^^ y) := Nat.xor_lt_two_pow hx hy
  simp only [iBin, BitVec.toNat_xor, ofInt_toNat hx.lt, ofInt_toNat hy.lt, hz.wrap]
theorem iShr_nat {k : IntKind} {x n : Nat} (hn : n ≤ k.bits) : iSh .shr k x n = some (.int k ((x / 2 ^ n : Nat) : Int)) := by
  have h0 : ¬ ((n : Int) < 0) := by omega
  have e : (2 : Int) ^ n = ((2 ^ n : Nat) : Int) := by simp
  simp only [iSh, if_neg h0, Int.toNat_natCast, Nat.min_eq_left hn, e]
  rw [Int.fdiv_eq_ediv_of_nonneg _ (Int.natCast_nonneg _)]
  rfl
theorem wrap_u8 (x : Nat) : IntKind.u8.wrap (x : Int) = ((x % 256 : Nat) : Int) := by
  simp only [IntKind.wrap, IntKind.signed, IntKind.bits, Bool.false_and, Bool.false_eq_true, if_false]
  rfl
section
variable {P : Program} {W : Nat → Prop} {q : Bool} {N : Nat} {k : List It} {ov : Ov} {df : List Nat} {h : AHeap} {Q : PQ} {id : Nat} {ops : Array Oper} {os : List Oper} {o : Oper} {d : Nat} {b₀ : Bool} {tr : List (Option LE)}
theorem GoR.addN {t t₂ : TypeId} {x y : Operand} {i j : Nat} (ho : o.op = .binOp .add t x y t₂) (hd : o.dst = some d) (hN : dOk d N = true) (hgd : o.guard = none) (hx : evO ov x = some (.int .i64 (i : Int))) (hy : evO ov y = some (.int .i64 (j : Int))) (h1 : i + j ≤ 9223372036854775807) (g : GoR P W q N ops b₀ os k ((d, .int .i64 ((i + j : Nat) : Int)) :: ov) df h Q) : GoR P W q N ops b₀ (o :: os) k ov df h Q := GoR.add ho hd hN hgd hx hy (by omega) (by omega) (by have e : ((i + j : Nat) : Int) = (i : Int) + (j : Int) := (by omega); rw [← e]; exact g)
theorem GoR.shrN {t t₂ : TypeId} {x y : Operand} {kd kd' : IntKind} {i j : Nat} (ho : o.op = .binOp .shr t x y t₂) (hd : o.dst = some d) (hN : dOk d N = true) (hgd : o.guard = none) (hx : evO ov x = some (.int kd (i : Int))) (hy : evO ov y = some (.int kd' (j : Int))) (h1 : Nat.ble j kd.bits = true) (g : GoR P W q N ops b₀ os k ((d, .int kd ((i / 2 ^ j : Nat) : Int)) :: ov) df h Q) : GoR P W q N ops b₀ (o :: os) k ov df h Q := GoR.shiftE _ ho hd hN hgd hx hy (iShr_nat (Nat.le_of_ble_eq_true h1)) g
theorem GoR.xorN {t t₂ : TypeId} {x y : Operand} {kd : IntKind} {i j : Nat} (ho : o.op = .binOp .xor t x y t₂) (hd : o.dst = some d) (hN : dOk d N = true) (hgd : o.guard = none) (hx : evO ov x = some (.int kd (i : Int))) (hy : evO ov y = some (.int kd (j : Int))) (h1 : i < 2 ^ (kd.bits - if kd.signed then 1 else 0)) (h2 : j < 2 ^ (kd.bits - if kd.signed then 1 else 0)) (g : GoR P W q N ops b₀ os k ((d, .int kd ((i ^^^ j : Nat) : Int)) :: ov) df h Q) : GoR P W q N ops b₀ (o :: os) k ov df h Q := GoR.binE _ ho hd hN hgd hx hy (iXor_nat h1 h2) g
theorem GoR.conv_u8 {t t₂ : TypeId} {x : Operand} {kd' : IntKind} {i : Nat} (ho : o.op = .convert t t₂ x) (hd : o.dst = some d) (hN : dOk d N = true) (hgd : o.guard = none) (hx : evO ov x = some (.int kd' (i : Int))) [hc : IC P t t₂ .u8] (g : GoR P W q N ops b₀ os k ((d, .int .u8 ((i % 256 : Nat) : Int)) :: ov) df h Q) : GoR P W q N ops b₀ (o :: os) k ov df h Q := GoR.convE _ ho hd hN hgd hx (wrap_u8 i) g
theorem GoR.indexN {t : TypeId} {x y : Operand} {kk : IntKind} {i : Nat} {a : Option Addr} {len cap : Nat} {cs : List Value} (ho : o.op = .indexAddr t x y) (hd : o.dst = some d) (hN : dOk d N = true) (hgd : o.guard = none) (hx : evO ov x = some (.slice a len cap)) (hy : evO ov y = some (.int kk (i : Int))) [he : EL P t (none, 1)] (hS : Rv P h 1 a len cap cs) (h1 : i < len) (g : GoR P W q N ops b₀ os k ((d, ptA a i) :: ov) df h Q) : GoR P W q N ops b₀ (o :: os) k ov df h Q := GoR.indexV ho hd hN hgd hx hy hS (by omega) (by omega) (by have e : (i : Int).toNat * 1 = i := (by omega); rw [e]; exact g)
theorem GoL.addN {t t₂ : TypeId} {x y : Operand} {i j : Nat} (ho : o.op = .binOp .add t x y t₂) (hd : o.dst = some d) (hN : dOk d N = true) (hgd : o.guard = none) (hx : evO ov x = some (.int .i64 (i : Int))) (hy : evO ov y = some (.int .i64 (j : Int))) (h1 : i + j ≤ 9223372036854775807) (g : GoL P W q N ops (tr ++ [none]) os k ((d, .int .i64 ((i + j : Nat) : Int)) :: ov) df h Q) : GoL P W q N ops tr (o :: os) k ov df h Q := GoL.add ho hd hN hgd hx hy (by omega) (by omega) (by have e : ((i + j : Nat) : Int) = (i : Int) + (j : Int) := (by omega); rw [← e]; exact g)
theorem GoL.shrN {t t₂ : TypeId} {x y : Operand} {kd kd' : IntKind} {i j : Nat} (ho : o.op = .binOp .shr t x y t₂) (hd : o.dst = some d) (hN : dOk d N = true) (hgd : o.guard = none) (hx : evO ov x = some (.int kd (i : Int))) (hy : evO ov y = some (.int kd' (j : Int))) (h1 : Nat.ble j kd.bits = true) (g : GoL P W q N ops (tr ++ [none]) os k ((d, .int kd ((i / 2 ^ j : Nat) : Int)) :: ov) df h Q) : GoL P W q N ops tr (o :: os) k ov df h Q := GoL.shiftE _ ho hd hN hgd hx hy (iShr_nat (Nat.le_of_ble_eq_true h1)) g
theorem GoL.xorN {t t₂ : TypeId} {x y : Operand} {kd : IntKind} {i j : Nat} (ho : o.op = .binOp .xor t x y t₂) (hd : o.dst = some d) (hN : dOk d N = true) (hgd : o.guard = none) (hx : evO ov x = some (.int kd (i : Int))) (hy : evO ov y = some (.int kd (j : Int))) (h1 : i < 2 ^ (kd.bits - if kd.signed then 1 else 0)) (h2 : j < 2 ^ (kd.bits - if kd.signed then 1 else 0)) (g : GoL P W q N ops (tr ++ [none]) os k ((d, .int kd ((i ^^^ j : Nat) : Int)) :: ov) df h Q) : GoL P W q N ops tr (o :: os) k ov df h Q := GoL.binE _ ho hd hN hgd hx hy (iXor_nat h1 h2) g
theorem GoL.conv_u8 {t t₂ : TypeId} {x : Operand} {kd' : IntKind} {i : Nat} (ho : o.op = .convert t t₂ x) (hd : o.dst = some d) (hN : dOk d N = true) (hgd : o.guard = none) (hx : evO ov x = some (.int kd' (i : Int))) [hc : IC P t t₂ .u8] (g : GoL P W q N ops (tr ++ [none]) os k ((d, .int .u8 ((i % 256 : Nat) : Int)) :: ov) df h Q) : GoL P W q N ops tr (o :: os) k ov df h Q := GoL.convE _ ho hd hN hgd hx (wrap_u8 i) g
theorem GoL.indexN {t : TypeId} {x y : Operand} {kk : IntKind} {i : Nat} {a : Option Addr} {len cap : Nat} {cs : List Value} (ho : o.op = .indexAddr t x y) (hd : o.dst = some d) (hN : dOk d N = true) (hgd : o.guard = none) (hx : evO ov x = some (.slice a len cap)) (hy : evO ov y = some (.int kk (i : Int))) [he : EL P t (none, 1)] (hS : Rv P h 1 a len cap cs) (h1 : i < len) (g : GoL P W q N ops (tr ++ [none]) os k ((d, ptA a i) :: ov) df h Q) : GoL P W q N ops tr (o :: os) k ov df h Q := GoL.indexV ho hd hN hgd hx hy hS (by omega) (by omega) (by have e : (i : Int).toNat * 1 = i := (by omega); rw [e]; exact g)
end
theorem Own.out {n i : Nat} {a : Option Addr} (h : Own n a) (hi : i ∈ blk a) : n ≤ i := h i hi
theorem Keeps.get {wr : List Nat} {h h' : AHeap} (k : Keeps wr h h') {i : Nat} {o : AObj} (e : h.get i = some o) (hn : i ∉ wr) : h'.get i = some o := by rw [k.2 i (AHeap.lt e) hn]; exact e
section
variable {ops : Array Oper} {all es : List (Option LE)} {i j : Nat} {w : List Nat} {e : LE}
theorem loudP.nil : loudP ops all [] i := trivial
theorem loudP.none (k : loudP ops all es (i + 1)) : loudP ops all (none :: es) i := k
theorem loudP.new (hw : ∀ b ∈ e.wr, e.n ≤ b) (k : loudP ops all es (i + 1)) : loudP ops all (some e :: es) i := ⟨.inl hw, k⟩
theorem loudP.row (hr : loudRowP ops e.wr i all 0) (k : loudP ops all es (i + 1)) : loudP ops all (some e :: es) i := ⟨.inr hr, k⟩
theorem loudRowP.nil : loudRowP ops w i [] j := trivial
theorem loudRowP.none (k : loudRowP ops w i es (j + 1)) : loudRowP ops w i (none :: es) j := ⟨trivial, k⟩
theorem loudRowP.bef (h : (i == j || bef ops i j || bef ops j i) = true) (k : loudRowP ops w i es (j + 1)) : loudRowP ops w i (some e :: es) j := ⟨.inl h, k⟩
theorem loudRowP.apart (h1 : e.same = true ∨ ∀ b ∈ e.wr, e.n ≤ b) (h2 : e.all = false) (h3 : ∀ b ∈ w, b ∉ e.rd ∧ b ∉ e.wr ∧ (b < e.n ∨ e.n' ≤ b)) (k : loudRowP ops w i es (j + 1)) : loudRowP ops w i (some e :: es) j := ⟨.inr ⟨h1, h2, h3⟩, k⟩
end
theorem Same.own {wr : List Nat} {h₀ h h' : AHeap} (s : Same h₀ h) (k : Keeps wr h h') (ho : ∀ i ∈ wr, h₀.n ≤ i) : Same h₀ h' :=
  ⟨Nat.le_trans s.1 k.1, fun i hi => (k.2 i (Nat.lt_of_lt_of_le hi s.1) fun hw => by have := ho i hw; omega).trans (s.2 i hi)⟩
theorem Own.ok {n n₀ : Nat} {a : Option Addr} {wr : List Nat} (h : Own n a) (hle : n₀ ≤ n) : ∀ i ∈ blk a, i ∈ wr ∨ n₀ ≤ i := fun i hi => .inr (Nat.le_trans hle (h i hi))
section
variable {P : Program} {W : Nat → Prop} {q : Bool} {N : Nat} {k : List It} {ov : Ov} {df : List Nat} {h : AHeap} {Q : PQ} {id : Nat} {ops : Array Oper} {os : List Oper} {o : Oper} {d : Nat} {b₀ : Bool} {tr : List (Option LE)}
theorem GoL.storeV {t tt : TypeId} {x y : Operand} {kv n sz : Nat} {a : Option Addr} {len cap : Nat} {cs l : List Value} {v : Value} (ho : o.op = .store t x y) (hd : o.dst = none) (hgd : o.guard = none) (hx : evO ov x = some (ptA a kv)) (hy : evO ov y = some v) [hs : SZ P t n] (hl : cellsL v = l) (h1 : l.length = n) (h3 : l.all Value.oneCell' = true) (h4 : 0 < n)
    (hS : Sv h tt sz a len cap cs) (h2 : kv + n ≤ cs.length) (hw : ∀ i ∈ blk a, W i)
    (g : ∀ h', Sv h' tt sz a len cap (setL cs kv l) → Keeps (blk a) h h' → h'.n = h.n → GoL P W q N ops (tr ++ [some ⟨h.n, h'.n, blk a, blk a, false, false⟩]) os k ov df h' Q) : GoL P W q N ops tr (o :: os) k ov df h Q := by
  have hlen := hS.length
  have hp := hS.pos (by omega)
  obtain ⟨b, o', c, rfl, hg, ho', hle, hc⟩ := hS.some hp
  have m : len * sz ≤ cap * sz := Nat.mul_le_mul_right _ hle
  have hx' : evO ov x = some (.pointer (some ⟨b, o' + kv, none⟩)) := hx
  refine GoL.store ho hd hgd hx' hy hg hl h1 (by omega) h3 rfl (hw b (by simp [blk])) (g _ ?_ ⟨Nat.le_refl _, fun i _ hn => AHeap.get_put_ne _ _ fun e => hn (by simp [blk, e])⟩ rfl)
  exact .mk (get_put_self hg) (by rw [setL_length (by omega)]; exact ho') hle (setL_sub hc (by omega) (by omega))
theorem cells_one {v : Value} (h : v.oneCell' = true) : cellsL v = [v] := by cases v <;> first | rfl | cases h
theorem setL_one {cs : List Value} {kv : Nat} {v : Value} (h : kv < cs.length) : setL cs kv [v] = cs.set kv v := by
  rw [List.set_eq_take_append_cons_drop, if_pos h]
  simp [setL]
theorem GoL.store1 {t tt : TypeId} {x y : Operand} {kv sz : Nat} {a : Option Addr} {len cap : Nat} {cs : List Value} {v : Value} (ho : o.op = .store t x y) (hd : o.dst = none) (hgd : o.guard = none) (hx : evO ov x = some (ptA a kv)) (hy : evO ov y = some v) [hs : SZ P t 1] (h1 : v.oneCell' = true)
    (hS : Sv h tt sz a len cap cs) (h2 : kv < cs.length) (hw : ∀ i ∈ blk a, W i)
    (g : ∀ h', Sv h' tt sz a len cap (cs.set kv v) → Keeps (blk a) h h' → h'.n = h.n → GoL P W q N ops (tr ++ [some ⟨h.n, h'.n, blk a, blk a, false, false⟩]) os k ov df h' Q) : GoL P W q N ops tr (o :: os) k ov df h Q :=
  GoL.storeV ho hd hgd hx hy (cells_one h1) rfl (by simp [h1]) (Nat.succ_pos 0) hS h2 hw fun h' a1 a2 a3 => g h' (by rw [← setL_one h2]; exact a1) a2 a3
theorem GoR.store1 {t tt : TypeId} {x y : Operand} {kv sz : Nat} {a : Option Addr} {len cap : Nat} {cs : List Value} {v : Value} (ho : o.op = .store t x y) (hd : o.dst = none) (hgd : o.guard = none) (hx : evO ov x = some (ptA a kv)) (hy : evO ov y = some v) [hs : SZ P t 1] (h1 : v.oneCell' = true)
    (hS : Sv h tt sz a len cap cs) (h2 : kv < cs.length) (hw : ∀ i ∈ blk a, W i)
    (g : ∀ h', Sv h' tt sz a len cap (cs.set kv v) → Keeps (blk a) h h' → h'.n = h.n → GoR P W q N ops true os k ov df h' Q) : GoR P W q N ops true (o :: os) k ov df h Q :=
  GoR.storeV ho hd hgd hx hy (cells_one h1) rfl (by simp [h1]) (Nat.succ_pos 0) hS h2 hw fun h' a1 a2 a3 => g h' (by rw [← setL_one h2]; exact a1) a2 a3
end
end Go.Proofs.YtnbbklhkbemloaaGreat
namespace Go.Proofs.YtnbbklhkbemloaaGreat
open Go.RowKit
def tileB (P : Program) : List Field → Nat → Nat → Bool
  | [], off, total => Nat.beq off total
  | f :: r, off, total => Nat.beq f.offset off && tileB P r (off + P.cellsOf f.type) total
def plainB (P : Program) : Nat → TypeId → Bool
  | 0, _ => false
  | f + 1, t => match P.underlying t with
    | some .bool | some (.int _) | some .string => Nat.beq (P.cellsOf t) 1
    | some (.slice e) => Nat.beq (P.cellsOf t) 1 && Nat.ble 1 (P.cellsOf e) && plainB P f e
    | some (.struct fs) => tileB P fs.toList 0 (P.cellsOf t) && fs.toList.all fun x => plainB P f x.type
    | _ => false
inductive ARd (P : Program) (h : AHeap) {H : Type} : TypeId → List Value → DataW H → Prop
  | bool {t : TypeId} {b : Bool} (hu : P.underlying t = some .bool) : ARd P h t [.bool b] (.lit (.bool b))
  | int {t : TypeId} {k : IntKind} {n : Int} (hu : P.underlying t = some (.int k)) (hw : (Lit.int k n).wf = true) : ARd P h t [.int k n] (.lit (.int k n))
  | str {t : TypeId} {s : ByteArray} (hu : P.underlying t = some .string) (hm : s.size ≤ maxLen) : ARd P h t [.string s] (.lit (.string s.data.toList))
  | snil {t e : TypeId} (hu : P.underlying t = some (.slice e)) : ARd P h t [.slice none 0 0] .nil
  | slice {t e : TypeId} {a : Addr} {len cap : Nat} {c : List Value} {ds rest : List (DataW H)} (hu : P.underlying t = some (.slice e)) (hR : Rv P h (P.cellsOf e) (some a) len cap c) (hm : cap ≤ maxLen) (hl : ds.length = len) (he : ∀ (i : Nat) (d : DataW H), ds[i]? = some d → ARd P h e ((c.drop (i * P.cellsOf e)).take (P.cellsOf e)) d) : ARd P h t [.slice (some a) len cap] (.slice ds rest)
  | struct {t : TypeId} {fs : Array Field} {cs : List Value} {xs : List (DataW H)} (hu : P.underlying t = some (.struct fs)) (hl : cs.length = P.cellsOf t) (hx : xs.length = fs.size) (hf : ∀ (i : Nat) (f : Field) (d : DataW H), fs[i]? = some f → xs[i]? = some d → ARd P h f.type ((cs.drop f.offset).take (P.cellsOf f.type)) d) : ARd P h t cs (.agg xs)
theorem ARd.same {P : Program} {h h' : AHeap} {H : Type} {t : TypeId} {cs : List Value} {d : DataW H} (k : ARd P h t cs d) (s : Same h h') : ARd P h' t cs d := by
  induction k with
  | bool hu => exact .bool hu
  | int hu hw => exact .int hu hw
  | str hu hm => exact .str hu hm
  | snil hu => exact .snil hu
  | slice hu hR hm hl _ ih => exact .slice hu (hR.same s) hm hl ih
  | struct hu hl hx _ ih => exact .struct hu hl hx ih
structure Im (P : Program) (W : World) (m : Mp) (h : AHeap) : Prop where
  rel : HRel P m Ev h W
  dom : ∀ i, h.n ≤ i → m i = none
  dead : ∀ i, ¬ h.live i
theorem Im.empty (P : Program) (W : World) : Im P W (fun _ => none) emptyH := ⟨hrel_empty P Ev W, fun _ _ => rfl, fun i ⟨o, e, _⟩ => by have := AHeap.lt e; exact absurd this (Nat.not_lt_zero i)⟩
theorem not_live_ro {h : AHeap} (hd : ∀ i, ¬ h.live i) (c : List Value) : ∀ i, ¬ (h.push (.ro c)).live i := fun i ⟨o, e, ho⟩ => by
  rw [AHeap.get_push] at e
  split at e
  · cases e; cases ho
  · exact hd i ⟨o, e, ho⟩
section
variable {P : Program} {W : World} {m : Mp} {h : AHeap}
theorem Im.add (I : Im P W m h) {l : Loc} {c : List Value} {c' : Array Value} {t : TypeId} {fz : Nat × Nat} (hs : l.slk = 0) (hw : W.heap[l.b]? = some (.cells c' t fz)) (hc : ∀ (i : Nat) v, c[i]? = some v → ∃ v', c'[i + l.sh]? = some v' ∧ VRel m v v') : Im P W (upd m h.n l) (h.push (.ro c)) := by
  have hn : m h.n = none := I.dom _ (Nat.le_refl _)
  have hlb : l.b < W.heap.size := (Array.getElem?_eq_some_iff.1 hw).1
  refine ⟨⟨fun i k e => ?_, fun i k d u e g => ?_, fun i j l₁ l₂ e₁ e₂ g₁ g₂ _ => absurd g₂ (not_live_ro I.dead c j), fun i k d e g => ?_, fun i k o _ e g => ?_⟩, fun i hi => ?_, not_live_ro I.dead c⟩
  · by_cases hi : i = h.n
    · subst hi; rw [upd_same] at e; cases e; exact hlb
    · rw [upd_ne m l hi] at e; exact I.rel.lt i k e
  · rw [AHeap.get_push] at g
    split at g
    · cases g
    · exact absurd ⟨_, g, rfl⟩ (I.dead i)
  · by_cases hi : i = h.n
    · subst hi; rw [upd_same] at e; cases e; exact hs
    · rw [upd_ne m l hi] at e; rw [AHeap.get_push_ne _ _ (Ne.symm hi)] at g; exact I.rel.roS i k d e g
  · by_cases hi : i = h.n
    · subst hi; rw [upd_same] at e; cases e; rw [AHeap.get_push_same] at g; cases g
      exact ⟨_, hw, .ro hs fun i v hv => let ⟨v', a, b⟩ := hc i v hv; ⟨v', a, b.mono (upd_le hn)⟩⟩
    · rw [upd_ne m l hi] at e; rw [AHeap.get_push_ne _ _ (Ne.symm hi)] at g
      obtain ⟨o', a, b⟩ := I.rel.obj i k o trivial e g
      exact ⟨o', a, b.mono (upd_le hn)⟩
  · simp at hi
    rw [upd_ne m l (by omega)]; exact I.dom i (by omega)
theorem Im.add0 (I : Im P W m h) (c : List Value) : Im P W m (h.push (.ro c)) := by
  have hn : m h.n = none := I.dom _ (Nat.le_refl _)
  have hne : ∀ i k, m i = some k → i ≠ h.n := fun i k e hi => by subst hi; rw [hn] at e; cases e
  refine ⟨⟨I.rel.lt, fun i k d u e g => ?_, fun i j l₁ l₂ e₁ e₂ g₁ g₂ _ => absurd g₂ (not_live_ro I.dead c j), fun i k d e g => ?_, fun i k o _ e g => ?_⟩, fun i hi => ?_, not_live_ro I.dead c⟩
  · rw [AHeap.get_push_ne _ _ (Ne.symm (hne i k e))] at g; exact I.rel.typ i k d u e g
  · rw [AHeap.get_push_ne _ _ (Ne.symm (hne i k e))] at g; exact I.rel.roS i k d e g
  · rw [AHeap.get_push_ne _ _ (Ne.symm (hne i k e))] at g; exact I.rel.obj i k o trivial e g
  · simp at hi
    exact I.dom i (by omega)
theorem ARel.single {m : Mp} {v v' : Value} (h : VRel m v v') : ARel m [v].toArray [v'].toArray := ⟨rfl, fun i u u' e e' => by
  cases i with
  | zero => simp at e e'; subst e e'; exact h
  | succ i => simp at e⟩
theorem block_of_cell {W : World} {b off : Nat} {v : Value} (h : W.cell? ⟨b, off, none⟩ = some v) : ∃ c' t fz, W.heap[b]? = some (.cells c' t fz) ∧ ∀ k u, W.cell? ⟨b, k, none⟩ = some u → c'[k]? = some u := by
  unfold World.cell? at h
  split at h
  · rename_i c t fz hc
    exact ⟨c, t, fz, hc, fun k u hk => by simpa [World.cell?, hc] using hk⟩
  · cases h
theorem ARel.cat {m : Mp} {a b a' b' : List Value} (h : ARel m a.toArray a'.toArray) (k : ARel m b.toArray b'.toArray) : ARel m (a ++ b).toArray (a' ++ b').toArray := by
  have := h.append k
  simpa using this
theorem ARel.len {m : Mp} {a a' : List Value} (h : ARel m a.toArray a'.toArray) : a.length = a'.length := by simpa using h.1
theorem imp {H : Type} {enc : TypeId × Value → H} : ∀ (f fuel : Nat) (t : TypeId) (cs' : List Value) (d : DataW H) (ps : List MemPlace), plainB P f t = true → DataW.trod enc P W 0 (fun _ => true) true fuel t cs' = some (d, ps) → ∀ (m : Mp) (h : AHeap), Im P W m h →
    ∃ m' h' cs, Im P W m' h' ∧ m.le m' ∧ Same h h' ∧ ARel m' cs.toArray cs'.toArray ∧ ARd P h' t cs d ∧ cs.length = P.cellsOf t
  | 0, fuel, t, cs', d, ps, hp, hd => by cases hp
  | f + 1, fuel, t, cs', d, ps, hp, hd => fun m h I => by
    unfold plainB at hp
    split at hp
    · rename_i hu
      obtain ⟨b, rfl, e⟩ := DataW.trod_bool hu hd
      cases e
      exact ⟨m, h, _, I, .refl m, .refl h, .single (.bool b), .bool hu, (Nat.eq_of_beq_eq_true hp).symm⟩
    · rename_i k hu
      obtain ⟨n, rfl, e, hw⟩ := DataW.trod_int hu hd
      cases e
      exact ⟨m, h, _, I, .refl m, .refl h, .single (.int k n), .int hu hw, (Nat.eq_of_beq_eq_true hp).symm⟩
    · rename_i hu
      obtain ⟨s, rfl, e, hm⟩ := DataW.trod_string hu hd
      cases e
      exact ⟨m, h, _, I, .refl m, .refl h, .single (.string s), .str hu hm, (Nat.eq_of_beq_eq_true hp).symm⟩
    · rename_i e hu
      simp only [Bool.and_eq_true] at hp
      obtain ⟨⟨hp1, hp2⟩, hp3⟩ := hp
      have hsz : 1 ≤ P.cellsOf e := Nat.le_of_ble_eq_true hp2
      have h1 : 1 = P.cellsOf t := (Nat.eq_of_beq_eq_true hp1).symm
      rcases Go.Deep.open_slice hu hd with ⟨rfl, ex⟩ | ⟨a, len, cap, mm, n, D, Pl, rfl, _, hl, hm, hmm, ex, hi⟩
      · cases ex
        exact ⟨m, h, _, I, .refl m, .refl h, .single .snil, .snil hu, h1⟩
      · simp only [if_true] at hmm
        rw [hmm] at ex hi
        cases ex
        have elems : ∀ k, k ≤ len → ∃ (m' : Mp) (h' : AHeap) (c : List Value), Im P W m' h' ∧ m.le m' ∧ Same h h' ∧ c.length = k * P.cellsOf e ∧ (∀ (q : Nat) v, c[q]? = some v → ∃ v', W.cell? (a.add q) = some v' ∧ VRel m' v v') ∧ ∀ i, i < k → ARd P h' e ((c.drop (i * P.cellsOf e)).take (P.cellsOf e)) (D i) := by
          intro k
          induction k with
          | zero => exact fun _ => ⟨m, h, [], I, .refl m, .refl h, by simp, fun q v e => by simp at e, fun i hi => by omega⟩
          | succ k ih =>
            intro hk
            obtain ⟨m₁, h₁, c₁, I₁, l₁, s₁, n₁, r₁, a₁⟩ := ih (by omega)
            obtain ⟨cs₂, hc, ht⟩ := hi k (by omega)
            obtain ⟨_, hlen, hat⟩ := World.cells?_some hc
            obtain ⟨m₂, h₂, c₂, I₂, l₂, s₂, r₂, a₂, n₂⟩ := imp f n e cs₂ (D k) (Pl k) hp3 ht m₁ h₁ I₁
            refine ⟨m₂, h₂, c₁ ++ c₂, I₂, l₁.trans l₂, s₁.trans s₂, by rw [List.length_append, n₁, n₂, Nat.add_mul, Nat.one_mul], fun q v hq => ?_, fun i hik => ?_⟩
            · rw [List.getElem?_append] at hq
              split at hq
              · obtain ⟨v', x, y⟩ := r₁ q v hq
                exact ⟨v', x, y.mono l₂⟩
              · rename_i hge
                obtain ⟨v', x, y⟩ := r₂.get (i := q - c₁.length) (v := v) (by simpa using hq)
                have hlt : q - c₁.length < P.cellsOf e := by rw [← n₂]; exact (List.getElem?_eq_some_iff.1 hq).1
                refine ⟨v', ?_, y⟩
                have := hat _ hlt
                rw [n₁] at this hge x
                rw [Addr.add_add] at this
                rw [show k * P.cellsOf e + (q - k * P.cellsOf e) = q from by omega] at this
                rw [this]
                simpa using x
            · rcases Nat.lt_or_ge i k with hlt | hge
              · have m1 : (i + 1) * P.cellsOf e ≤ k * P.cellsOf e := Nat.mul_le_mul_right _ hlt
                rw [Nat.add_mul, Nat.one_mul] at m1
                rw [List.drop_append_of_le_length (by omega), List.take_append_of_le_length (by simp; omega)]
                exact (a₁ i hlt).same s₂
              · have : i = k := by omega
                subst this
                rw [← n₁, List.drop_left, ← n₂, List.take_length]
                exact a₂
        obtain ⟨m₁, h₁, c, I₁, l₁, s₁, n₁, r₁, a₁⟩ := elems len (Nat.le_refl _)
        have fin : ∀ (h₂ : AHeap) (m₂ : Mp) (a' : Addr), Im P W m₂ h₂ → m₁.le m₂ → Same h₁ h₂ → VRel m₂ (.slice (some a') len cap) (.slice (some a) len cap) → Rv P h₂ (P.cellsOf e) (some a') len cap c → ∃ (m' : Mp) (h' : AHeap) (cs : List Value), Im P W m' h' ∧ m.le m' ∧ Same h h' ∧ ARel m' cs.toArray [Value.slice (some a) len cap].toArray ∧ ARd P h' t cs (.slice ((List.range len).map D) ((List.range (cap - len)).map fun j => D (len + j))) ∧ cs.length = P.cellsOf t := fun h₂ m₂ a' I₂ l₂ s₂ hv hR =>
          ⟨m₂, h₂, [.slice (some a') len cap], I₂, l₁.trans l₂, s₁.trans s₂, .single hv, .slice hu hR hm (by simp) (fun i d hd => by
            simp only [List.getElem?_map, Option.map_eq_some_iff] at hd
            obtain ⟨j, hj, rfl⟩ := hd
            have hlt : i < len := by
              rcases Nat.lt_or_ge i len with h | h
              · exact h
              · rw [List.getElem?_eq_none (by simpa using h)] at hj; cases hj
            have : j = i := by simpa [hlt] using hj.symm
            subst this
            exact (a₁ j hlt).same s₂), h1⟩
        by_cases hcap : cap = 0
        · subst hcap
          have hl0 : len = 0 := by omega
          subst hl0
          have hc0 : c = [] := List.length_eq_zero_iff.1 (by simpa using n₁)
          subst hc0
          exact fin (h₁.push (.ro [])) m₁ ⟨h₁.n, 0, none⟩ (I₁.add0 []) (.refl _) ((Same.refl _).push _) (.slice0 _ _ _) (.mk (.inr (AHeap.get_push_same _ _)) (by simp) (Nat.le_refl _) (by simp))
        · obtain ⟨cs₀, hc₀, _⟩ := hi 0 (by omega)
          obtain ⟨_, hlen₀, hat₀⟩ := World.cells?_some hc₀
          have hx := hat₀ 0 (by omega)
          rw [List.getElem?_eq_getElem (by omega)] at hx
          obtain ⟨b, off, spot⟩ := a
          have hspot : spot = none := by simpa [Addr.add] using World.cell?_spot hx
          subst hspot
          rw [addr_add, addr_add] at hx
          obtain ⟨c', ty, fz, hw, hcell⟩ := block_of_cell hx
          have I₂ := I₁.add (l := ⟨b, off, P.cellsOf e, c.length, 0⟩) (c := c) rfl hw (fun i v hv => by
            obtain ⟨v', x, y⟩ := r₁ i v hv
            rw [addr_add] at x
            exact ⟨v', by rw [Nat.add_comm]; exact hcell _ _ x, y⟩)
          have hup := upd_le (l := (⟨b, off, P.cellsOf e, c.length, 0⟩ : Loc)) (I₁.dom h₁.n (Nat.le_refl _))
          refine fin (h₁.push (.ro c)) _ ⟨h₁.n, 0, none⟩ I₂ hup ((Same.refl _).push _) ?_ (.mk (.inr (AHeap.get_push_same _ _)) (by omega) hl (by rw [List.drop_zero, ← n₁, List.take_length]))
          have := VRel.slice (m := upd m₁ h₁.n ⟨b, off, P.cellsOf e, c.length, 0⟩) (o := 0) (len := len) (cap := cap) (upd_same m₁ h₁.n _) (.inl rfl)
          simpa using this
    · rename_i fs hu
      simp only [Bool.and_eq_true] at hp
      obtain ⟨hp1, hp2⟩ := hp
      obtain ⟨xs, n, _, ex, hcl, hxl, hxs⟩ := DataW.trod_struct hu hd
      cases ex
      have fields : ∀ (l : List Field) (k off : Nat) (m₁ : Mp) (h₁ : AHeap) (c₁ : List Value), fs.toList.drop k = l → tileB P l off (P.cellsOf t) = true → Im P W m₁ h₁ → m.le m₁ → Same h h₁ → c₁.length = off → off ≤ cs'.length → ARel m₁ c₁.toArray (cs'.take off).toArray →
          (∀ (i : Nat) (g : Field) (d : DataW H), i < k → fs[i]? = some g → (xs.map (·.1))[i]? = some d → g.offset + P.cellsOf g.type ≤ off ∧ ARd P h₁ g.type ((c₁.drop g.offset).take (P.cellsOf g.type)) d) →
          ∃ (m' : Mp) (h' : AHeap) (cs : List Value), Im P W m' h' ∧ m.le m' ∧ Same h h' ∧ ARel m' cs.toArray cs'.toArray ∧ cs.length = P.cellsOf t ∧ ∀ (i : Nat) (g : Field) (d : DataW H), fs[i]? = some g → (xs.map (·.1))[i]? = some d → ARd P h' g.type ((cs.drop g.offset).take (P.cellsOf g.type)) d := by
        intro l
        induction l with
        | nil =>
          intro k off m₁ h₁ c₁ hl ht I₁ l₁ s₁ n₁ hle r₁ a₁
          have hoff : off = P.cellsOf t := Nat.eq_of_beq_eq_true ht
          have hk : fs.size ≤ k := by
            have := congrArg List.length hl
            simp at this; omega
          refine ⟨m₁, h₁, c₁, I₁, l₁, s₁, ?_, by omega, fun i g d hg hd => (a₁ i g d ?_ hg hd).2⟩
          · rw [List.take_of_length_le (by omega)] at r₁; exact r₁
          · have := (Array.getElem?_eq_some_iff.1 hg).1; omega
        | cons g l ih =>
          intro k off m₁ h₁ c₁ hl ht I₁ l₁ s₁ n₁ hle r₁ a₁
          unfold tileB at ht
          simp only [Bool.and_eq_true] at ht
          obtain ⟨ht1, ht2⟩ := ht
          have hgo : g.offset = off := Nat.eq_of_beq_eq_true ht1
          have hg : fs[k]? = some g := by
            have : (fs.toList.drop k)[0]? = some g := by rw [hl]; rfl
            simpa using this
          have hl' : fs.toList.drop (k + 1) = l := by rw [← List.drop_drop, hl]; rfl
          have htr := hxs k g hg
          have hkx : k < xs.length := by rw [hxl]; exact (Array.getElem?_eq_some_iff.1 hg).1
          rw [List.getElem?_eq_getElem hkx] at htr
          have hpg : plainB P f g.type = true := List.all_eq_true.1 hp2 g (by simpa using Array.mem_of_getElem? hg)
          obtain ⟨m₂, h₂, c₂, I₂, l₂, s₂, r₂, a₂, n₂⟩ := imp f n g.type _ xs[k].1 xs[k].2 hpg htr m₁ h₁ I₁
          have hlen2 := r₂.len
          rw [n₂, hgo] at hlen2
          have hfit : off + P.cellsOf g.type ≤ cs'.length := by
            simp at hlen2; omega
          refine ih (k + 1) (off + P.cellsOf g.type) m₂ h₂ (c₁ ++ c₂) hl' ht2 I₂ (l₁.trans l₂) (s₁.trans s₂) (by simp [n₁, n₂]) hfit ?_ ?_
          · rw [List.take_add]
            rw [hgo] at r₂
            exact (r₁.mono l₂).cat r₂
          · intro i g' d hi hg' hd
            rcases Nat.lt_or_ge i k with hlt | hge
            · obtain ⟨b1, b2⟩ := a₁ i g' d hlt hg' hd
              refine ⟨by omega, ?_⟩
              rw [List.drop_append_of_le_length (by omega), List.take_append_of_le_length (by simp; omega)]
              exact b2.same s₂
            · have : i = k := by omega
              subst this
              rw [hg] at hg'; cases hg'
              refine ⟨by omega, ?_⟩
              rw [hgo, ← n₁, List.drop_left, ← n₂, List.take_length]
              simp only [List.getElem?_map, List.getElem?_eq_getElem hkx, Option.map_some, Option.some.injEq] at hd
              subst hd
              exact a₂
      obtain ⟨m', h', cs, g1, g2, g3, g4, g5, g6⟩ := fields fs.toList 0 0 m h [] (by simp) hp1 I (.refl m) (.refl h) rfl (Nat.zero_le _) (by simpa using ARel.empty m) (fun i _ _ hi => by omega)
      exact ⟨m', h', cs, g1, g2, g3, g4, .struct hu g5 (by simp [hxl]) g6, g5⟩
    · cases hp
end
end Go.Proofs.YtnbbklhkbemloaaGreat
namespace Go.Proofs.YtnbbklhkbemloaaGreat
open Go.RowKit
def bv (z : UInt8) : Value := .int .u8 z.toNat
section
variable {P : Program} {W : World} {m : Mp} {h : AHeap} {H : Type} {enc : TypeId × Value → H}
theorem ARd.int_inv {t : TypeId} {k : IntKind} {cs : List Value} {d : DataW H} (r : ARd P h t cs d) (hu : P.underlying t = some (.int k)) : ∃ n : Int, cs = [.int k n] ∧ (Lit.int k n).wf = true := by
  cases r with
  | int hu' hw => rw [hu] at hu'; cases hu'; exact ⟨_, rfl, hw⟩
  | bool hu' => rw [hu] at hu'; cases hu'
  | str hu' => rw [hu] at hu'; cases hu'
  | snil hu' => rw [hu] at hu'; cases hu'
  | slice hu' => rw [hu] at hu'; cases hu'
  | struct hu' => rw [hu] at hu'; cases hu'
theorem ARd.u_inv {t : TypeId} {k : IntKind} (hk : k.signed = false) {cs : List Value} {d : DataW H} (r : ARd P h t cs d) (hu : P.underlying t = some (.int k)) : ∃ n : Nat, cs = [.int k n] ∧ n < 2 ^ k.bits := by
  obtain ⟨n, rfl, hw⟩ := r.int_inv hu
  have hb : 0 ≤ n ∧ n ≤ 2 ^ k.bits - 1 := by simpa [Lit.wf, IntKind.min, IntKind.max, hk] using hw
  have e : ((n.toNat : Nat) : Int) = n := by omega
  refine ⟨n.toNat, by rw [e], ?_⟩
  have : ((n.toNat : Nat) : Int) < ((2 ^ k.bits : Nat) : Int) := by rw [e]; simp; omega
  exact Int.ofNat_lt.1 this
theorem ARd.field {t : TypeId} {fs : Array Field} {cs : List Value} {d : DataW H} (r : ARd P h t cs d) (hu : P.underlying t = some (.struct fs)) : cs.length = P.cellsOf t ∧ ∀ (i ty off sz : Nat), (fs[i]?).map (fun f => (f.type, f.offset)) = some (ty, off) → P.cellsOf ty = sz → ∃ d', ARd (H := H) P h ty ((cs.drop off).take sz) d' := by
  cases r with
  | struct hu' hl hx hf =>
    rw [hu] at hu'; cases hu'
    refine ⟨hl, fun i ty off sz e hs => ?_⟩
    subst hs
    cases hq : fs[i]? with
    | none => simp [hq] at e
    | some f =>
      simp only [hq, Option.map_some, Option.some.injEq, Prod.mk.injEq] at e
      obtain ⟨rfl, rfl⟩ := e
      have hi := (Array.getElem?_eq_some_iff.1 hq).1
      rename_i xs
      exact ⟨_, hf i f xs[i] hq (List.getElem?_eq_getElem (by omega))⟩
  | bool hu' => rw [hu] at hu'; cases hu'
  | int hu' hw => rw [hu] at hu'; cases hu'
  | str hu' => rw [hu] at hu'; cases hu'
  | snil hu' => rw [hu] at hu'; cases hu'
  | slice hu' => rw [hu] at hu'; cases hu'
theorem ARd.slice_inv {t e : TypeId} {cs : List Value} {d : DataW H} (r : ARd P h t cs d) (hu : P.underlying t = some (.slice e)) : ∃ a len cap c, cs = [.slice a len cap] ∧ Rv P h (P.cellsOf e) a len cap c ∧ cap ≤ maxLen ∧ ∀ i, i < len → ∃ d', ARd (H := H) P h e ((c.drop (i * P.cellsOf e)).take (P.cellsOf e)) d' := by
  cases r with
  | snil hu' => exact ⟨none, 0, 0, [], rfl, .nil, Nat.zero_le _, fun i hi => by omega⟩
  | slice hu' hR hm hl he =>
    rw [hu] at hu'; cases hu'
    rename_i ds rest
    exact ⟨_, _, _, _, rfl, hR, hm, fun i hi => ⟨ds[i]'(by omega), he i _ (List.getElem?_eq_getElem (by omega))⟩⟩
  | bool hu' => rw [hu] at hu'; cases hu'
  | int hu' hw => rw [hu] at hu'; cases hu'
  | str hu' => rw [hu] at hu'; cases hu'
  | struct hu' => rw [hu] at hu'; cases hu'
theorem ARd.bytes {t e : TypeId} {cs : List Value} {d : DataW H} (r : ARd P h t cs d) (hu : P.underlying t = some (.slice e)) (he : P.underlying e = some (.int .u8)) (hc : P.cellsOf e = 1) : ∃ a cap, ∃ zs : List UInt8, cs = [.slice a zs.length cap] ∧ Rv P h 1 a zs.length cap (zs.map bv) ∧ cap ≤ maxLen := by
  obtain ⟨a, len, cap, c, rfl, hR, hm, hel⟩ := r.slice_inv hu
  rw [hc] at hR hel
  have hl := hR.length
  rw [Nat.mul_one] at hl
  have each : ∀ i, i < c.length → ∃ z : UInt8, c[i]? = some (bv z) := fun i hi => by
    obtain ⟨d', hd⟩ := hel i (by omega)
    obtain ⟨n, h1, h2⟩ := hd.u_inv rfl he
    rw [Nat.mul_one] at h1
    refine ⟨UInt8.ofNat n, ?_⟩
    have h3 : ((c.drop i).take 1)[0]? = some (.int .u8 n) := by rw [h1]; rfl
    rw [List.getElem?_take_of_lt (by omega), List.getElem?_drop, Nat.add_zero] at h3
    rw [h3]
    have : n < 256 := h2
    simp only [bv, UInt8.toNat_ofNat', Option.some.injEq, Value.int.injEq, true_and]
    omega
  obtain ⟨zs, hz⟩ : ∃ zs : List UInt8, c = zs.map bv := by
    clear hR hel hl
    induction c with
    | nil => exact ⟨[], rfl⟩
    | cons x c ih =>
      obtain ⟨z, hz⟩ := each 0 (by simp)
      simp at hz
      obtain ⟨zs, rfl⟩ := ih fun i hi => by
        have := each (i + 1) (by simpa using hi)
        simpa using this
      exact ⟨z :: zs, by simp [hz]⟩
  subst hz
  simp at hl
  subst hl
  exact ⟨a, cap, zs, rfl, hR, hm⟩
end
end Go.Proofs.YtnbbklhkbemloaaGreat
namespace Go.Proofs.YtnbbklhkbemloaaGreat
section
variable {P : Program} {h : AHeap}
end
class BY (P : Program) (t t₂ : TypeId) : Prop where
  h : ∃ e, P.underlying t = some (.slice e) ∧ P.underlying e = some (.int .u8)
  s : P.underlying t₂ = some .string
section
variable {P : Program} {W : Nat → Prop} {q : Bool} {N : Nat} {k : List It} {ov : Ov} {df : List Nat} {h : AHeap} {Q : PQ} {id : Nat} {ops : Array Oper} {os : List Oper} {o : Oper} {d : Nat} {b₀ : Bool} {tr : List (Option LE)}
end
end Go.Proofs.YtnbbklhkbemloaaGreat
namespace Go.Proofs.YtnbbklhkbemloaaGreat
section
variable {P : Program} {m : Mp} {D W : Nat → Prop} {h : AHeap} {w : World}
end
def Ro (h : AHeap) (a : Option Addr) : Prop := ∃ b o c, a = some ⟨b, o, none⟩ ∧ h.get b = some (.ro c)
theorem Ro.same {h h' : AHeap} {a : Option Addr} (k : Ro h a) (s : Same h h') : Ro h' a := let ⟨b, o, c, e, g⟩ := k; ⟨b, o, c, e, s.get g⟩
section
variable {P : Program} {W : Nat → Prop} {q : Bool} {N : Nat} {k : List It} {ov : Ov} {df : List Nat} {h : AHeap} {Q : PQ} {ops : Array Oper} {os : List Oper} {o : Oper} {d : Nat} {b₀ : Bool} {tr : List (Option LE)}
end
end Go.Proofs.YtnbbklhkbemloaaGreat
namespace Go.Proofs.YtnbbklhkbemloaaGreat
section
variable {P : Program}
def eqFieldsB (P : Program) (xs ys : Array Value) : List Field → Option Bool
  | [] => some true
  | f :: fs => match decide (f.name = "_") with
    | true => eqFieldsB P xs ys fs
    | false => match aPart P f.type xs f.offset, aPart P f.type ys f.offset, P.underlying f.type with
      | some a, some b, some d => match Instr.sameNow d a b, eqFieldsB P xs ys fs with
        | some r, some rs => some (r && rs)
        | _, _ => none
      | _, _, _ => none
def aStructEq (P : Program) (t : TypeId) (xs ys : Array Value) : Option Bool := match P.stoodInHeld t, P.eqGuardType P.depth t, P.underlying t with
  | false, false, some (.struct fs) => eqFieldsB P xs ys fs.toList
  | _, _, _ => none
class SEq (P : Program) (t : TypeId) (xs ys : List Value) (b : outParam Bool) : Prop where h : aStructEq P t xs.toArray ys.toArray = some b
variable {W : Nat → Prop} {q : Bool} {N : Nat} {k : List It} {ov : Ov} {df : List Nat} {h : AHeap} {Q : PQ} {ops : Array Oper} {os : List Oper} {o : Oper} {d : Nat} {b₀ : Bool} {tr : List (Option LE)}
end
end Go.Proofs.YtnbbklhkbemloaaGreat
namespace Go.Proofs.YtnbbklhkbemloaaGreat
theorem Rv.pushPut {P : Program} {h : AHeap} {sz len cap : Nat} {a : Option Addr} {cs : List Value} (k : Rv P h sz a len cap cs) (A : AObj) (B : Option AObj) : Rv P ((h.push A).put h.n B) sz a len cap cs := k.same (((Same.refl h).push A).put (Nat.le_refl _) B)
section
variable {P : Program} {W : Nat → Prop} {q : Bool} {N : Nat} {k : List It} {ov : Ov} {df : List Nat} {h : AHeap} {Q : PQ} {id : Nat} {ops : Array Oper} {os : List Oper} {o : Oper} {d : Nat} {b₀ : Bool} {tr : List (Option LE)}
theorem GoR.load' {t ct : TypeId} {x : Operand} {b off : Nat} {c : List Value} {v : Value} (ho : o.op = .load t x) (hd : o.dst = some d) (hN : dOk d N = true) (hgd : o.guard = none) (hx : evO ov x = some (.pointer (some ⟨b, off, none⟩))) [hc : CT P t none] (hg : h.get b = some (.cells c ct) := by (first | assumption | exact AHeap.get_push_same _ _ | ((repeat first | exact AHeap.get_push_same _ _ | assumption | refine get_push_lt ?_ | exact AHeap.get_put_same _ (by first | omega | (simp only [AHeap.n_push, AHeap.n_put]; omega)) _ | exact get_put_self (by assumption) | apply get_put_self | refine get_put_other (by first | omega | (simp only [AHeap.n_push, AHeap.n_put]; omega)) ?_ | refine Same.get (by assumption) ?_ | refine Keeps.get (by assumption) ?_ (fun hi => by have hx := Own.out (by assumption) hi; omega)) ; fail_if_success focus skip) | fail)) (hv : c[off]? = some v := by (first | rfl | assumption | (simp only [List.getElem?_cons_zero, List.getElem?_cons_succ, Int.toNat_natCast, Nat.mul_one, Nat.add_zero, Nat.zero_add]; first | rfl | assumption))) (g : GoR P W q N ops b₀ os k ((d, v) :: ov) df h Q) : GoR P W q N ops b₀ (o :: os) k ov df h Q := GoR.load ho hd hN hgd hx hg hv g
theorem GoL.load' {t ct : TypeId} {x : Operand} {b off : Nat} {c : List Value} {v : Value} (ho : o.op = .load t x) (hd : o.dst = some d) (hN : dOk d N = true) (hgd : o.guard = none) (hx : evO ov x = some (.pointer (some ⟨b, off, none⟩))) [hc : CT P t none] (hg : h.get b = some (.cells c ct) := by (first | assumption | exact AHeap.get_push_same _ _ | ((repeat first | exact AHeap.get_push_same _ _ | assumption | refine get_push_lt ?_ | exact AHeap.get_put_same _ (by first | omega | (simp only [AHeap.n_push, AHeap.n_put]; omega)) _ | exact get_put_self (by assumption) | apply get_put_self | refine get_put_other (by first | omega | (simp only [AHeap.n_push, AHeap.n_put]; omega)) ?_ | refine Same.get (by assumption) ?_ | refine Keeps.get (by assumption) ?_ (fun hi => by have hx := Own.out (by assumption) hi; omega)) ; fail_if_success focus skip) | fail)) (hv : c[off]? = some v := by (first | rfl | assumption | (simp only [List.getElem?_cons_zero, List.getElem?_cons_succ, Int.toNat_natCast, Nat.mul_one, Nat.add_zero, Nat.zero_add]; first | rfl | assumption))) (g : GoL P W q N ops (tr ++ [(some ⟨h.n, h.n, [b], [], false, true⟩)]) os k ((d, v) :: ov) df h Q) : GoL P W q N ops tr (o :: os) k ov df h Q := GoL.load ho hd hN hgd hx hg hv g
theorem GoR.loadV' {t : TypeId} {x : Operand} {kv : Nat} {v : Value} {sz : Nat} {a : Option Addr} {len cap : Nat} {cs : List Value} (ho : o.op = .load t x) (hd : o.dst = some d) (hN : dOk d N = true) (hgd : o.guard = none) (hx : evO ov x = some (ptA a kv)) [hc : CT P t none] (hS : Rv P h sz a len cap cs := by first | assumption | exact Rv.pushPut (by assumption) _ _ | exact Rv.pushPut (Sv.rv (by assumption)) _ _ | exact Rv.same (h := h) (by assumption) (by assumption) | exact Sv.rv (by assumption) | ((repeat first | assumption | refine Rv.pushPut ?_ _ _ | refine Rv.push ?_ _ | refine Rv.same ?_ (by assumption) | exact Sv.rv (by assumption)) ; fail_if_success focus skip) | fail) (hv : cs[kv]? = some v := by (first | rfl | assumption | (simp only [List.getElem?_cons_zero, List.getElem?_cons_succ, Int.toNat_natCast, Nat.mul_one, Nat.add_zero, Nat.zero_add]; first | rfl | assumption))) (g : GoR P W q N ops b₀ os k ((d, v) :: ov) df h Q) : GoR P W q N ops b₀ (o :: os) k ov df h Q := GoR.loadV ho hd hN hgd hx hS hv g
theorem GoL.loadV' {t : TypeId} {x : Operand} {kv : Nat} {v : Value} {sz : Nat} {a : Option Addr} {len cap : Nat} {cs : List Value} (ho : o.op = .load t x) (hd : o.dst = some d) (hN : dOk d N = true) (hgd : o.guard = none) (hx : evO ov x = some (ptA a kv)) [hc : CT P t none] (hS : Rv P h sz a len cap cs := by first | assumption | exact Rv.pushPut (by assumption) _ _ | exact Rv.pushPut (Sv.rv (by assumption)) _ _ | exact Rv.same (h := h) (by assumption) (by assumption) | exact Sv.rv (by assumption) | ((repeat first | assumption | refine Rv.pushPut ?_ _ _ | refine Rv.push ?_ _ | refine Rv.same ?_ (by assumption) | exact Sv.rv (by assumption)) ; fail_if_success focus skip) | fail) (hv : cs[kv]? = some v := by (first | rfl | assumption | (simp only [List.getElem?_cons_zero, List.getElem?_cons_succ, Int.toNat_natCast, Nat.mul_one, Nat.add_zero, Nat.zero_add]; first | rfl | assumption))) (g : GoL P W q N ops (tr ++ [(some ⟨h.n, h.n, (blk a), [], false, true⟩)]) os k ((d, v) :: ov) df h Q) : GoL P W q N ops tr (o :: os) k ov df h Q := GoL.loadV ho hd hN hgd hx hS hv g
theorem GoR.indexN' {t : TypeId} {x y : Operand} {kk : IntKind} {i : Nat} {a : Option Addr} {len cap : Nat} {cs : List Value} (ho : o.op = .indexAddr t x y) (hd : o.dst = some d) (hN : dOk d N = true) (hgd : o.guard = none) (hx : evO ov x = some (.slice a len cap)) (hy : evO ov y = some (.int kk (i : Int))) [he : EL P t (none, 1)] (hS : Rv P h 1 a len cap cs := by first | assumption | exact Rv.pushPut (by assumption) _ _ | exact Rv.pushPut (Sv.rv (by assumption)) _ _ | exact Rv.same (h := h) (by assumption) (by assumption) | exact Sv.rv (by assumption) | ((repeat first | assumption | refine Rv.pushPut ?_ _ _ | refine Rv.push ?_ _ | refine Rv.same ?_ (by assumption) | exact Sv.rv (by assumption)) ; fail_if_success focus skip) | fail) (h1 : i < len := by first | omega | (simp only [Int.toNat_natCast] at *; omega)) (g : GoR P W q N ops b₀ os k ((d, ptA a i) :: ov) df h Q) : GoR P W q N ops b₀ (o :: os) k ov df h Q := GoR.indexN ho hd hN hgd hx hy hS h1 g
theorem GoL.indexN' {t : TypeId} {x y : Operand} {kk : IntKind} {i : Nat} {a : Option Addr} {len cap : Nat} {cs : List Value} (ho : o.op = .indexAddr t x y) (hd : o.dst = some d) (hN : dOk d N = true) (hgd : o.guard = none) (hx : evO ov x = some (.slice a len cap)) (hy : evO ov y = some (.int kk (i : Int))) [he : EL P t (none, 1)] (hS : Rv P h 1 a len cap cs := by first | assumption | exact Rv.pushPut (by assumption) _ _ | exact Rv.pushPut (Sv.rv (by assumption)) _ _ | exact Rv.same (h := h) (by assumption) (by assumption) | exact Sv.rv (by assumption) | ((repeat first | assumption | refine Rv.pushPut ?_ _ _ | refine Rv.push ?_ _ | refine Rv.same ?_ (by assumption) | exact Sv.rv (by assumption)) ; fail_if_success focus skip) | fail) (h1 : i < len := by first | omega | (simp only [Int.toNat_natCast] at *; omega)) (g : GoL P W q N ops (tr ++ [none]) os k ((d, ptA a i) :: ov) df h Q) : GoL P W q N ops tr (o :: os) k ov df h Q := GoL.indexN ho hd hN hgd hx hy hS h1 g
theorem GoR.indexA' {t : TypeId} {n len : Nat} {x y : Operand} {b off : Nat} {kk : IntKind} {i : Int} (ho : o.op = .indexAddr t x y) (hd : o.dst = some d) (hN : dOk d N = true) (hgd : o.guard = none) (hx : evO ov x = some (.pointer (some ⟨b, off, none⟩))) (hy : evO ov y = some (.int kk i)) [he : EL P t (some len, n)] (h0 : 0 ≤ i := by first | omega | (simp only [Int.toNat_natCast] at *; omega)) (h1 : i < (len : Int) := by first | omega | (simp only [Int.toNat_natCast] at *; omega)) (g : GoR P W q N ops b₀ os k ((d, (.pointer (some ⟨b, off + i.toNat * n, none⟩))) :: ov) df h Q) : GoR P W q N ops b₀ (o :: os) k ov df h Q := GoR.indexA ho hd hN hgd hx hy h0 h1 g
theorem GoL.indexA' {t : TypeId} {n len : Nat} {x y : Operand} {b off : Nat} {kk : IntKind} {i : Int} (ho : o.op = .indexAddr t x y) (hd : o.dst = some d) (hN : dOk d N = true) (hgd : o.guard = none) (hx : evO ov x = some (.pointer (some ⟨b, off, none⟩))) (hy : evO ov y = some (.int kk i)) [he : EL P t (some len, n)] (h0 : 0 ≤ i := by first | omega | (simp only [Int.toNat_natCast] at *; omega)) (h1 : i < (len : Int) := by first | omega | (simp only [Int.toNat_natCast] at *; omega)) (g : GoL P W q N ops (tr ++ [none]) os k ((d, (.pointer (some ⟨b, off + i.toNat * n, none⟩))) :: ov) df h Q) : GoL P W q N ops tr (o :: os) k ov df h Q := GoL.indexA ho hd hN hgd hx hy h0 h1 g
theorem GoR.addN' {t t₂ : TypeId} {x y : Operand} {i j : Nat} (ho : o.op = .binOp .add t x y t₂) (hd : o.dst = some d) (hN : dOk d N = true) (hgd : o.guard = none) (hx : evO ov x = some (.int .i64 (i : Int))) (hy : evO ov y = some (.int .i64 (j : Int))) (h1 : i + j ≤ 9223372036854775807 := by first | omega | (simp only [Int.toNat_natCast] at *; omega)) (g : GoR P W q N ops b₀ os k ((d, .int .i64 ((i + j : Nat) : Int)) :: ov) df h Q) : GoR P W q N ops b₀ (o :: os) k ov df h Q := GoR.addN ho hd hN hgd hx hy h1 g
theorem GoL.addN' {t t₂ : TypeId} {x y : Operand} {i j : Nat} (ho : o.op = .binOp .add t x y t₂) (hd : o.dst = some d) (hN : dOk d N = true) (hgd : o.guard = none) (hx : evO ov x = some (.int .i64 (i : Int))) (hy : evO ov y = some (.int .i64 (j : Int))) (h1 : i + j ≤ 9223372036854775807 := by first | omega | (simp only [Int.toNat_natCast] at *; omega)) (g : GoL P W q N ops (tr ++ [none]) os k ((d, .int .i64 ((i + j : Nat) : Int)) :: ov) df h Q) : GoL P W q N ops tr (o :: os) k ov df h Q := GoL.addN ho hd hN hgd hx hy h1 g
theorem Go.cond_t' {o : Operand} {a b : Code} {B : Bool} (ho : evO ov o = some (.bool B)) (hB : B = true := by first | with_reducible rfl | with_reducible assumption | (with_reducible refine @decide_eq_true _ _ ?_; first | with_reducible rfl | omega) | (with_reducible refine @decide_eq_false _ _ ?_; omega) | with_reducible exact Bool.not_false | with_reducible exact Bool.not_true | (simp; fail_if_success focus skip) | (simp; omega)) (g : Go P W q N (.code a :: k) .normal ov df h Q) : Go P W q N (.code (.cond o a b) :: k) .normal ov df h Q := Go.cond_t ho hB g
theorem Go.cond_f' {o : Operand} {a b : Code} {B : Bool} (ho : evO ov o = some (.bool B)) (hB : B = false := by first | with_reducible rfl | with_reducible assumption | (with_reducible refine @decide_eq_true _ _ ?_; first | with_reducible rfl | omega) | (with_reducible refine @decide_eq_false _ _ ?_; omega) | with_reducible exact Bool.not_false | with_reducible exact Bool.not_true | (simp; fail_if_success focus skip) | (simp; omega)) (g : Go P W q N (.code b :: k) .normal ov df h Q) : Go P W q N (.code (.cond o a b) :: k) .normal ov df h Q := Go.cond_f ho hB g
theorem Go.fin1 {x : Exit} {a : Tmp} {t ct : TypeId} {n₀ : Nat} {b off : Nat} {c : List Value} {v : Value} {Q : Value → AHeap → Prop} (hx : x = .normal ∨ x = .ret) (ha : ov.find a = some (.pointer (some ⟨b, off, none⟩))) [hc : CT P t none] (hg : h.get b = some (.cells c ct) := by (first | assumption | exact AHeap.get_push_same _ _ | ((repeat first | exact AHeap.get_push_same _ _ | assumption | refine get_push_lt ?_ | exact AHeap.get_put_same _ (by first | omega | (simp only [AHeap.n_push, AHeap.n_put]; omega)) _ | exact get_put_self (by assumption) | apply get_put_self | refine get_put_other (by first | omega | (simp only [AHeap.n_push, AHeap.n_put]; omega)) ?_ | refine Same.get (by assumption) ?_ | refine Keeps.get (by assumption) ?_ (fun hi => by have hx := Own.out (by assumption) hi; omega)) ; fail_if_success focus skip) | fail)) (hv : c[off]? = some v := by (first | rfl | assumption | (simp only [List.getElem?_cons_zero, List.getElem?_cons_succ, Int.toNat_natCast, Nat.mul_one, Nat.add_zero, Nat.zero_add]; first | rfl | assumption))) (hq : Q v h) : Go P W q N [] x ov [] h (Fin P [.cell a t] n₀ Q) := Go.fin (vs := [v]) hx (.cell ha hc hg hv .nil) hq
end
structure Wrap (B : Prop) : Prop where
  out : B
theorem Go.run {A B : Prop} (k : Wrap B → A := by (intro b_; (repeat (first|refine GoR.end ?_|(refine GoR.gd rfl ?_;first|refine GoR.wanted' rfl rfl rfl rfl (g:=?_)|refine GoR.unwanted' rfl rfl rfl rfl (hd:=rfl) (hN:=rfl) (g:=?_)|refine GoR.unwantedU rfl rfl rfl rfl rfl rfl ?_)|(refine GoR.kk 0 rfl ?_;first|refine GoR.move rfl rfl rfl rfl rfl ?_|refine GoR.assign rfl rfl rfl rfl rfl ?_)|(refine GoR.kk 1 rfl ?_;first|refine GoR.load' rfl rfl rfl rfl rfl (g:=?_)|refine GoR.loadA' rfl rfl rfl rfl rfl (hv:=rfl) (g:=?_)|refine GoR.loadV' rfl rfl rfl rfl rfl (g:=?_)|refine GoR.loadVN' rfl rfl rfl rfl rfl (g:=?_))|(refine GoR.kk 2 rfl ?_;first|refine GoR.store' rfl rfl rfl rfl rfl (hl:=rfl) (h1:=rfl) (h3:=rfl) (g:=?_))|(refine GoR.kk 3 rfl ?_;first|refine GoR.fieldAddr rfl rfl rfl rfl rfl ?_|refine GoR.indexN' rfl rfl rfl rfl rfl rfl (g:=?_)|refine GoR.indexNs' rfl rfl rfl rfl rfl rfl (g:=?_)|refine GoR.indexV' rfl rfl rfl rfl rfl rfl (g:=?_)|refine GoR.indexA' rfl rfl rfl rfl rfl rfl (g:=?_)|refine GoR.fieldV' rfl rfl rfl rfl rfl (g:=?_))|(refine GoR.kk 4 rfl ?_;first|refine GoR.eq rfl rfl rfl rfl rfl rfl ?_|refine GoR.ne rfl rfl rfl rfl rfl rfl ?_|refine GoR.lt rfl rfl rfl rfl rfl rfl ?_|refine GoR.le rfl rfl rfl rfl rfl rfl ?_|refine GoR.gt rfl rfl rfl rfl rfl rfl ?_|refine GoR.ge rfl rfl rfl rfl rfl rfl ?_|refine GoR.addN' rfl rfl rfl rfl rfl rfl (g:=?_)|refine GoR.subN' rfl rfl rfl rfl rfl rfl (g:=?_)|refine GoR.add' rfl rfl rfl rfl rfl rfl (g:=?_)|refine GoR.sub' rfl rfl rfl rfl rfl rfl (g:=?_)|refine GoR.addM' rfl rfl rfl rfl rfl rfl (g:=?_)|refine GoR.subM' rfl rfl rfl rfl rfl rfl (g:=?_)|refine GoR.mulM' rfl rfl rfl rfl rfl rfl (g:=?_)|refine GoR.shrN rfl rfl rfl rfl rfl rfl rfl ?_|refine GoR.structEq rfl rfl rfl rfl rfl rfl (by rfl) (by rfl) ?_|refine GoR.structNe rfl rfl rfl rfl rfl rfl (by rfl) (by rfl) ?_|refine GoR.strEq rfl rfl rfl rfl rfl rfl ?_|refine GoR.strNe rfl rfl rfl rfl rfl rfl ?_|refine GoR.remN' rfl rfl rfl rfl rfl rfl (g:=?_)|refine GoR.quoN' rfl rfl rfl rfl rfl rfl (g:=?_)|refine GoR.shlN' rfl rfl rfl rfl rfl rfl rfl (g:=?_)|refine GoR.orN' rfl rfl rfl rfl rfl rfl (g:=?_))|(refine GoR.kk 5 rfl ?_;first|refine GoR.len rfl rfl rfl rfl rfl ?_|refine GoR.lenStr rfl rfl rfl rfl rfl ?_|refine GoR.capB rfl rfl rfl rfl rfl ?_)|(refine GoR.kk 7 rfl ?_;first|refine GoR.pickE' rfl rfl rfl rfl rfl (hx:=rfl) (hy:=rfl) (g:=?_)|refine GoR.pickN' rfl rfl rfl rfl rfl (hx:=rfl) (hy:=rfl) (g:=?_)|refine GoR.pickB rfl rfl rfl rfl rfl rfl rfl ?_)|(refine GoR.kk 8 rfl ?_;first|refine GoR.boxA rfl rfl rfl rfl rfl ?_|refine GoR.boxS rfl rfl rfl rfl rfl rfl ?_|refine GoR.alloc rfl rfl rfl rfl ?_)|(refine GoR.kk 9 rfl ?_;first|refine GoR.strV' rfl rfl rfl rfl rfl (g:=?_)|refine GoR.conv_u8 rfl rfl rfl rfl rfl ?_|refine GoR.convW' rfl rfl rfl rfl rfl (g:=?_)|refine GoR.conv_u16 rfl rfl rfl rfl rfl ?_|refine GoR.conv_u32 rfl rfl rfl rfl rfl ?_)|(refine GoR.kk 10 rfl ?_;first|refine GoR.build' rfl rfl rfl rfl rfl rfl (g:=?_))|(refine GoR.kk 11 rfl ?_;first|refine GoR.extract rfl rfl rfl rfl rfl rfl ?_|refine GoR.not rfl rfl rfl rfl rfl ?_|refine GoR.nilCheck rfl rfl rfl rfl rfl ?_|refine GoR.nilCheckF rfl rfl rfl rfl rfl ?_|refine GoR.makeFunc rfl rfl rfl rfl rfl rfl ?_)|(refine Go.kk 0 rfl ?_;refine Go.seq ?_)|(refine Go.kk 1 rfl ?_;refine Go.region (by kernel_rfl) rfl ?_)|(refine Go.kk 2 rfl ?_;refine Go.drawnQ rfl (by kernel_rfl) rfl ?_)|(refine Go.kk 3 rfl ?_;first|refine Go.cond_t' rfl (g:=?_)|refine Go.cond_f' rfl (g:=?_))|(refine Go.kk 4 rfl ?_;refine Go.block ?_)|(refine Go.kk 5 rfl ?_;first|refine Go.skip ?_|refine Go.ret ?_|refine Go.exit ?_|refine Go.scope ?_)|refine Go.leave_normal ?_|refine Go.leave_same ?_|refine Go.leave_ret ?_|refine Go.ret_code ?_|refine Go.exit_code ?_|refine Go.leave_other rfl ?_|refine Go.sc_normal ?_|refine Go.sc_ret ?_|refine Go.sc_exit ?_|refine Go.exit_back ?_|refine Go.ret_back ?_)); exact b_.out)) (g : B) : A := k ⟨g⟩
end Go.Proofs.YtnbbklhkbemloaaGreat
namespace Go.Proofs.YtnbbklhkbemloaaGreat
end Go.Proofs.YtnbbklhkbemloaaGreat
namespace Go.Proofs.YtnbbklhkbemloaaGreat.Crc
def P : Nat := 2197175160
def bit (r : Nat) : Nat := if r % 2 = 1 then (r / 2) ^^^ P else r / 2
def it : Nat → Nat → Nat
  | 0, r => r
  | n + 1, r => it n (bit r)
def beh (r c : Nat) : Nat := it 8 (r ^^^ c)
def fold (r : Nat) (l : List UInt8) : Nat := l.foldl (fun r c => beh r c.toNat) r
def more (s : Nat) (l : List UInt8) : Nat := 4294967295 - fold (4294967295 - s) l
theorem xor_mod_two (a b : Nat) : (a ^^^ b) % 2 = (a % 2 + b % 2) % 2 := by
  have h := @Nat.xor_mod_two_pow a b 1
  simp only [Nat.pow_one] at h
  rw [h]
  rcases Nat.mod_two_eq_zero_or_one a with ha | ha <;> rcases Nat.mod_two_eq_zero_or_one b with hb | hb <;> simp [ha, hb]
theorem xor_swap (a b c d : Nat) : (a ^^^ b) ^^^ (c ^^^ d) = (a ^^^ c) ^^^ (b ^^^ d) := by
  rw [Nat.xor_assoc, Nat.xor_assoc, ← Nat.xor_assoc b c d, Nat.xor_comm b c, Nat.xor_assoc c b d]
theorem bit_xor (a b : Nat) : bit (a ^^^ b) = bit a ^^^ bit b := by
  unfold bit
  rw [xor_mod_two, Nat.xor_div_two]
  rcases Nat.mod_two_eq_zero_or_one a with ha | ha <;> rcases Nat.mod_two_eq_zero_or_one b with hb | hb <;> simp [ha, hb]
  · rw [Nat.xor_assoc]
  · rw [Nat.xor_assoc, Nat.xor_comm (b / 2) P, ← Nat.xor_assoc]
  · rw [xor_swap, Nat.xor_self, Nat.xor_zero]
theorem it_xor (n a b : Nat) : it n (a ^^^ b) = it n a ^^^ it n b := by
  induction n generalizing a b with
  | zero => rfl
  | succ n ih => simp only [it]; rw [bit_xor, ih]
theorem bit_two (x : Nat) : bit (2 * x) = x := by unfold bit; rw [if_neg (by omega)]; omega
theorem it_pow (n x : Nat) : it n (x * 2 ^ n) = x := by
  induction n generalizing x with
  | zero => simp [it]
  | succ n ih =>
    simp only [it]
    rw [Nat.pow_succ, ← Nat.mul_assoc, Nat.mul_comm _ 2, bit_two, ih]
theorem bit_lt (r : Nat) (h : r < 2 ^ 32) : bit r < 2 ^ 32 := by
  unfold bit
  split
  · exact Nat.xor_lt_two_pow (by omega) (by decide)
  · omega
theorem it_lt (n r : Nat) (h : r < 2 ^ 32) : it n r < 2 ^ 32 := by
  induction n generalizing r with
  | zero => exact h
  | succ n ih => exact ih _ (bit_lt r h)
theorem byte_lt (c : UInt8) : c.toNat < 2 ^ 8 := c.toNat_lt
theorem beh_lt (r c : Nat) (h : r < 2 ^ 32) (hc : c < 2 ^ 8) : beh r c < 2 ^ 32 := it_lt _ _ (Nat.xor_lt_two_pow h (Nat.lt_of_lt_of_le hc (by decide)))
theorem fold_lt (r : Nat) (l : List UInt8) (h : r < 2 ^ 32) : fold r l < 2 ^ 32 := by
  induction l generalizing r with
  | nil => exact h
  | cons c l ih => exact ih _ (beh_lt r _ h (byte_lt c))
theorem fold_snoc (r : Nat) (l : List UInt8) (c : UInt8) : fold r (l ++ [c]) = beh (fold r l) c.toNat := by simp [fold]
theorem split8 (r : Nat) : r = (r % 2 ^ 8) ^^^ (r / 2 ^ 8 * 2 ^ 8) := by
  apply Nat.eq_of_testBit_eq
  intro i
  rw [Nat.testBit_xor, Nat.testBit_mod_two_pow, Nat.testBit_mul_two_pow, Nat.testBit_div_two_pow]
  by_cases h : i < 8
  · have h' : ¬ 8 ≤ i := by omega
    simp [h, h']
  · have h' : 8 ≤ i := by omega
    simp [h, h']
theorem beh_row (r c : Nat) : it 8 ((r % 2 ^ 8) ^^^ c) ^^^ (r / 2 ^ 8) = beh r c := by
  unfold beh
  have h : r ^^^ c = ((r % 2 ^ 8) ^^^ c) ^^^ (r / 2 ^ 8 * 2 ^ 8) := by
    have h0 := split8 r
    rw [Nat.xor_assoc, Nat.xor_comm c, ← Nat.xor_assoc, ← h0]
  rw [h, it_xor 8 ((r % 2 ^ 8) ^^^ c) (r / 2 ^ 8 * 2 ^ 8), it_pow]
theorem not_eq (x : Nat) (h : x < 2 ^ 32) : 4294967295 ^^^ x = 4294967295 - x := by
  have h1 : 4294967295 = (4294967295 - x) ^^^ x := by
    apply Nat.eq_of_testBit_eq
    intro i
    have hs : 4294967295 - x = 2 ^ 32 - (x + 1) := by omega
    have hm : (4294967295 : Nat) = 2 ^ 32 - (0 + 1) := by decide
    rw [Nat.testBit_xor, hs, Nat.testBit_two_pow_sub_succ h, hm, Nat.testBit_two_pow_sub_succ (by decide)]
    by_cases hi : i < 32
    · simp [hi]
    · have : x.testBit i = false := Nat.testBit_lt_two_pow (Nat.lt_of_lt_of_le h (Nat.pow_le_pow_right (by decide) (by omega)))
      simp [hi, this]
  have h2 : 4294967295 ^^^ x = ((4294967295 - x) ^^^ x) ^^^ x := by rw [← h1]
  rw [h2, Nat.xor_assoc, Nat.xor_self, Nat.xor_zero]
theorem more_nil (s : Nat) (hs : s < 2 ^ 32) : more s [] = s := by unfold more fold; simp; omega
end Go.Proofs.YtnbbklhkbemloaaGreat.Crc
namespace Go.Proofs.YtnbbklhkbemloaaGreat
def restr (h : AHeap) : List Nat → AHeap
  | [] => ⟨h.n, .nil⟩
  | i :: l => (restr h l).put i (h.get i)
theorem restr_n (h : AHeap) (l : List Nat) : (restr h l).n = h.n := by
  induction l with
  | nil => rfl
  | cons i l ih => simpa [restr] using ih
theorem restr_get (h : AHeap) (l : List Nat) (i : Nat) : (restr h l).get i = if i ∈ l then h.get i else none := by
  induction l with
  | nil =>
    simp only [restr, AHeap.get, List.not_mem_nil, if_false]
    have e : Tr.nil.get i = none := rfl
    rw [e]
    exact ite_self _
  | cons j l ih =>
    simp only [restr]
    rw [AHeap.get_put, restr_n]
    by_cases e : j = i
    · subst e
      simp only [if_true, List.mem_cons, true_or]
      split
      · rfl
      · rw [AHeap.get_out (by omega)]
    · rw [if_neg e, ih]
      have : (i ∈ j :: l) ↔ i ∈ l := by simp [Ne.symm e]
      simp only [this]
theorem restr_some {h : AHeap} {l : List Nat} {i : Nat} {o : AObj} (e : (restr h l).get i = some o) : h.get i = some o ∧ i ∈ l := by
  rw [restr_get] at e
  split at e
  · exact ⟨e, by assumption⟩
  · cases e
structure News (h h' h₂ : AHeap) : Prop where
  same : Same h h'
  n : h'.n = h₂.n
  get : ∀ i, h.n ≤ i → h'.get i = h₂.get i
theorem Rv.restr {P : Program} {h : AHeap} {sz len cap : Nat} {a : Option Addr} {cs : List Value} (k : Rv P h sz a len cap cs) (rd : List Nat) (hr : ∀ i ∈ blk a, i ∈ rd) : Rv P (restr h rd) sz a len cap cs := by
  cases k with
  | nil => exact .nil
  | @mk b o _ _ c _ hg ho hl hc =>
    have e : (Go.Proofs.YtnbbklhkbemloaaGreat.restr h rd).get b = h.get b := by rw [restr_get, if_pos (hr b (by simp [blk]))]
    exact .mk (by rw [e]; exact hg) ho hl hc
section
variable {P : Program} {W : Nat → Prop} {q : Bool} {N : Nat} {k : List It} {ov : Ov} {df : List Nat} {h : AHeap} {Q : PQ} {ops : Array Oper} {os : List Oper} {tr : List (Option LE)} {b₀ : Bool} {x : Exit}
theorem GoL.name (g : ∀ h', h' = h → GoL P W q N ops tr os k ov df h' Q) : GoL P W q N ops tr os k ov df h Q := g h rfl
theorem GoR.name (g : ∀ h', h' = h → GoR P W q N ops b₀ os k ov df h' Q) : GoR P W q N ops b₀ os k ov df h Q := g h rfl
theorem Go.name (g : ∀ h', h' = h → Go P W q N k x ov df h' Q) : Go P W q N k x ov df h Q := g h rfl
end
section
variable {P : Program} {W : Nat → Prop} {q : Bool} {N : Nat} {k : List It} {ov : Ov} {df : List Nat} {h : AHeap} {Q : PQ} {x : Exit}
end
end Go.Proofs.YtnbbklhkbemloaaGreat
namespace Go.Proofs.YtnbbklhkbemloaaGreat
theorem HRel.fewer {P : Program} {m : Mp} {h H : AHeap} {w : World} (hh : HRel P m Ev h w) (sub : ∀ i o, H.get i = some o → h.get i = some o) : HRel P m Ev H w where
  lt := hh.lt
  typ := fun i l c t a b => hh.typ i l c t a (sub i _ b)
  inj := fun i j l k a b c d e => by
    refine hh.inj i j l k a b (fun q => c ?_) ?_ e
    · cases hc : H.get i with
      | none => rfl
      | some o => rw [sub i o hc] at q; cases q
    · obtain ⟨o, x, y⟩ := d
      exact ⟨o, sub j o x, y⟩
  roS := fun i l c a b => hh.roS i l c a (sub i _ b)
  obj := fun i l o _ a b => hh.obj i l o trivial a (sub i _ b)
theorem CallRun.frame {P : Program} {C : Nat → Prop} {f : FuncId} {args : Array Value} {H h H' h' : AHeap} {v : Value} (k : CallRun P C f args H v H') (n0 : H.n = h.n) (n1 : H'.n = h'.n) (sub : ∀ i o, H.get i = some o → h.get i = some o)
    (e1 : ∀ i, i < h.n → ¬ C i → h'.get i = h.get i) (e2 : ∀ i o, (C i ∨ h.n ≤ i) → h'.get i = some o → H'.get i = some o) : CallRun P C f args h v h' := by
  have hn : h.n ≤ h'.n := by rw [← n0, ← n1]; exact k.fr.n
  have liv : ∀ i, H.live i → h.live i := fun i ⟨o, x, y⟩ => ⟨o, sub i o x, y⟩
  have frm : ∀ i, i < h.n → C i → ∀ o, h'.get i = some o → H'.get i = some o := fun i hi hc o e => e2 i o (.inl hc) e
  refine ⟨⟨hn, e1, fun i c t hi e => ?_, fun i hi e => ?_, fun i hi e => ?_, fun i c hi e => ?_⟩, fun m w args' hm hf ha hh => ?_⟩
  · by_cases hc : C i
    · obtain ⟨c₀, a, b⟩ := k.fr.typ i c t (by omega) (frm i hi hc _ e)
      exact ⟨c₀, sub i _ a, b⟩
    · exact ⟨c, by rw [← e1 i hi hc]; exact e, rfl⟩
  · by_cases hc : C i
    · cases ho : h'.get i with
      | none => exact absurd ho e
      | some o =>
        have := k.fr.alive i (by omega) (by rw [frm i hi hc o ho]; simp)
        cases hq : H.get i with
        | none => exact absurd hq this
        | some o' => rw [sub i o' hq]; simp
    · rw [← e1 i hi hc]; exact e
  · by_cases hc : C i
    · obtain ⟨o, x, y⟩ := e
      exact liv i (k.fr.live i (by omega) ⟨o, frm i hi hc o x, y⟩)
    · exact AHeap.live_eq (e1 i hi hc) e
  · by_cases hc : C i
    · exact sub i _ (k.fr.roT i c (by omega) (frm i hi hc _ e))
    · rw [← e1 i hi hc]; exact e
  refine (k.run m w args' hm (fun i a b => hf i (by omega) (by omega)) ha (hh.fewer sub)).mono ?_
  rintro e w' ⟨v', m', rfl, F, V, R⟩
  have old : ∀ i, (i < h.n ∨ h'.n ≤ i) → m' i = m i := fun i hi => F.old i (by rw [n0, n1]; exact hi)
  have hle : m.le m' := F.le fun i a b => hf i (by omega) (by omega)
  have keep : ∀ i l, i < h.n → ¬ C i → m i = some l → h.get i ≠ none → w'.heap[l.b]? = w.heap[l.b]? := fun i l hi hc a b => by
    refine F.keep l.b (hh.lt i l a) fun j k' hj cj lj mj e => ?_
    obtain rfl := hh.inj i j l k' a mj b (liv j lj) e.symm
    exact hc cj
  have cross : ∀ i j l k', i < h.n → ¬ C i → m i = some l → h.get i ≠ none → h.n ≤ j → j < h'.n → m' j = some k' → l.b = k'.b → False := fun i j l k' hi hc a b hj hj' mj e => by
    rcases F.new j k' (by omega) (by omega) mj with q | ⟨j₀, k₀, h1, c0, l0, m0, e0⟩
    · have := hh.lt i l a; omega
    · obtain rfl := hh.inj i j₀ l k₀ a m0 b (liv j₀ l0) (by rw [e0]; exact e)
      exact hc c0
  have inN : ∀ i, h'.get i ≠ none → i < h'.n := fun i e => by
    cases q : h'.get i with
    | none => exact absurd q e
    | some o => exact AHeap.lt q
  refine ⟨v', m', rfl, ⟨old, fun i l a b c => ?_, fun b hb hk => ?_, F.size, F.os, F.tape, F.output⟩, V, ?_⟩
  · rcases F.new i l (by omega) (by omega) c with q | ⟨j, k', h1, h2, h3, h4, h5⟩
    · exact .inl q
    · exact .inr ⟨j, k', by omega, h2, liv j h3, h4, h5⟩
  · exact F.keep b hb fun j k' hj cj lj mj => hk j k' (by omega) cj (liv j lj) mj
  · refine ⟨R.lt, fun i l c t a b => ?_, fun i j l k' a b c d e => ?_, fun i l c a b => ?_, fun i l o _ a b => ?_⟩
    · by_cases hi : i < h.n ∧ ¬ C i
      · rw [old i (.inl hi.1)] at a
        rw [e1 i hi.1 hi.2] at b
        exact hh.typ i l c t a b
      · refine R.typ i l c t a (e2 i _ ?_ b)
        by_cases hc : C i
        · exact .inl hc
        · exact .inr (Nat.le_of_not_lt fun q => hi ⟨q, hc⟩)
    · have hi' := inN i c
      have hj' := inN j d.ne
      have cls : ∀ i, ¬ (i < h.n ∧ ¬ C i) → C i ∨ h.n ≤ i := fun i hi => by
        by_cases hc : C i
        · exact .inl hc
        · exact .inr (Nat.le_of_not_lt fun q => hi ⟨q, hc⟩)
      have up : ∀ i, ¬ (i < h.n ∧ ¬ C i) → h'.get i ≠ none → H'.get i ≠ none := fun i hi q => by
        cases ho : h'.get i with
        | none => exact absurd ho q
        | some o => rw [e2 i o (cls i hi) ho]; simp
      by_cases hi : i < h.n ∧ ¬ C i
      · rw [old i (.inl hi.1)] at a
        rw [e1 i hi.1 hi.2] at c
        by_cases hj : j < h.n
        · rw [old j (.inl hj)] at b
          refine hh.inj i j l k' a b c ?_ e
          by_cases cj : C j
          · obtain ⟨o, x, y⟩ := d
            exact liv j (k.fr.live j (by omega) ⟨o, frm j hj cj o x, y⟩)
          · exact AHeap.live_eq (e1 j hj cj) d
        · exact (cross i j l k' hi.1 hi.2 a c (by omega) hj' b e).elim
      · by_cases hj : j < h.n ∧ ¬ C j
        · rw [old j (.inl hj.1)] at b
          have dj := AHeap.live_eq (e1 j hj.1 hj.2) d
          by_cases hi2 : i < h.n
          · rw [old i (.inl hi2)] at a
            refine hh.inj i j l k' a b ?_ dj e
            have q := k.fr.alive i (by omega) (up i hi c)
            cases hq : H.get i with
            | none => exact absurd hq q
            | some o' => rw [sub i o' hq]; simp
          · exact (cross j i k' l hj.1 hj.2 b dj.ne (by omega) hi' a e.symm).elim
        · refine R.inj i j l k' a b (up i hi c) ?_ e
          obtain ⟨o, x, y⟩ := d
          exact ⟨o, e2 j o (cls j hj) x, y⟩
    · by_cases hi : i < h.n ∧ ¬ C i
      · rw [old i (.inl hi.1)] at a
        rw [e1 i hi.1 hi.2] at b
        exact hh.roS i l c a b
      · refine R.roS i l c a (e2 i _ ?_ b)
        by_cases hc : C i
        · exact .inl hc
        · exact .inr (Nat.le_of_not_lt fun q => hi ⟨q, hc⟩)
    · by_cases hi : i < h.n ∧ ¬ C i
      · rw [old i (.inl hi.1)] at a
        rw [e1 i hi.1 hi.2] at b
        obtain ⟨o', x, y⟩ := hh.obj i l o trivial a b
        exact ⟨o', by rw [keep i l hi.1 hi.2 a (by rw [b]; simp)]; exact x, y.mono hle⟩
      · refine R.obj i l o trivial a (e2 i _ ?_ b)
        by_cases hc : C i
        · exact .inl hc
        · exact .inr (Nat.le_of_not_lt fun q => hi ⟨q, hc⟩)
end Go.Proofs.YtnbbklhkbemloaaGreat