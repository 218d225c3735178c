/- Texts and bytes, nil tests, maps, on related memories. No conditions. -/
import Derived.Test.YtmelgnpogdilgaaAbsN
import Derived.Laws.BytesString
namespace Go.Proofs.Ytmelgnpogdilgaa
set_option linter.unusedVariables false
section
variable {P : Program} {D W : Nat → Prop} {o : Oper} {tm : List Value} {h : AHeap}
/-! ### Texts and bytes -/
def u8s : List Value → Option (List Int)
  | [] => some []
  | .int .u8 n :: l => (u8s l).map (n :: ·)
  | _ :: _ => none
theorem u8s_eq : ∀ {l : List Value} {ns : List Int}, u8s l = some ns → l = ns.map (Value.int .u8)
  | [], ns, h => by simp [u8s] at h; subst h; rfl
  | v :: l, ns, h => by
    unfold u8s at h
    split at h
    · rename_i e; cases e
    · rename_i n l' e
      cases e
      simp only [Option.map_eq_some_iff] at h
      obtain ⟨ms, h1, rfl⟩ := h
      rw [u8s_eq h1]; rfl
    · cases h
def strOf (ns : List Int) : ByteArray := ⟨(ns.map fun n => UInt8.ofNat n.toNat).toArray⟩
theorem strOf_fold : ∀ (ns : List Int) (s : ByteArray), ns.foldl (fun r n => r.push (UInt8.ofNat n.toNat)) s = ⟨s.data ++ (ns.map fun n => UInt8.ofNat n.toNat).toArray⟩
  | [], s => by simp
  | n :: ns, s => by
    rw [List.foldl_cons, strOf_fold ns]
    apply ByteArray.ext
    simp [ByteArray.push]
def aStr (P : Program) (h : AHeap) (src dst : TypeId) (v : Value) : Option (ByteArray × List Nat) :=
  match P.underlying src, P.underlying dst with
  | some (.slice e), some .string => match P.underlying e, v with
    | some (.int .u8), .slice none _ _ => some (⟨#[]⟩, [])
    | some (.int .u8), .slice (some ⟨b, o, none⟩) len _ => if len = 0 then some (⟨#[]⟩, []) else match rowOf (h.get b) with
      | some c => if o + len ≤ c.length then (u8s ((c.drop o).take len)).map fun ns => (strOf ns, [b]) else none
      | _ => none
    | _, _ => none
  | _, _ => none
theorem ARel.u8 {m : Mp} {ns : List Int} {cs : Array Value} (h : ARel m (ns.map (Value.int .u8)).toArray cs) : cs = (ns.map (Value.int .u8)).toArray := by
  apply Array.ext_getElem?
  intro i
  by_cases hi : i < ns.length
  · have e : (ns.map (Value.int .u8)).toArray[i]? = some (.int .u8 ns[i]) := by simp [hi]
    obtain ⟨v', a, b⟩ := h.get e
    rw [a, e, VRel.eq_of_flat b rfl]
  · have := h.1
    simp at this
    rw [Array.getElem?_eq_none (by omega), Array.getElem?_eq_none (by simp; omega)]
theorem OpRun.toStr {src dst : TypeId} {x : Operand} {s : ByteArray} {rd : List Nat} (ho : o.op = .convert src dst x) (he : aStr P h src dst (evalT tm x) = some (s, rd)) (hD : ∀ i ∈ rd, D i) : OpRun P D W o tm h (.string s) h :=
  .ofPure (by simp [ho]) fun m w A hm hx H => by
    have ha := hx x (by simp [ho, Op.operands])
    unfold aStr at he
    split at he
    case h_2 => cases he
    rename_i e hs hd
    split at he
    · rename_i l c hu e1
      cases he
      refine ⟨_, .string _, ?_⟩
      rw [e1] at ha
      generalize hy : A.eval x = y at ha
      cases ha
      simp [execOp, ho, hy, run_convert_bytes_string w src dst e none 0 0 hs hu hd, Conv.bytesToString]
      rfl
    · rename_i b o' len c hu e1
      rw [e1] at ha
      split at he
      · rename_i h0
        subst h0
        cases he
        refine ⟨_, .string _, ?_⟩
        generalize hy : A.eval x = y at ha
        cases ha with
        | slice hk hc =>
          simp only [execOp, ho, hy, Sem.run_bind]
          rw [run_convert_bytes_string w src dst e _ _ _ hs hu hd, run_bytesToString w _ 0 _ [] (by simp [loadCells, loadCellsFrom])]
          rfl
        | slice0 _ _ a =>
          simp only [execOp, ho, hy, Sem.run_bind]
          rw [run_convert_bytes_string w src dst e _ _ _ hs hu hd, run_bytesToString w _ 0 _ [] (by simp [loadCells, loadCellsFrom])]
          rfl
      · rename_i h0
        split at he
        · rename_i cc hg
          split at he
          · rename_i hle
            simp only [Option.map_eq_some_iff, Prod.mk.injEq] at he
            obtain ⟨ns, hns, rfl, rfl⟩ := he
            refine ⟨_, .string _, ?_⟩
            generalize hy : A.eval x = y at ha
            cases ha with
            | @slice _ _ _ _ _ l hk hc =>
              obtain ⟨cs, a1, a2⟩ := H.rloadCells (hD b (by simp)) hk hg hle
              rw [u8s_eq hns] at a2
              rw [a2.u8] at a1
              simp only [execOp, ho, hy, Sem.run_bind]
              rw [run_convert_bytes_string w src dst e _ _ _ hs hu hd, run_bytesToString w _ len _ ns a1, strOf_fold]
              simp [strOf]
            | slice0 => omega
          · cases he
        · cases he
    · cases he
def aBytes (P : Program) (src dst : TypeId) (v : Value) : Option (Nat × AObj) :=
  match P.underlying src, P.underlying dst, v with
  | some _, some (.slice e), .string s => match P.underlying e with
    | some (.int .u8) => if sizeT P e = some 1 then some (s.size, .cells (s.data.toList.map fun b => .int .u8 b.toNat) e) else none
    | _ => none
  | _, _, _ => none
theorem OpRun.bytesOf {src dst : TypeId} {x : Operand} {n : Nat} {a : AObj} (ho : o.op = .convert src dst x) (he : aBytes P src dst (evalT tm x) = some (n, a)) : OpRun P D W o tm h (.slice (some ⟨h.n, 0, none⟩) n n) (h.push a) :=
  .ofNew (by simp [ho]) fun m w A hm hf hx H => by
    have ha := hx x (by simp [ho, Op.operands])
    unfold aBytes at he
    split at he
    case h_2 => cases he
    rename_i dd e s hs hd e1
    rw [e1] at ha
    have ha := VRel.eq_of_flat ha rfl
    split at he
    case h_2 => cases he
    rename_i hu
    split at he
    case isFalse => cases he
    rename_i hsz
    cases he
    obtain ⟨c, hc, hcap⟩ : ∃ c, c = (Question.appendCap s.size 0 e).cut (w.tape w.drawn (.appendCap s.size 0 e)) ∧ s.size ≤ c := ⟨_, rfl, by simp only [Question.cut]; omega⟩
    have hcl : s.data.size = s.size := rfl
    let cs : Array Value := (s.data.map fun b => Value.int .u8 b.toNat) ++ Array.replicate (c - s.size) (.int .u8 0)
    have hcs : cs.size = c := by simp [cs]; omega
    let l : Loc := locNew w 1 (s.data.toList.map fun b => Value.int .u8 b.toNat).length (c - s.size)
    have hlen : (s.data.toList.map fun b => Value.int .u8 b.toNat).length = s.size := by simp
    refine ⟨.slice (some ⟨w.heap.size, 0, none⟩) s.size c, .cells cs e (c, c + 1), l, w.drew, rfl, rfl, rfl, rfl, rfl, ?_, ?_, ?_⟩
    · exact .slice (l := l) (upd_same _ _ _) (.inr ⟨by simp [l, locNew, hlen], by simp [l, locNew]; omega⟩)
    · have Hd : HRel P m D h w.drew := H.world rfl
      refine Hd.alloc hf rfl (fun d u e => by cases e; exact ⟨hsz, rfl⟩) (.cells ⟨rfl, ?_⟩ (.inr ⟨hu, by rw [hcs]⟩) fun i v hv => ?_)
      · rw [hcs]; simp [l, locNew]; omega
      · simp only [List.getElem?_map, Option.map_eq_some_iff] at hv
        obtain ⟨b, hb, rfl⟩ := hv
        have hi : i < s.data.size := by simpa using (List.getElem?_eq_some_iff.1 hb).1
        refine ⟨_, ?_, .int _ _⟩
        simp only [l, locNew, Nat.add_zero, cs]
        rw [Array.getElem?_append_left (by simpa using hi)]
        have : s.data[i]? = some b := by simpa using hb
        simp [this]
    · have hfz : ((w.drew.alloc (.cells cs e (0, 0))).freeze ⟨w.heap.size, cs.size, none⟩ 1) = w.drew.alloc (.cells cs e (c, c + 1)) := by
        have hh : ((w.drew.alloc (.cells cs e (0, 0))).freeze ⟨w.heap.size, cs.size, none⟩ 1).heap = (w.drew.alloc (.cells cs e (c, c + 1))).heap := by
          simp only [World.freeze, World.alloc]
          apply Array.ext_getElem?
          intro i
          have hd : w.drew.heap.size = w.heap.size := rfl
          simp only [Nat.succ_ne_zero, if_false, Array.getElem?_modify, Array.getElem?_push, hd]
          by_cases hi : w.heap.size = i
          · subst hi; simp [hcs]
          · have hi' : ¬ i = w.heap.size := fun e => hi e.symm
            simp [hi, hi']
        cases hw : (w.drew.alloc (.cells cs e (0, 0))).freeze ⟨w.heap.size, cs.size, none⟩ 1 with
        | mk hp tp dn os out =>
          rw [hw] at hh
          have h1 : tp = w.tape := by have := congrArg World.tape hw; simpa [World.freeze, World.alloc] using this.symm
          have h2 : dn = w.drew.drawn := by have := congrArg World.drawn hw; simpa [World.freeze, World.alloc] using this.symm
          have h3 : os = w.drew.os := by have := congrArg World.os hw; simpa [World.freeze, World.alloc] using this.symm
          have h4 : out = w.drew.output := by have := congrArg World.output hw; simpa [World.freeze, World.alloc] using this.symm
          simp only at hh
          subst h1 h2 h3 h4
          rw [hh]
          rfl
      have hsh : (w.drew.alloc (.cells cs e (0, 0))).shape? w.heap.size = some (e, cs.size) := by
        have : (w.drew.alloc (.cells cs e (0, 0))).heap[w.heap.size]? = some (.cells cs e (0, 0)) := by rw [alloc_get]; exact if_pos rfl
        simp only [World.shape?, this]
      have hcs' : ((s.data.map fun b => Value.int .u8 b.toNat) ++ Array.replicate (c - s.size) (.int .u8 0)) = cs := rfl
      have ecv : (convert src dst (.string s)).run P w = (Conv.stringToBytes e s).run P w := by
        simp only [convert, Sem.run_bind, run_underlying hs, run_underlying hd, Result.andThen_ok, run_underlying hu]
      simp only [execOp, ho, ha, Sem.run_bind, ecv, Conv.stringToBytes]
      simp only [choose, Sem.run, Question.forced, Bool.false_eq_true, if_false, ← hc, hcs', newRow, newObj, Sem.run_bind, Result.andThen_ok, markStringish, shape, freeze]
      have e9 : ({ w with heap := w.heap.push (.cells cs e (0, 0)), drawn := w.drawn + 1 } : World) = w.drew.alloc (.cells cs e (0, 0)) := rfl
      rw [e9]
      simp only [Sem.run_pure, Result.andThen_ok, hsh, Sem.run]
      rw [hfz]
end
end Go.Proofs.Ytmelgnpogdilgaa
