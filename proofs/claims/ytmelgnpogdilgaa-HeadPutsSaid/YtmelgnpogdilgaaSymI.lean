/- What comes in: by its type; the call of a law. No conditions. -/
import Derived.Test.YtmelgnpogdilgaaSymH
import Derived.KernelRfl
namespace Go.Proofs.Ytmelgnpogdilgaa
set_option linter.unusedVariables false
open Go.RowKit
def bv (z : UInt8) : Value := .int .u8 z.toNat
section
variable {P : Program} {W : World} {m : Mp} {h : AHeap} {H : Type} {enc : TypeId × Value → H}
theorem imp_val {t : TypeId} {v : Value} {d : DataW H} {ps : List MemPlace} {f : Nat} (hp : plainB P f t = true) (ht : DataW.Trod enc P W 0 (fun _ => true) true t v d ps) (I : Im P W m h) :
    ∃ m' h' cs, Im P W m' h' ∧ m.le m' ∧ Same h h' ∧ ARel m' cs.toArray v.cells ∧ ARd P h' t cs d ∧ cs.length = P.cellsOf t := by
  obtain ⟨fuel, hf⟩ := ht
  obtain ⟨m', h', cs, g1, g2, g3, g4, g5, g6⟩ := imp f fuel t v.cells.toList d ps hp hf m h I
  exact ⟨m', h', cs, g1, g2, g3, by simpa using g4, g5, g6⟩
theorem vrel_one {m : Mp} {cs : List Value} {v : Value} (h : ARel m cs.toArray v.cells) (hl : cs.length = 1) (hv : v.oneCell' = true) : ∃ x, cs = [x] ∧ VRel m x v := by
  match cs, hl with
  | [x], _ =>
    have hc : v.cells = #[v] := by cases v <;> first | rfl | cases hv
    rw [hc] at h
    exact ⟨x, rfl, h.2 0 x v rfl rfl⟩
theorem vrel_agg {m : Mp} {cs : List Value} {c : Array Value} (h : ARel m cs.toArray (Value.cells (.agg c))) : VRel m (.agg cs.toArray) (.agg c) := .agg h.1 h.2
/-- A call of what comes in. -/
theorem calls_imp (hg : P.globals.size = 0) (I : Im P W m h) {f : FuncId} {args : List Value} {args' : Array Value} {v : Value} (hv : flatB v = true) (hc : CallS P [] f args h fun u _ => u = v) (ha : ARel m args.toArray args') : Calls P f args' W fun e w' => e = .returned v ∧ Below W.heap.size W w' := by
  obtain ⟨u, h', hr, rfl⟩ := hc
  have hr := hr.run m W args' (fun g hlt => by omega) (fun i hi _ => I.dom i hi) ha I.rel
  refine (callsIn_wide.1 hr).mono ?_
  rintro e w' ⟨v', m', rfl, hF, hV, _⟩
  refine ⟨by rw [VRel.eq_of_flat hV hv], ?_⟩
  exact ⟨hF.os, hF.tape, hF.output, hF.size, fun b hb => hF.keep b hb fun j k _ hj => by simp at hj⟩
/-! ### By type -/
theorem ARd.int_inv {t : TypeId} {k : IntKind} {cs : List Value} {d : DataW H} (r : ARd P h t cs d) (hu : P.underlying t = some (.int k)) : ∃ n : Int, cs = [.int k n] ∧ (Lit.int k n).wf = true := by
  cases r with
  | int hu' hw => rw [hu] at hu'; cases hu'; exact ⟨_, rfl, hw⟩
  | bool hu' => rw [hu] at hu'; cases hu'
  | str hu' => rw [hu] at hu'; cases hu'
  | snil hu' => rw [hu] at hu'; cases hu'
  | slice hu' => rw [hu] at hu'; cases hu'
  | struct hu' => rw [hu] at hu'; cases hu'
theorem ARd.u_inv {t : TypeId} {k : IntKind} (hk : k.signed = false) {cs : List Value} {d : DataW H} (r : ARd P h t cs d) (hu : P.underlying t = some (.int k)) : ∃ n : Nat, cs = [.int k n] ∧ n < 2 ^ k.bits := by
  obtain ⟨n, rfl, hw⟩ := r.int_inv hu
  have hb : 0 ≤ n ∧ n ≤ 2 ^ k.bits - 1 := by simpa [Lit.wf, IntKind.min, IntKind.max, hk] using hw
  have e : ((n.toNat : Nat) : Int) = n := by omega
  refine ⟨n.toNat, by rw [e], ?_⟩
  have : ((n.toNat : Nat) : Int) < ((2 ^ k.bits : Nat) : Int) := by rw [e]; simp; omega
  exact Int.ofNat_lt.1 this
theorem ARd.bool_inv {t : TypeId} {cs : List Value} {d : DataW H} (r : ARd P h t cs d) (hu : P.underlying t = some .bool) : ∃ b : Bool, cs = [.bool b] := by
  cases r with
  | bool hu' => exact ⟨_, rfl⟩
  | int hu' hw => rw [hu] at hu'; cases hu'
  | str hu' => rw [hu] at hu'; cases hu'
  | snil hu' => rw [hu] at hu'; cases hu'
  | slice hu' => rw [hu] at hu'; cases hu'
  | struct hu' => rw [hu] at hu'; cases hu'
theorem ARd.field {t : TypeId} {fs : Array Field} {cs : List Value} {d : DataW H} (r : ARd P h t cs d) (hu : P.underlying t = some (.struct fs)) : cs.length = P.cellsOf t ∧ ∀ (i ty off sz : Nat), (fs[i]?).map (fun f => (f.type, f.offset)) = some (ty, off) → P.cellsOf ty = sz → ∃ d', ARd (H := H) P h ty ((cs.drop off).take sz) d' := by
  cases r with
  | struct hu' hl hx hf =>
    rw [hu] at hu'; cases hu'
    refine ⟨hl, fun i ty off sz e hs => ?_⟩
    subst hs
    cases hq : fs[i]? with
    | none => simp [hq] at e
    | some f =>
      simp only [hq, Option.map_some, Option.some.injEq, Prod.mk.injEq] at e
      obtain ⟨rfl, rfl⟩ := e
      have hi := (Array.getElem?_eq_some_iff.1 hq).1
      rename_i xs
      exact ⟨_, hf i f xs[i] hq (List.getElem?_eq_getElem (by omega))⟩
  | bool hu' => rw [hu] at hu'; cases hu'
  | int hu' hw => rw [hu] at hu'; cases hu'
  | str hu' => rw [hu] at hu'; cases hu'
  | snil hu' => rw [hu] at hu'; cases hu'
  | slice hu' => rw [hu] at hu'; cases hu'
theorem ARd.slice_inv {t e : TypeId} {cs : List Value} {d : DataW H} (r : ARd P h t cs d) (hu : P.underlying t = some (.slice e)) : ∃ a len cap c, cs = [.slice a len cap] ∧ Rv P h (P.cellsOf e) a len cap c ∧ cap ≤ maxLen ∧ ∀ i, i < len → ∃ d', ARd (H := H) P h e ((c.drop (i * P.cellsOf e)).take (P.cellsOf e)) d' := by
  cases r with
  | snil hu' => exact ⟨none, 0, 0, [], rfl, .nil, Nat.zero_le _, fun i hi => by omega⟩
  | slice hu' hR hm hl he =>
    rw [hu] at hu'; cases hu'
    rename_i ds rest
    exact ⟨_, _, _, _, rfl, hR, hm, fun i hi => ⟨ds[i]'(by omega), he i _ (List.getElem?_eq_getElem (by omega))⟩⟩
  | bool hu' => rw [hu] at hu'; cases hu'
  | int hu' hw => rw [hu] at hu'; cases hu'
  | str hu' => rw [hu] at hu'; cases hu'
  | struct hu' => rw [hu] at hu'; cases hu'
theorem ARd.bytes {t e : TypeId} {cs : List Value} {d : DataW H} (r : ARd P h t cs d) (hu : P.underlying t = some (.slice e)) (he : P.underlying e = some (.int .u8)) (hc : P.cellsOf e = 1) : ∃ a cap, ∃ zs : List UInt8, cs = [.slice a zs.length cap] ∧ Rv P h 1 a zs.length cap (zs.map bv) ∧ cap ≤ maxLen := by
  obtain ⟨a, len, cap, c, rfl, hR, hm, hel⟩ := r.slice_inv hu
  rw [hc] at hR hel
  have hl := hR.length
  rw [Nat.mul_one] at hl
  have each : ∀ i, i < c.length → ∃ z : UInt8, c[i]? = some (bv z) := fun i hi => by
    obtain ⟨d', hd⟩ := hel i (by omega)
    obtain ⟨n, h1, h2⟩ := hd.u_inv rfl he
    rw [Nat.mul_one] at h1
    refine ⟨UInt8.ofNat n, ?_⟩
    have h3 : ((c.drop i).take 1)[0]? = some (.int .u8 n) := by rw [h1]; rfl
    rw [List.getElem?_take_of_lt (by omega), List.getElem?_drop, Nat.add_zero] at h3
    rw [h3]
    have : n < 256 := h2
    simp only [bv, UInt8.toNat_ofNat', Option.some.injEq, Value.int.injEq, true_and]
    omega
  obtain ⟨zs, hz⟩ : ∃ zs : List UInt8, c = zs.map bv := by
    clear hR hel hl
    induction c with
    | nil => exact ⟨[], rfl⟩
    | cons x c ih =>
      obtain ⟨z, hz⟩ := each 0 (by simp)
      simp at hz
      obtain ⟨zs, rfl⟩ := ih fun i hi => by
        have := each (i + 1) (by simpa using hi)
        simpa using this
      exact ⟨z :: zs, by simp [hz]⟩
  subst hz
  simp at hl
  subst hl
  exact ⟨a, cap, zs, rfl, hR, hm⟩
end
end Go.Proofs.Ytmelgnpogdilgaa
