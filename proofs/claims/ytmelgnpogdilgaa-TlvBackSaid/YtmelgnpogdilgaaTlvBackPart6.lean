/- What the law leans on, part 6. No conditions. -/
import Derived.WideShapes
import Derived.ProofKit
import Derived.OpenShut
import Derived.ChangeOld
import Derived.Test.YtmelgnpogdilgaaTlvBackPart5
/- Rows of things that come in. No conditions. -/
namespace Go.Proofs.Ytmelgnpogdilgaa
set_option linter.unusedVariables false
theorem tlvsB : Try.prog.underlying 32 = some (.slice 25) := by kernel_rfl
theorem tlvC : Try.prog.cellsOf 25 = 3 := by kernel_rfl
theorem u8W : Try.prog.bytesOf 5 = 1 := by kernel_rfl
theorem tlv_ofZ {h : AHeap} {H : Type} {cs : List Value} {d : DataW H} (r : ARd Try.prog h 25 cs d) (z : Sized Try.prog 25 d) : ∃ (kind flags : Nat) (a : Option Addr) (cap : Nat) (zs : List UInt8), cs = [.int .u16 kind, .int .u8 flags, .slice a zs.length cap] ∧ kind < 65536 ∧ flags < 256 ∧ Rv Try.prog h 1 a zs.length cap (zs.map bv) ∧ cap ≤ maxLen ∧ zs.length ≤ 140737488355328 := by
  obtain ⟨hl, hf⟩ := r.fieldZ z Try.underlying25
  rw [show Try.prog.cellsOf 25 = 3 from by kernel_rfl] at hl
  match cs, hl with
  | [c0, c1, c2], _ =>
    obtain ⟨d0, r0, -⟩ := hf 0 22 0 1 rfl (by kernel_rfl)
    obtain ⟨d1, r1, -⟩ := hf 1 5 1 1 rfl (by kernel_rfl)
    obtain ⟨d2, r2, z2⟩ := hf 2 23 2 1 rfl (by kernel_rfl)
    obtain ⟨kind, e0, hk⟩ := r0.u_inv rfl u16b
    obtain ⟨flags, e1, hfl⟩ := r1.u_inv rfl u8b
    obtain ⟨a, cap, zs, e2, hR, hm, hZ⟩ := r2.bytesZ z2 bytesB u8b (by kernel_rfl) u8W
    simp at e0 e1 e2
    subst e0 e1 e2
    exact ⟨kind, flags, a, cap, zs, rfl, hk, hfl, hR, hm, hZ⟩
theorem tlvs_of {h : AHeap} {H : Type} {cs : List Value} {d : DataW H} (r : ARd Try.prog h 32 cs d) (z : Sized Try.prog 32 d) : ∃ (a : Option Addr) (cap : Nat) (ts : List TV), cs = [.slice a ts.length cap] ∧ Rv Try.prog h 3 a ts.length cap (tcells ts) ∧ cap ≤ maxLen ∧ TVs h ts ∧ ∀ t ∈ ts, t.k < 65536 ∧ t.f < 256 ∧ t.cap ≤ maxLen ∧ t.z.length ≤ 140737488355328 := by
  obtain ⟨a, len, cap, c, rfl, hR, hm, -, hel⟩ := r.slice_invZ z tlvsB
  rw [tlvC] at hR hel
  have hl := hR.length
  have each : ∀ i, i < len → ∃ t : TV, (c.drop (i * 3)).take 3 = t.cells ∧ t.ok h ∧ t.k < 65536 ∧ t.f < 256 ∧ t.cap ≤ maxLen ∧ t.z.length ≤ 140737488355328 := fun i hi => by
    obtain ⟨d', hd, hz'⟩ := hel i hi
    obtain ⟨k, f, b, cp, zs, e, hk, hf, hz, hc, hZ⟩ := tlv_ofZ hd hz'
    exact ⟨⟨k, f, zs, b, cp⟩, e, hz, hk, hf, hc, hZ⟩
  obtain ⟨ts, h1, h2, h3, h4⟩ : ∃ ts : List TV, c = tcells ts ∧ ts.length = len ∧ TVs h ts ∧ ∀ t ∈ ts, t.k < 65536 ∧ t.f < 256 ∧ t.cap ≤ maxLen ∧ t.z.length ≤ 140737488355328 := by
    clear hR hel r z
    induction len generalizing c with
    | zero => exact ⟨[], by simpa [tcells] using hl, rfl, (fun t ht => by cases ht), (fun t ht => by cases ht)⟩
    | succ n ih =>
      obtain ⟨t, e, ok, b1, b2, b3, b4⟩ := each 0 (by omega)
      rw [Nat.zero_mul, List.drop_zero] at e
      obtain ⟨ts, i1, i2, i3, i4⟩ := ih (c.drop 3) (by simp; omega) (fun i hi => by
        have := each (i + 1) (by omega)
        rwa [show (i + 1) * 3 = 3 + i * 3 from by omega, ← List.drop_drop] at this)
      refine ⟨t :: ts, ?_, by simp [i2], fun x hx => ?_, fun x hx => ?_⟩
      · rw [← List.take_append_drop 3 c, e, i1]; simp [tcells]
      · rcases List.mem_cons.1 hx with rfl | hx
        · exact ok
        · exact i3 x hx
      · rcases List.mem_cons.1 hx with rfl | hx
        · exact ⟨b1, b2, b3, b4⟩
        · exact i4 x hx
  subst h2
  subst h1
  exact ⟨a, cap, ts, rfl, hR, hm, h3, h4⟩
end Go.Proofs.Ytmelgnpogdilgaa

/- Headers and bytes that come in. No conditions. -/
namespace Go.Proofs.Ytmelgnpogdilgaa
set_option linter.unusedVariables false
set_option maxRecDepth 100000
theorem hu8 : Try.prog.underlying 5 = some (.int .u8) := by kernel_rfl
theorem hu16 : Try.prog.underlying 22 = some (.int .u16) := by kernel_rfl
theorem hu32 : Try.prog.underlying 44 = some (.int .u32) := by kernel_rfl
theorem hbytesU : Try.prog.underlying 23 = some (.slice 5) := by kernel_rfl
theorem head_of {h : AHeap} {H : Type} {cs : List Value} {d : DataW H} (r : ARd Try.prog h 46 cs d) : ∃ f t g : Nat, cs = [.int .u16 f, .int .u16 t, .int .u32 g] ∧ f < 65536 ∧ t < 65536 ∧ g < 4294967296 := by
  obtain ⟨hl, hf⟩ := r.field Try.underlying46
  rw [show Try.prog.cellsOf 46 = 3 from by kernel_rfl] at hl
  match cs, hl with
  | [c0, c1, c2], _ =>
    obtain ⟨d0, r0⟩ := hf 0 22 0 1 rfl (by kernel_rfl)
    obtain ⟨d1, r1⟩ := hf 1 22 1 1 rfl (by kernel_rfl)
    obtain ⟨d2, r2⟩ := hf 2 44 2 1 rfl (by kernel_rfl)
    obtain ⟨f, e0, h0⟩ := r0.u_inv rfl hu16
    obtain ⟨t, e1, h1⟩ := r1.u_inv rfl hu16
    obtain ⟨g, e2, h2⟩ := r2.u_inv rfl hu32
    simp at e0 e1 e2
    subst e0 e1 e2
    exact ⟨f, t, g, rfl, h0, h1, h2⟩
theorem plainHead : plainB Try.prog 3 46 = true := by kernel_rfl
theorem plainBytes : plainB Try.prog 3 23 = true := by kernel_rfl
/-- A header that comes in. -/
theorem imp_head {H : Type} {enc : TypeId × Value → H} {W : World} {m : Mp} {h : AHeap} {base : Nat} {v : Value} {d : DataW H} {ps : List MemPlace} (o : Value.okWide Try.prog W .any base 46 v) (ht : DataW.Trod enc Try.prog W 0 (fun _ => true) true 46 v d ps) (I : Im Try.prog W m h) :
    ∃ m' h', Im Try.prog W m' h' ∧ m.le m' ∧ Same h h' ∧ ∃ f t g : Nat, VRel m' (hdV f t g) v ∧ f < 65536 ∧ t < 65536 ∧ g < 4294967296 := by
  obtain ⟨c, rfl, _⟩ := WideShapes.okWide_struct Try.underlying46 o
  obtain ⟨m', h', cs, I', hm, hs, hA, hR, _⟩ := imp_val plainHead ht I
  have hv := vrel_agg hA
  obtain ⟨f, t, g, rfl, b1, b2, b3⟩ := head_of hR
  exact ⟨m', h', I', hm, hs, f, t, g, hv, b1, b2, b3⟩
/-- Bytes that come in. -/
theorem imp_bytes {H : Type} {enc : TypeId × Value → H} {W : World} {m : Mp} {h : AHeap} {base : Nat} {v : Value} {d : DataW H} {ps : List MemPlace} (o : Value.okWide Try.prog W .any base 23 v) (ht : DataW.Trod enc Try.prog W 0 (fun _ => true) true 23 v d ps) (I : Im Try.prog W m h) :
    ∃ m' h', Im Try.prog W m' h' ∧ m.le m' ∧ Same h h' ∧ ∃ (a : Option Addr) (cap : Nat) (zs : List UInt8), VRel m' (.slice a zs.length cap) v ∧ Rv Try.prog h' 1 a zs.length cap (zs.map bv) ∧ cap ≤ maxLen := by
  obtain ⟨a0, l0, c0, rfl⟩ := WideShapes.okWide_slice hbytesU o
  obtain ⟨m', h', cs, I', hm, hs, hA, hR, hl⟩ := imp_val plainBytes ht I
  obtain ⟨x, rfl, hv⟩ := vrel_one hA (by rw [hl]; kernel_rfl) rfl
  obtain ⟨a, cap, zs, e, hz, hc⟩ := hR.bytes hbytesU hu8 (by kernel_rfl)
  cases e
  exact ⟨m', h', I', hm, hs, a, cap, zs, hv, hz, hc⟩
end Go.Proofs.Ytmelgnpogdilgaa

/- TlvBack: the walk: the law returns true and turns nothing that was there. -/
namespace Go.Proofs.Ytmelgnpogdilgaa
set_option linter.unusedVariables false
open Go.ChangeShapes Go.WideShapes Go.ChangeAt Go.RowKit
set_option maxRecDepth 100000
theorem plainTlvs : plainB Try.prog 4 32 = true := by kernel_rfl
theorem tlvBackWalk {H : Type} {enc : TypeId × Value → H} {base : Nat} {d1 d2 : DataW H} {p1 p2 : List MemPlace} (a0 : Bool) (v1 v2 : Value) (W : World) (o1 : Value.okWide Try.prog W .any base 32 v1) (h1 : DataW.Trod enc Try.prog W 0 (fun _ => true) true 32 v1 d1 p1) (z1 : Sized Try.prog 32 d1) (o2 : Value.okWide Try.prog W .any base 23 v2) (h2 : DataW.Trod enc Try.prog W 0 (fun _ => true) true 23 v2 d2 p2) (z2 : Sized Try.prog 23 d2) : Calls Try.prog 5 #[.bool a0, v1, v2] W fun e w' => e = .returned (.bool true) ∧ Below W.heap.size W w' := by
  obtain ⟨a1, l1, c1, rfl⟩ := WideShapes.okWide_slice tlvsB o1
  obtain ⟨a2, l2, c2, rfl⟩ := WideShapes.okWide_slice hbytesU o2
  obtain ⟨m, h, cs, I, _, _, hA, hR, hl⟩ := imp_val plainTlvs h1 (Im.empty Try.prog W)
  obtain ⟨x, rfl, hv1⟩ := vrel_one hA (by rw [hl]; kernel_rfl) rfl
  obtain ⟨a, cap, ts, e, hz, hc, htv, hbd⟩ := tlvs_of hR z1
  cases e
  obtain ⟨m', h', cs', I', hm, hs, hA', hR', hl'⟩ := imp_val plainBytes h2 I
  obtain ⟨x', rfl, hv2⟩ := vrel_one hA' (by rw [hl']; kernel_rfl) rfl
  obtain ⟨b, bcap, zs, e', hzb, hcb, hzl⟩ := hR'.bytesZ z2 hbytesU hu8 (by kernel_rfl) u8W
  cases e'
  refine calls_imp noGlobals I' rfl (tlvBack_spec a0 a cap ts b bcap zs hbd hzl hcb h' (hz.same hs) (htv.same hs) hzb) ?_
  exact ((ARel.single (.bool a0)).push (hv1.mono hm)).push hv2
end Go.Proofs.Ytmelgnpogdilgaa
