/- What ootb.Answer and the document's has, Quiet and Answer return: the walks. -/
import Derived.Test.YtefdedjnkmpkjaaOotbWalk
import Derived.Deep.CutRange
import Derived.Deep.DeepCutAuto
namespace Go.Proofs.Ytefdedjnkmpkjaa
set_option linter.unusedVariables false
open Go.RowKit

/-- An answer's chunk. -/
def ansCells (k : Int) : Array Value := #[.int .u8 k, .int .u8 1, .int .u32 0, .int .u32 0, .int .u32 0, .int .u16 0, .int .u16 0, .int .u16 0, .int .u16 0, .int .u32 0, .slice none 0 0, .slice none 0 0, .slice none 0 0, .slice none 0 0, .slice none 0 0]
def ansKind (K : List Nat) : Int := if K.any (fun k => (k : Int) == 8) then 14 else 6
/-- The packet that is none. -/
def pk0 : Value := pk 0 0 0 none 0 0

set_option maxRecDepth 100000 in
set_option maxHeartbeats 400000 in
theorem answer_no (f t g : Int) (A : Option Addr) (cap : Nat) (K : List Nat) (hn : K.length ≤ 9000000000000) (w : World) (h : Chs w w.heap.size A K) (hq : quietB g K = true) :
    Calls Try.prog 21 #[pk f t g A K.length cap] w fun e w' => e = .returned (.tuple #[pk0, .bool false]) ∧ Below w.heap.size w w' := by
  unfold pk
  have HC := Lib.hid h; clear h
  have HQ := Lib.hid hq; clear hq
  go_enter Try.func21, Try.ntmps21
  go_wp2_with fail
  have hb0 : ∀ o1 o2 : Obj, Below w.heap.size w ((w.alloc o1).alloc o2) := fun o1 o2 => (Below.one o1).alloc (Below.one o1).size o2
  refine (quiet_any f t g A cap K hn _ ((HC.out.below (hb0 _ _) (Nat.le_refl _)).more (hb0 _ _).size)).mono ?_
  rintro e w1 ⟨rfl, hb1⟩
  rw [HQ.out]
  obtain ⟨hc, hf⟩ : (∀ b o, b < w.heap.size + 2 → w1.cell? ⟨b, o, none⟩ = _) ∧ (∀ b o, b < w.heap.size + 2 → w1.frozen? ⟨b, o, none⟩ = _) := ⟨fun b o h => hb1.cell (p := ⟨b, o, none⟩) (by simp; omega), fun b o h => hb1.frozen (p := ⟨b, o, none⟩) (by simp; omega)⟩
  have hb1' : Below w.heap.size w w1 := (hb0 _ _).trans (hb1.mono (hb0 _ _).size)
  go_wp2_with fail
  refine bodyPost_ret (v := .tuple #[pk0, .bool false]) (by simp [results, Try.results21, go_sem, hc, pk0, pk]) rfl ⟨rfl, ?_⟩
  exact (((hb1'.setCell (p := ⟨w.heap.size + 1, 0, none⟩) (by simp) _).setCell (p := ⟨w.heap.size + 1, 1, none⟩) (by simp) _).setCell (p := ⟨w.heap.size + 1, 2, none⟩) (by simp) _).setCell (p := ⟨w.heap.size + 1, 3, none⟩) (by simp) _

set_option maxRecDepth 100000 in
set_option maxHeartbeats 1000000 in
theorem answer_yes (f t g : Int) (A : Option Addr) (cap : Nat) (K : List Nat) (hn : K.length ≤ 9000000000000) (w : World) (h : Chs w w.heap.size A K) (hq : quietB g K = false) :
    Calls Try.prog 21 #[pk f t g A K.length cap] w fun e w' => ∃ gb, e = .returned (.tuple #[pk t f g (some ⟨gb, 0, none⟩) 1 1, .bool true]) ∧ w'.heap[gb]? = some (.cells (ansCells (ansKind K)) 45 (0, 0)) ∧ w.heap.size ≤ gb ∧ Below w.heap.size w w' := by
  unfold pk
  have HC := Lib.hid h; clear h
  have HQ := Lib.hid hq; clear hq
  go_enter Try.func21, Try.ntmps21
  go_wp2_with fail
  have hb0 : ∀ o1 o2 : Obj, Below w.heap.size w ((w.alloc o1).alloc o2) := fun o1 o2 => (Below.one o1).alloc (Below.one o1).size o2
  refine (quiet_any f t g A cap K hn _ ((HC.out.below (hb0 _ _) (Nat.le_refl _)).more (hb0 _ _).size)).mono ?_
  rintro e w1 ⟨rfl, hb1⟩
  rw [HQ.out]
  have hk1 : Bk w1 w.heap.size 36 _ := ((Bk.new w _ _).alloc _).below hb1 (by simp; omega)
  have hk2 : Bk w1 (w.heap.size + 1) 36 _ := (Bk.new2 w _ _ _).below hb1 (by simp)
  have hb1' : Below w.heap.size w w1 := (hb0 _ _).trans (hb1.mono (hb0 _ _).size)
  have hs1 : w.heap.size < w1.heap.size := hk1.lt
  have hs2 : w.heap.size + 1 < w1.heap.size := hk2.lt
  have q3 := hk1.at 3 rfl
  clear hb1 hb0
  go_wp2_with fail
  refine (containsFn _ callShutFn (fun k => k == 8) shutFn A cap K hn _ ((HC.out.below (hb1'.alloc hb1'.size _) (Nat.le_refl _)).more (hb1'.alloc hb1'.size _).size)).mono ?_
  rintro e w2 ⟨rfl, hb2⟩
  have hb2' : Below w.heap.size w w2 := (hb1'.alloc hb1'.size _).trans (hb2.mono (hb1'.alloc hb1'.size _).size)
  have hk1' := (hk1.alloc _).below hb2 (by simp; omega)
  have hk2' := (hk2.alloc _).below hb2 (by simp; omega)
  have hk3' := (Bk.new w1 _ _).below hb2 (by simp)
  clear hb2 hk1 hk2 q3 hb1'
  have hs3 : w1.heap.size < w2.heap.size := hk3'.lt
  generalize w1.heap.size = n1 at hk3' hs1 hs2 hs3
  have HX : Hid (ansKind K = if (K.any fun k => (k : Int) == 8) then 14 else 6) := rfl
  cases hany : K.any fun k => (k : Int) == 8
  · have HK : Hid (ansKind K = 6) := by show _ = _; rw [HX.out, hany]; rfl
    clear hany HX
    go_upto_region 6 with (fail)
    obtain ⟨W, hW, hB, h1, h2, h3⟩ : ∃ W : World, W = w2 ∧ Below w.heap.size w W ∧ Bk W w.heap.size 36 #[Value.int IntKind.u16 f, Value.int IntKind.u16 t, Value.int IntKind.u32 g, Value.slice A K.length cap] ∧
      Bk W (w.heap.size + 1) 36 #[Value.int IntKind.u16 0, Value.int IntKind.u16 0, Value.int IntKind.u32 0, Value.slice none 0 0] ∧ Bk W n1 45 _ := ⟨_, rfl, hb2', hk1', hk2', hk3'⟩
    rw [← hW]
    clear hW hb2' hk1' hk2' hk3' hs3
    have q0 := h1.at 0 rfl
    have q1 := h1.at 1 rfl
    have q2 := h1.at 2 rfl
    have p0 := h2.at 0 rfl
    have p1 := h2.at 1 rfl
    have p2 := h2.at 2 rfl
    have p3 := h2.at 3 rfl
    have pf := h2.free
    have hs4 := h2.lt
    have hs5 := h1.lt
    go_wp2_with (refine wpList_load_row rfl 45 (.tmp 4) rfl n1 rfl 45 _ (0, 0) _ h3 Try.underlying45 rfl (by kernel_rfl) ?_)
    refine bodyPost_ret (v := .tuple #[.agg #[.int .u16 t, .int .u16 f, .int .u32 g, .slice (some ⟨W.heap.size, 0, none⟩) 1 1], .bool true]) (by simp [results, Try.results21, go_sem, p0, p1, p2, p3, hs4]) rfl ⟨W.heap.size, rfl, ?_, by omega, ?_⟩
    · rw [HK.out]
      exact new_at (by simp only [size_setCell]) _
    · exact ((((hB.setCell (p := ⟨w.heap.size + 1, 0, none⟩) (by simp) _).setCell (p := ⟨w.heap.size + 1, 1, none⟩) (by simp) _).setCell (p := ⟨w.heap.size + 1, 2, none⟩) (by simp) _).setCell (p := ⟨w.heap.size + 1, 3, none⟩) (by simp) _).alloc (by simp only [size_setCell]; exact hB.size) _
  · have HK : Hid (ansKind K = 14) := by show _ = _; rw [HX.out, hany]; rfl
    clear hany HX
    have qc := hk3'.at 0 rfl
    have qf := hk3'.free 0
    go_upto_region 6 with (fail)
    clear qc qf
    obtain ⟨W, hW, hB, h1, h2, h3⟩ : ∃ W : World, W = w2.setCell ⟨n1, 0, none⟩ (.int .u8 14) ∧ Below w.heap.size w W ∧ Bk W w.heap.size 36 #[Value.int IntKind.u16 f, Value.int IntKind.u16 t, Value.int IntKind.u32 g, Value.slice A K.length cap] ∧
      Bk W (w.heap.size + 1) 36 #[Value.int IntKind.u16 0, Value.int IntKind.u16 0, Value.int IntKind.u32 0, Value.slice none 0 0] ∧ Bk W n1 45 (ansCells 14) :=
      ⟨_, rfl, hb2'.setCell (p := ⟨n1, 0, none⟩) (by simp; omega) _, hk1'.far (by simp; omega) _, hk2'.far (by simp; omega) _, hk3'.set 0 _⟩
    unfold ansCells at h3
    rw [← hW]
    clear hW hb2' hk1' hk2' hk3' hs3
    have q0 := h1.at 0 rfl
    have q1 := h1.at 1 rfl
    have q2 := h1.at 2 rfl
    have p0 := h2.at 0 rfl
    have p1 := h2.at 1 rfl
    have p2 := h2.at 2 rfl
    have p3 := h2.at 3 rfl
    have pf := h2.free
    have hs4 := h2.lt
    have hs5 := h1.lt
    go_wp2_with (refine wpList_load_row rfl 45 (.tmp 4) rfl n1 rfl 45 _ (0, 0) _ h3 Try.underlying45 rfl (by kernel_rfl) ?_)
    refine bodyPost_ret (v := .tuple #[.agg #[.int .u16 t, .int .u16 f, .int .u32 g, .slice (some ⟨W.heap.size, 0, none⟩) 1 1], .bool true]) (by simp [results, Try.results21, go_sem, p0, p1, p2, p3, hs4]) rfl ⟨W.heap.size, rfl, ?_, by omega, ?_⟩
    · rw [HK.out]
      exact new_at (by simp only [size_setCell]) _
    · exact ((((hB.setCell (p := ⟨w.heap.size + 1, 0, none⟩) (by simp) _).setCell (p := ⟨w.heap.size + 1, 1, none⟩) (by simp) _).setCell (p := ⟨w.heap.size + 1, 2, none⟩) (by simp) _).setCell (p := ⟨w.heap.size + 1, 3, none⟩) (by simp) _).alloc (by simp only [size_setCell]; exact hB.size) _
end Go.Proofs.Ytefdedjnkmpkjaa
