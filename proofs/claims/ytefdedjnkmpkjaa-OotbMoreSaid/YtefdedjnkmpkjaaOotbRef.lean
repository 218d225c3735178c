/- What the document's has, Quiet and Answer (layer 22) return: the walks. -/
import Derived.Test.YtefdedjnkmpkjaaOotbWalk2
namespace Go.Proofs.Ytefdedjnkmpkjaa
set_option linter.unusedVariables false
open Go.RowKit

set_option maxRecDepth 100000 in
set_option maxHeartbeats 400000 in
theorem has_any (f t g kind : Int) (A : Option Addr) (cap : Nat) (K : List Nat) (hn : K.length ≤ 9000000000000) (w : World) (h : Chs w w.heap.size A K) :
    Calls Try.prog 45 #[pk f t g A K.length cap, .int .u8 kind] w fun e w' => e = .returned (.bool (K.any fun k => (k : Int) == kind)) ∧ Below w.heap.size w w' := by
  unfold pk
  have HC := Lib.hid h; clear h
  go_enter Try.func45, Try.ntmps45
  go_wp2
  obtain ⟨W, hW, hB, h1⟩ : ∃ W : World, W = w.alloc (Obj.cells #[Value.int IntKind.u16 f, Value.int IntKind.u16 t, Value.int IntKind.u32 g, Value.slice A K.length cap] 36) ∧ Below w.heap.size w W ∧ Bk W w.heap.size 36 _ := ⟨_, rfl, Below.one _, Bk.new _ _ _⟩
  rw [← hW]
  clear hW
  have q3 := h1.at 3 rfl
  simp only [List.getElem_toArray, List.getElem_cons_succ, List.getElem_cons_zero] at q3
  go_loop [5] (fun i => ∃ k : Nat, k ≤ K.length ∧ i = .int .i64 k ∧ (K.take k).any (fun k => (k : Int) == kind) = false) (fun i => K.length - (intOf i).toNat)
  case atStart => exact ⟨0, by omega, rfl, by simp⟩
  case round =>
    obtain ⟨k, hk, rfl, hany⟩ := hrel
    have HA := Lib.hid hany; clear hany
    by_cases hlt : k < K.length
    · obtain ⟨b, off, rfl, hbb, hc⟩ := HC.out (by intro e; subst e; simp at hlt)
      obtain ⟨cs, hcs, hrg⟩ := hc k K[k] (by simp [hlt])
      clear hc
      have hi0 : (k : Int) < (K.length : Int) := by omega
      have hc0 : W.cell? ⟨b, off + k * 15, none⟩ = some (.int .u8 (K[k] : Int)) := (hB.cell (p := ⟨b, off + k * 15, none⟩) hbb).trans (by have := hrg 0 _ hcs.2; simpa using this)
      clear hrg hcs
      have HT := Lib.hid (any_take_succ (fun k : Nat => (k : Int) == kind) K k hlt)
      by_cases hp : ((K[k] : Int) == kind) = true
      · go_wp2
        go_ret
        refine ⟨?_, hB⟩
        have h1 : K.any (fun k => (k : Int) == kind) = true := by rw [List.any_eq_true]; exact ⟨K[k], List.getElem_mem hlt, hp⟩
        rw [h1]; rfl
      · have hp' : ((K[k] : Int) == kind) = false := by simpa using hp
        clear hp
        go_wp2
        go_round
        case rel => exact ⟨k + 1, by omega, by go_num, by rw [HT.out, HA.out]; exact hp'⟩
        case measure => simp [intOf]; omega
    · obtain rfl : k = K.length := by omega
      go_wp2
      go_ret
      refine ⟨?_, hB⟩
      rw [← List.take_length (l := K), HA.out]; rfl

def refQuietB (g : Int) (K : List Nat) : Bool :=
  ((K.length : Int) == 0) || (g == 0) || (K.any fun k => (k : Int) == 1) || (K.any fun k => (k : Int) == 6) || (K.any fun k => (k : Int) == 9) || (K.any fun k => (k : Int) == 11) || (K.any fun k => (k : Int) == 14)
theorem refQuiet_eq (g : Int) (K : List Nat) : refQuietB g K = quietB g K := by
  have h : ∀ a b c d e : Int → Bool, K.any (fun k => a k || b k || c k || d k || e k) = (K.any (fun k => a k) || K.any (fun k => b k) || K.any (fun k => c k) || K.any (fun k => d k) || K.any (fun k => e k)) := by
    intro a b c d e
    induction K with
    | nil => rfl
    | cons x l ih => simp only [List.any_cons, ih]; cases a x <;> cases b x <;> cases c x <;> cases d x <;> cases e x <;> simp
  have h0 : ((K.length : Int) == 0) = (K.length == 0) := by
    rw [Bool.eq_iff_iff]; simp
  unfold refQuietB quietB quietKind
  rw [h (fun k => k == 6) (fun k => k == 14) (fun k => k == 11) (fun k => k == 9) (fun k => k == 1), h0]
  generalize (K.length == 0) = a
  generalize (g == 0) = b
  generalize (K.any fun k => (k : Int) == 1) = c1
  generalize (K.any fun k => (k : Int) == 6) = c6
  generalize (K.any fun k => (k : Int) == 9) = c9
  generalize (K.any fun k => (k : Int) == 11) = c11
  generalize (K.any fun k => (k : Int) == 14) = c14
  cases a <;> cases b <;> cases c1 <;> cases c6 <;> cases c9 <;> cases c11 <;> cases c14 <;> rfl

set_option maxRecDepth 100000 in
set_option maxHeartbeats 1000000 in
theorem refQuiet_any (f t g : Int) (A : Option Addr) (cap : Nat) (K : List Nat) (hn : K.length ≤ 9000000000000) (w : World) (h : Chs w w.heap.size A K) :
    Calls Try.prog 25 #[pk f t g A K.length cap] w fun e w' => e = .returned (.bool (quietB g K)) ∧ Below w.heap.size w w' := by
  rw [← refQuiet_eq]
  have HQ : Hid (refQuietB g K = (((K.length : Int) == 0) || (g == 0) || (K.any fun k => (k : Int) == 1) || (K.any fun k => (k : Int) == 6) || (K.any fun k => (k : Int) == 9) || (K.any fun k => (k : Int) == 11) || (K.any fun k => (k : Int) == 14))) := rfl
  unfold pk
  have HC := Lib.hid h; clear h
  generalize hRQ : refQuietB g K = rq at HQ
  clear hRQ
  cases e0 : ((K.length : Int) == 0)
  · cases e1 : (g == 0)
    · rw [e0, e1] at HQ
      go_enter Try.func25, Try.ntmps25
      go_wp2_with fail
      have hbp : Below w.heap.size w (w.alloc (Obj.cells #[Value.int IntKind.u16 f, Value.int IntKind.u16 t, Value.int IntKind.u32 g, Value.slice A K.length cap] 36)) := Below.one _
      have hk0 := Bk.new w 36 #[Value.int IntKind.u16 f, Value.int IntKind.u16 t, Value.int IntKind.u32 g, Value.slice A K.length cap]
      refine (has_any f t g 1 A cap K hn _ ((HC.out.below hbp (Nat.le_refl _)).more hbp.size)).mono ?_
      rintro e w1 ⟨rfl, hx⟩
      have hb1 := hbp.trans (hx.mono hbp.size)
      have hk1 := hk0.below hx hk0.lt
      clear hx hbp hk0
      cases c1 : (K.any fun k => (k : Int) == 1)
      rotate_left
      · rw [c1] at HQ
        go_wp2_with fail
        go_ret
        exact ⟨by rw [HQ.out]; rfl, hb1⟩
      rw [c1] at HQ
      have q0 := hk1.at 0 rfl
      have q1 := hk1.at 1 rfl
      have q2 := hk1.at 2 rfl
      have q3 := hk1.at 3 rfl
      simp only [List.getElem_toArray, List.getElem_cons_succ, List.getElem_cons_zero] at q0 q1 q2 q3
      go_wp2_with fail
      refine (has_any f t g 6 A cap K hn _ ((HC.out.below hb1 (Nat.le_refl _)).more hb1.size)).mono ?_
      rintro e w2 ⟨rfl, hx⟩
      have hb2 := hb1.trans (hx.mono hb1.size)
      have hk2 := hk1.below hx hk1.lt
      clear hx hb1 hk1 q0 q1 q2 q3
      cases c6 : (K.any fun k => (k : Int) == 6)
      rotate_left
      · rw [c6] at HQ
        go_wp2_with fail
        go_ret
        exact ⟨by rw [HQ.out]; rfl, hb2⟩
      rw [c6] at HQ
      have q0 := hk2.at 0 rfl
      have q1 := hk2.at 1 rfl
      have q2 := hk2.at 2 rfl
      have q3 := hk2.at 3 rfl
      simp only [List.getElem_toArray, List.getElem_cons_succ, List.getElem_cons_zero] at q0 q1 q2 q3
      go_wp2_with fail
      refine (has_any f t g 9 A cap K hn _ ((HC.out.below hb2 (Nat.le_refl _)).more hb2.size)).mono ?_
      rintro e w3 ⟨rfl, hx⟩
      have hb3 := hb2.trans (hx.mono hb2.size)
      have hk3 := hk2.below hx hk2.lt
      clear hx hb2 hk2 q0 q1 q2 q3
      cases c9 : (K.any fun k => (k : Int) == 9)
      rotate_left
      · rw [c9] at HQ
        go_wp2_with fail
        go_ret
        exact ⟨by rw [HQ.out]; rfl, hb3⟩
      rw [c9] at HQ
      have q0 := hk3.at 0 rfl
      have q1 := hk3.at 1 rfl
      have q2 := hk3.at 2 rfl
      have q3 := hk3.at 3 rfl
      simp only [List.getElem_toArray, List.getElem_cons_succ, List.getElem_cons_zero] at q0 q1 q2 q3
      go_wp2_with fail
      refine (has_any f t g 11 A cap K hn _ ((HC.out.below hb3 (Nat.le_refl _)).more hb3.size)).mono ?_
      rintro e w4 ⟨rfl, hx⟩
      have hb4 := hb3.trans (hx.mono hb3.size)
      have hk4 := hk3.below hx hk3.lt
      clear hx hb3 hk3 q0 q1 q2 q3
      cases c11 : (K.any fun k => (k : Int) == 11)
      rotate_left
      · rw [c11] at HQ
        go_wp2_with fail
        go_ret
        exact ⟨by rw [HQ.out]; rfl, hb4⟩
      rw [c11] at HQ
      have q0 := hk4.at 0 rfl
      have q1 := hk4.at 1 rfl
      have q2 := hk4.at 2 rfl
      have q3 := hk4.at 3 rfl
      simp only [List.getElem_toArray, List.getElem_cons_succ, List.getElem_cons_zero] at q0 q1 q2 q3
      go_wp2_with fail
      refine (has_any f t g 14 A cap K hn _ ((HC.out.below hb4 (Nat.le_refl _)).more hb4.size)).mono ?_
      rintro e w5 ⟨rfl, hx⟩
      have hb5 := hb4.trans (hx.mono hb4.size)
      have hk5 := hk4.below hx hk4.lt
      clear hx hb4 hk4 q0 q1 q2 q3
      cases c14 : (K.any fun k => (k : Int) == 14)
      rotate_left
      · rw [c14] at HQ
        go_wp2_with fail
        go_ret
        exact ⟨by rw [HQ.out]; rfl, hb5⟩
      rw [c14] at HQ
      go_wp2_with fail
      go_ret
      exact ⟨by rw [HQ.out]; rfl, hb5⟩
    · rw [e0, e1] at HQ
      go_enter Try.func25, Try.ntmps25
      go_wp2_with fail
      go_ret
      exact ⟨by rw [HQ.out]; rfl, Below.one _⟩
  · rw [e0] at HQ
    go_enter Try.func25, Try.ntmps25
    go_wp2_with fail
    go_ret
    exact ⟨by rw [HQ.out]; rfl, Below.one _⟩

set_option maxRecDepth 100000 in
set_option maxHeartbeats 400000 in
theorem refAnswer_no (f t g : Int) (A : Option Addr) (cap : Nat) (K : List Nat) (hn : K.length ≤ 9000000000000) (w : World) (h : Chs w w.heap.size A K) (hq : quietB g K = true) :
    Calls Try.prog 22 #[pk f t g A K.length cap] w fun e w' => e = .returned (.tuple #[pk0, .bool false]) ∧ Below w.heap.size w w' := by
  unfold pk
  have HC := Lib.hid h; clear h
  have HQ := Lib.hid hq; clear hq
  go_enter Try.func22, Try.ntmps22
  go_wp2_with fail
  have hb0 : ∀ o1 o2 : Obj, Below w.heap.size w ((w.alloc o1).alloc o2) := fun o1 o2 => (Below.one o1).alloc (Below.one o1).size o2
  refine (refQuiet_any f t g A cap K hn _ ((HC.out.below (hb0 _ _) (Nat.le_refl _)).more (hb0 _ _).size)).mono ?_
  rintro e w1 ⟨rfl, hb1⟩
  rw [HQ.out]
  obtain ⟨hc, hf⟩ : (∀ b o, b < w.heap.size + 2 → w1.cell? ⟨b, o, none⟩ = _) ∧ (∀ b o, b < w.heap.size + 2 → w1.frozen? ⟨b, o, none⟩ = _) := ⟨fun b o h => hb1.cell (p := ⟨b, o, none⟩) (by simp; omega), fun b o h => hb1.frozen (p := ⟨b, o, none⟩) (by simp; omega)⟩
  have hb1' : Below w.heap.size w w1 := (hb0 _ _).trans (hb1.mono (hb0 _ _).size)
  go_wp2_with fail
  refine bodyPost_ret (v := .tuple #[pk0, .bool false]) (by simp [results, Try.results22, go_sem, hc, pk0, pk]) rfl ⟨rfl, ?_⟩
  exact (((hb1'.setCell (p := ⟨w.heap.size + 1, 0, none⟩) (by simp) _).setCell (p := ⟨w.heap.size + 1, 1, none⟩) (by simp) _).setCell (p := ⟨w.heap.size + 1, 2, none⟩) (by simp) _).setCell (p := ⟨w.heap.size + 1, 3, none⟩) (by simp) _

set_option maxRecDepth 100000 in
set_option maxHeartbeats 1000000 in
theorem refAnswer_yes (f t g : Int) (A : Option Addr) (cap : Nat) (K : List Nat) (hn : K.length ≤ 9000000000000) (w : World) (h : Chs w w.heap.size A K) (hq : quietB g K = false) :
    Calls Try.prog 22 #[pk f t g A K.length cap] w fun e w' => ∃ gb, e = .returned (.tuple #[pk t f g (some ⟨gb, 0, none⟩) 1 1, .bool true]) ∧ w'.heap[gb]? = some (.cells (ansCells (ansKind K)) 45 (0, 0)) ∧ w.heap.size ≤ gb ∧ Below w.heap.size w w' := by
  unfold pk
  have HC := Lib.hid h; clear h
  have HQ := Lib.hid hq; clear hq
  go_enter Try.func22, Try.ntmps22
  go_wp2_with fail
  have hb0 : ∀ o1 o2 : Obj, Below w.heap.size w ((w.alloc o1).alloc o2) := fun o1 o2 => (Below.one o1).alloc (Below.one o1).size o2
  refine (refQuiet_any f t g A cap K hn _ ((HC.out.below (hb0 _ _) (Nat.le_refl _)).more (hb0 _ _).size)).mono ?_
  rintro e w1 ⟨rfl, hb1⟩
  rw [HQ.out]
  have hk1 : Bk w1 w.heap.size 36 _ := ((Bk.new w _ _).alloc _).below hb1 (by simp; omega)
  have hk2 : Bk w1 (w.heap.size + 1) 36 _ := (Bk.new2 w _ _ _).below hb1 (by simp)
  have hb1' : Below w.heap.size w w1 := (hb0 _ _).trans (hb1.mono (hb0 _ _).size)
  have q0 := hk1.at 0 rfl
  have q1 := hk1.at 1 rfl
  have q2 := hk1.at 2 rfl
  have q3 := hk1.at 3 rfl
  simp only [List.getElem_toArray, List.getElem_cons_succ, List.getElem_cons_zero] at q0 q1 q2 q3
  clear hb1 hb0
  go_wp2_with fail
  refine (has_any f t g 8 A cap K hn _ ((HC.out.below hb1' (Nat.le_refl _)).more hb1'.size)).mono ?_
  rintro e w2 ⟨rfl, hb2⟩
  have hb2' : Below w.heap.size w w2 := hb1'.trans (hb2.mono hb1'.size)
  replace hk1 := hk1.below hb2 hk1.lt
  replace hk2 := hk2.below hb2 hk2.lt
  clear hb2 q0 q1 q2 q3 hb1'
  have HX : Hid (ansKind K = if (K.any fun k => (k : Int) == 8) then 14 else 6) := rfl
  cases hany : K.any fun k => (k : Int) == 8
  · have HK : Hid (ansKind K = 6) := by show _ = _; rw [HX.out, hany]; rfl
    clear hany HX
    go_upto_region 6 with (fail)
    have q0 := hk1.at 0 rfl
    have q1 := hk1.at 1 rfl
    have q2 := hk1.at 2 rfl
    have p0 := hk2.at 0 rfl
    have p1 := hk2.at 1 rfl
    have p2 := hk2.at 2 rfl
    have p3 := hk2.at 3 rfl
    have pf := hk2.free
    have hs4 := hk2.lt
    have hs5 := hk1.lt
    go_wp2_with fail
    refine bodyPost_ret (v := .tuple #[.agg #[.int .u16 t, .int .u16 f, .int .u32 g, .slice (some ⟨w2.heap.size + 1, 0, none⟩) 1 1], .bool true]) (by simp [results, Try.results22, go_sem, p0, p1, p2, p3, hs4, hs5]) rfl ⟨w2.heap.size + 1, rfl, ?_, by omega, ?_⟩
    · rw [HK.out]
      exact new_at (by simp only [World.size_alloc, size_setCell]) _
    · exact (((((hb2'.setCell (p := ⟨w.heap.size + 1, 0, none⟩) (by simp) _).setCell (p := ⟨w.heap.size + 1, 1, none⟩) (by simp) _).setCell (p := ⟨w.heap.size + 1, 2, none⟩) (by simp) _).setCell (p := ⟨w.heap.size + 1, 3, none⟩) (by simp) _).alloc (by simp only [size_setCell]; exact hb2'.size) _).alloc (by simp only [World.size_alloc, size_setCell]; have := hb2'.size; omega) _
  · have HK : Hid (ansKind K = 14) := by show _ = _; rw [HX.out, hany]; rfl
    clear hany HX
    go_upto_region 6 with (fail)
    have q0 := hk1.at 0 rfl
    have q1 := hk1.at 1 rfl
    have q2 := hk1.at 2 rfl
    have p0 := hk2.at 0 rfl
    have p1 := hk2.at 1 rfl
    have p2 := hk2.at 2 rfl
    have p3 := hk2.at 3 rfl
    have pf := hk2.free
    have hs4 := hk2.lt
    have hs5 := hk1.lt
    go_wp2_with fail
    refine bodyPost_ret (v := .tuple #[.agg #[.int .u16 t, .int .u16 f, .int .u32 g, .slice (some ⟨w2.heap.size + 1, 0, none⟩) 1 1], .bool true]) (by simp [results, Try.results22, go_sem, p0, p1, p2, p3, hs4, hs5]) rfl ⟨w2.heap.size + 1, rfl, ?_, by omega, ?_⟩
    · rw [HK.out]
      exact new_at (by simp only [World.size_alloc, size_setCell]) _
    · exact (((((hb2'.setCell (p := ⟨w.heap.size + 1, 0, none⟩) (by simp) _).setCell (p := ⟨w.heap.size + 1, 1, none⟩) (by simp) _).setCell (p := ⟨w.heap.size + 1, 2, none⟩) (by simp) _).setCell (p := ⟨w.heap.size + 1, 3, none⟩) (by simp) _).alloc (by simp only [size_setCell]; exact hb2'.size) _).alloc (by simp only [World.size_alloc, size_setCell]; have := hb2'.size; omega) _
end Go.Proofs.Ytefdedjnkmpkjaa
