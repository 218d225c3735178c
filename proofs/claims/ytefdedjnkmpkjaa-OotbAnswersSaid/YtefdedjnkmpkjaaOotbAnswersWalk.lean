/- OotbAnswers: the walk: the law returns true and turns nothing that was there. -/
import Derived.Test.YtefdedjnkmpkjaaOotbSame2
import Derived.Test.YtefdedjnkmpkjaaOotbKnown
import Derived.Test.YtefdedjnkmpkjaaOpenStruct
namespace Go.Proofs.Ytefdedjnkmpkjaa
set_option linter.unusedVariables false
open Go.RowKit

set_option maxRecDepth 100000 in
set_option maxHeartbeats 1000000 in
theorem ootbAnswers_go (f t g : Int) (A : Option Addr) (cap : Nat) (K : List Nat) (hcap : K.length ≤ cap) (hmax : cap ≤ maxLen) (w : World) (h : Chs w w.heap.size A K) :
    Calls Try.prog 7 #[pk f t g A K.length cap] w fun e w' => e = .returned (.bool true) ∧ Below w.heap.size w w' := by
  unfold pk
  unfold maxLen at hmax
  have HC := Lib.hid h; clear h
  go_enter Try.func7, Try.ntmps7
  go_wp2_with fail
  refine (ootbKnown _).mono ?_
  rintro e w1 ⟨rfl, hx⟩
  have hb1 : Below w.heap.size w w1 := (Below.one _).trans (hx.mono (Below.one _).size)
  have hk0 := (Bk.new w _ _).below hx (by simp)
  clear hx
  have q0 := hk0.at 0 rfl
  have q1 := hk0.at 1 rfl
  have q2 := hk0.at 2 rfl
  have q3 := hk0.at 3 rfl
  simp only [List.getElem_toArray, List.getElem_cons_succ, List.getElem_cons_zero] at q0 q1 q2 q3
  by_cases h3 : K.length ≤ 3000
  rotate_left
  · have h3' : (3000 : Int) < (K.length : Int) := by omega
    go_wp2_with fail
    go_ret
    exact ⟨rfl, hb1⟩
  have h3' : ¬ (3000 : Int) < (K.length : Int) := by omega
  have hn : K.length ≤ 9000000000000 := by omega
  go_wp2_with fail
  cases hq : quietB g K
  · have HQ := Lib.hid hq; clear hq
    refine (answer_yes f t g A cap K hn _ ((HC.out.below hb1 (Nat.le_refl _)).more hb1.size) HQ.out).mono ?_
    rintro e w2 ⟨ga, rfl, hga, _, hx⟩
    have hb2 := hb1.trans (hx.mono hb1.size)
    replace hk0 := hk0.below hx hk0.lt
    clear hx q0 q1 q2 q3
    have q0 := hk0.at 0 rfl
    have q1 := hk0.at 1 rfl
    have q2 := hk0.at 2 rfl
    have q3 := hk0.at 3 rfl
    simp only [List.getElem_toArray, List.getElem_cons_succ, List.getElem_cons_zero] at q0 q1 q2 q3
    have hs0 := hk0.lt
    have hs2 := hb2.size
    unfold pk
    go_wp2_with fail
    have hb2' : ∀ o : Obj, Below w.heap.size w (w2.alloc o) := fun o => hb2.alloc hb2.size o
    refine (refAnswer_yes f t g A cap K hn _ ((HC.out.below (hb2' _) (Nat.le_refl _)).more (hb2' _).size) HQ.out).mono ?_
    rintro e w3 ⟨gb, rfl, hgb, _, hx⟩
    have hb3 := (hb2' _).trans (hx.mono (hb2' _).size)
    have hk2 := (Bk.new w2 _ _).below hx (by simp)
    replace hk0 := (hk0.alloc _).below hx (by simp; omega)
    have hka : Bk w3 ga 45 _ := ((Bk.alloc (w := w2) (g := ga) (t := 45) hga _).below hx (by have := Bk.lt (w := w2) (g := ga) (t := 45) hga; simp; omega))
    have hkb : Bk w3 gb 45 _ := hgb
    clear hga hgb
    clear hx q0 q1 q2 q3 hb2' hb2
    unfold pk
    generalize w2.heap.size = n2 at *
    go_upto_region 7 with (fail)
    obtain ⟨W, hW, hB, k0, k2, k3, ka, kb⟩ : ∃ W : World, W = w3.alloc (.cells #[Value.int IntKind.u16 t, Value.int IntKind.u16 f, Value.int IntKind.u32 g, Value.slice (some ⟨gb, 0, none⟩) 1 1] 36) ∧ Below w.heap.size w W ∧ Bk W w.heap.size 36 _ ∧ Bk W n2 36 _ ∧ Bk W w3.heap.size 36 _ ∧ Bk W ga 45 _ ∧ Bk W gb 45 _ := ⟨_, rfl, hb3.alloc hb3.size _, hk0.alloc _, hk2.alloc _, Bk.new _ _ _, hka.alloc _, hkb.alloc _⟩
    rw [← hW]
    generalize w3.heap.size = n3 at *
    clear hW
    have x0 : ∀ n : Sub W.heap.size W, n.val.cell? ⟨w.heap.size, 0, none⟩ = _ := fun n => (k0.below n.ok k0.lt).at 0 rfl
    have x1 : ∀ n : Sub W.heap.size W, n.val.cell? ⟨w.heap.size, 1, none⟩ = _ := fun n => (k0.below n.ok k0.lt).at 1 rfl
    have x2 : ∀ n : Sub W.heap.size W, n.val.cell? ⟨w.heap.size, 2, none⟩ = _ := fun n => (k0.below n.ok k0.lt).at 2 rfl
    have x3 : ∀ n : Sub W.heap.size W, n.val.cell? ⟨w.heap.size, 3, none⟩ = _ := fun n => (k0.below n.ok k0.lt).at 3 rfl
    have y0 : ∀ n : Sub W.heap.size W, n.val.cell? ⟨n2, 0, none⟩ = _ := fun n => (k2.below n.ok k2.lt).at 0 rfl
    have y1 : ∀ n : Sub W.heap.size W, n.val.cell? ⟨n2, 1, none⟩ = _ := fun n => (k2.below n.ok k2.lt).at 1 rfl
    have y2 : ∀ n : Sub W.heap.size W, n.val.cell? ⟨n2, 2, none⟩ = _ := fun n => (k2.below n.ok k2.lt).at 2 rfl
    have y3 : ∀ n : Sub W.heap.size W, n.val.cell? ⟨n2, 3, none⟩ = _ := fun n => (k2.below n.ok k2.lt).at 3 rfl
    have z0 : ∀ n : Sub W.heap.size W, n.val.cell? ⟨n3, 0, none⟩ = _ := fun n => (k3.below n.ok k3.lt).at 0 rfl
    have z1 : ∀ n : Sub W.heap.size W, n.val.cell? ⟨n3, 1, none⟩ = _ := fun n => (k3.below n.ok k3.lt).at 1 rfl
    have z2 : ∀ n : Sub W.heap.size W, n.val.cell? ⟨n3, 2, none⟩ = _ := fun n => (k3.below n.ok k3.lt).at 2 rfl
    have z3 : ∀ n : Sub W.heap.size W, n.val.cell? ⟨n3, 3, none⟩ = _ := fun n => (k3.below n.ok k3.lt).at 3 rfl
    simp only [List.getElem_toArray, List.getElem_cons_succ, List.getElem_cons_zero] at x0 x1 x2 x3 y0 y1 y2 y3 z0 z1 z2 z3
    have HCn : Hid (∀ n : Sub W.heap.size W, Chs n.val n.val.heap.size A K) := fun n => (HC.out.below (hB.trans (n.ok.mono hB.size)) (Nat.le_refl _)).more (hB.trans (n.ok.mono hB.size)).size
    have HQn : Hid (∀ n : Sub W.heap.size W, Calls Try.prog 24 #[.agg #[.int .u16 f, .int .u16 t, .int .u32 g, .slice A K.length cap]] n.val fun e w' => e = .returned (.bool false) ∧ Below n.val.heap.size n.val w') := fun n => by
      have := quiet_any f t g A cap K hn n.val (HCn.out n); rw [HQ.out] at this; exact this
    have HRn : Hid (∀ n : Sub W.heap.size W, Calls Try.prog 25 #[.agg #[.int .u16 f, .int .u16 t, .int .u32 g, .slice A K.length cap]] n.val fun e w' => e = .returned (.bool false) ∧ Below n.val.heap.size n.val w') := fun n => by
      have := refQuiet_any f t g A cap K hn n.val (HCn.out n); rw [HQ.out] at this; exact this
    have HSn : Hid (∀ n : Sub W.heap.size W, Calls Try.prog 23 #[pk t f g (some ⟨ga, 0, none⟩) 1 1, pk t f g (some ⟨gb, 0, none⟩) 1 1] n.val fun e w' => e = .returned (.bool true) ∧ Below n.val.heap.size n.val w') := fun n => same06_one t f g _ ga gb n.val (ka.below n.ok ka.lt) (kb.below n.ok kb.lt)
    unfold pk at HSn
    refine wp_region_below W.heap.size W (Below.refl _ _) (by kernel_rfl) (by kernel_rfl) ?_
    repeat (quiet_step (first
      | (go_at_call 23; exact Calls.sub_of (Nat.le_refl _) (HSn.out _))
      | (go_at_call 24; exact Calls.sub_of (Nat.le_refl _) (HQn.out _))
      | (go_at_call 25; exact Calls.sub_of (Nat.le_refl _) (HRn.out _))))
    refine wpQuiet_nil ?_
    intro _ hw'
    obtain ⟨⟨W2, hW2⟩, rfl⟩ := hw'
    go_wp2
    go_ret
    exact ⟨rfl, hB.trans (hW2.mono hB.size)⟩
  · have HQ := Lib.hid hq; clear hq
    refine (answer_no f t g A cap K hn _ ((HC.out.below hb1 (Nat.le_refl _)).more hb1.size) HQ.out).mono ?_
    rintro e w2 ⟨rfl, hx⟩
    have hb2 := hb1.trans (hx.mono hb1.size)
    replace hk0 := hk0.below hx hk0.lt
    clear hx q0 q1 q2 q3
    have q0 := hk0.at 0 rfl
    have q1 := hk0.at 1 rfl
    have q2 := hk0.at 2 rfl
    have q3 := hk0.at 3 rfl
    simp only [List.getElem_toArray, List.getElem_cons_succ, List.getElem_cons_zero] at q0 q1 q2 q3
    have hs0 := hk0.lt
    have hs2 := hb2.size
    unfold pk0 pk
    go_wp2_with fail
    have hb2' : ∀ o : Obj, Below w.heap.size w (w2.alloc o) := fun o => hb2.alloc hb2.size o
    refine (refAnswer_no f t g A cap K hn _ ((HC.out.below (hb2' _) (Nat.le_refl _)).more (hb2' _).size) HQ.out).mono ?_
    rintro e w3 ⟨rfl, hx⟩
    have hb3 := (hb2' _).trans (hx.mono (hb2' _).size)
    have hk2 := (Bk.new w2 _ _).below hx (by simp)
    replace hk0 := (hk0.alloc _).below hx (by simp; omega)
    clear hx q0 q1 q2 q3 hb2' hb2
    unfold pk0 pk
    generalize w2.heap.size = n2 at *
    go_upto_region 7 with (fail)
    obtain ⟨W, hW, hB, k0, k2, k3⟩ : ∃ W : World, W = w3.alloc (.cells #[Value.int IntKind.u16 0, Value.int IntKind.u16 0, Value.int IntKind.u32 0, Value.slice none 0 0] 36) ∧ Below w.heap.size w W ∧ Bk W w.heap.size 36 _ ∧ Bk W n2 36 _ ∧ Bk W w3.heap.size 36 _ := ⟨_, rfl, hb3.alloc hb3.size _, hk0.alloc _, hk2.alloc _, Bk.new _ _ _⟩
    rw [← hW]
    generalize w3.heap.size = n3 at *
    clear hW
    have x0 : ∀ n : Sub W.heap.size W, n.val.cell? ⟨w.heap.size, 0, none⟩ = _ := fun n => (k0.below n.ok k0.lt).at 0 rfl
    have x1 : ∀ n : Sub W.heap.size W, n.val.cell? ⟨w.heap.size, 1, none⟩ = _ := fun n => (k0.below n.ok k0.lt).at 1 rfl
    have x2 : ∀ n : Sub W.heap.size W, n.val.cell? ⟨w.heap.size, 2, none⟩ = _ := fun n => (k0.below n.ok k0.lt).at 2 rfl
    have x3 : ∀ n : Sub W.heap.size W, n.val.cell? ⟨w.heap.size, 3, none⟩ = _ := fun n => (k0.below n.ok k0.lt).at 3 rfl
    have y0 : ∀ n : Sub W.heap.size W, n.val.cell? ⟨n2, 0, none⟩ = _ := fun n => (k2.below n.ok k2.lt).at 0 rfl
    have y1 : ∀ n : Sub W.heap.size W, n.val.cell? ⟨n2, 1, none⟩ = _ := fun n => (k2.below n.ok k2.lt).at 1 rfl
    have y2 : ∀ n : Sub W.heap.size W, n.val.cell? ⟨n2, 2, none⟩ = _ := fun n => (k2.below n.ok k2.lt).at 2 rfl
    have y3 : ∀ n : Sub W.heap.size W, n.val.cell? ⟨n2, 3, none⟩ = _ := fun n => (k2.below n.ok k2.lt).at 3 rfl
    have z0 : ∀ n : Sub W.heap.size W, n.val.cell? ⟨n3, 0, none⟩ = _ := fun n => (k3.below n.ok k3.lt).at 0 rfl
    have z1 : ∀ n : Sub W.heap.size W, n.val.cell? ⟨n3, 1, none⟩ = _ := fun n => (k3.below n.ok k3.lt).at 1 rfl
    have z2 : ∀ n : Sub W.heap.size W, n.val.cell? ⟨n3, 2, none⟩ = _ := fun n => (k3.below n.ok k3.lt).at 2 rfl
    have z3 : ∀ n : Sub W.heap.size W, n.val.cell? ⟨n3, 3, none⟩ = _ := fun n => (k3.below n.ok k3.lt).at 3 rfl
    simp only [List.getElem_toArray, List.getElem_cons_succ, List.getElem_cons_zero] at x0 x1 x2 x3 y0 y1 y2 y3 z0 z1 z2 z3
    have HCn : Hid (∀ n : Sub W.heap.size W, Chs n.val n.val.heap.size A K) := fun n => (HC.out.below (hB.trans (n.ok.mono hB.size)) (Nat.le_refl _)).more (hB.trans (n.ok.mono hB.size)).size
    have HQn : Hid (∀ n : Sub W.heap.size W, Calls Try.prog 24 #[.agg #[.int .u16 f, .int .u16 t, .int .u32 g, .slice A K.length cap]] n.val fun e w' => e = .returned (.bool true) ∧ Below n.val.heap.size n.val w') := fun n => by
      have := quiet_any f t g A cap K hn n.val (HCn.out n); rw [HQ.out] at this; exact this
    have HRn : Hid (∀ n : Sub W.heap.size W, Calls Try.prog 25 #[.agg #[.int .u16 f, .int .u16 t, .int .u32 g, .slice A K.length cap]] n.val fun e w' => e = .returned (.bool true) ∧ Below n.val.heap.size n.val w') := fun n => by
      have := refQuiet_any f t g A cap K hn n.val (HCn.out n); rw [HQ.out] at this; exact this
    have HSn : Hid (∀ n : Sub W.heap.size W, Calls Try.prog 23 #[pk0, pk0] n.val fun e w' => e = .returned (.bool true) ∧ Below n.val.heap.size n.val w') := fun n => same06_none n.val
    unfold pk0 pk at HSn
    refine wp_region_below W.heap.size W (Below.refl _ _) (by kernel_rfl) (by kernel_rfl) ?_
    repeat (quiet_step (first
      | (go_at_call 23; exact Calls.sub_of (Nat.le_refl _) (HSn.out _))
      | (go_at_call 24; exact Calls.sub_of (Nat.le_refl _) (HQn.out _))
      | (go_at_call 25; exact Calls.sub_of (Nat.le_refl _) (HRn.out _))))
    refine wpQuiet_nil ?_
    intro _ hw'
    obtain ⟨⟨W2, hW2⟩, rfl⟩ := hw'
    go_wp2
    go_ret
    exact ⟨rfl, hB.trans (hW2.mono hB.size)⟩

theorem ootbAnswersWalk {H : Type} {enc : TypeId × Value → H} {b0 base : Nat} {spare : Nat → Bool} {held : Bool} {d : DataW H} {p : List MemPlace} (v : Value) (w : World) (hv : Value.okWide Try.prog w .any b0 36 v) (h : DataW.Trod enc Try.prog w base spare held 36 v d p) :
    Calls Try.prog 7 #[v] w fun e w' => e = .returned (.bool true) ∧ Below w.heap.size w w' := by
  obtain ⟨f, t, g, A, n, cap, K, rfl, rfl, h1, h2, h3⟩ := open_pk hv h
  exact ootbAnswers_go f t g A cap K h1 h2 w h3
end Go.Proofs.Ytefdedjnkmpkjaa
