/- OotbMore: the walk: the law returns true and turns nothing that was there. -/
import Derived.Test.YtefdedjnkmpkjaaOotbSame2
import Derived.Test.YtefdedjnkmpkjaaOotbKnown
import Derived.Test.YtefdedjnkmpkjaaOpenChunks
import Derived.Deep.DeepCutAuto
namespace Go.Proofs.Ytefdedjnkmpkjaa
set_option linter.unusedVariables false
open Go.RowKit

/-- What an answer is: none, or a packet with one chunk. -/
def AnsV (w : World) (f' t' g' : Int) (A' : Option Addr) (n' c' : Nat) (f t g : Int) (q : Bool) (k : Int) : Prop :=
  (q = true → f' = 0 ∧ t' = 0 ∧ g' = 0 ∧ A' = none ∧ n' = 0 ∧ c' = 0) ∧ (q = false → f' = t ∧ t' = f ∧ g' = g ∧ n' = 1 ∧ c' = 1 ∧ ∃ ga, A' = some ⟨ga, 0, none⟩ ∧ Bk w ga 45 (ansCells k))
theorem AnsV.keep {w w' : World} {f' t' g' : Int} {A' : Option Addr} {n' c' : Nat} {f t g : Int} {q : Bool} {k : Int} (h : AnsV w f' t' g' A' n' c' f t g q k) (hb : Below w.heap.size w w') : AnsV w' f' t' g' A' n' c' f t g q k := by
  refine ⟨h.1, fun hq => ?_⟩
  obtain ⟨a, b, c, d, e, ga, hA, hk⟩ := h.2 hq
  exact ⟨a, b, c, d, e, ga, hA, hk.below hb hk.lt⟩
theorem answer_any (f t g : Int) (A : Option Addr) (cap : Nat) (K : List Nat) (hn : K.length ≤ 9000000000000) (w : World) (h : Chs w w.heap.size A K) :
    Calls Try.prog 21 #[pk f t g A K.length cap] w fun e w' => ∃ f' t' g' A' n' c', e = .returned (.tuple #[pk f' t' g' A' n' c', .bool (!quietB g K)]) ∧ AnsV w' f' t' g' A' n' c' f t g (quietB g K) (ansKind K) ∧ Below w.heap.size w w' := by
  cases hq : quietB g K
  · refine (answer_yes f t g A cap K hn w h hq).mono ?_
    rintro e w' ⟨ga, rfl, hk, _, hb⟩
    exact ⟨_, _, _, _, _, _, rfl, ⟨(fun h => by cases h), fun _ => ⟨rfl, rfl, rfl, rfl, rfl, ga, rfl, hk⟩⟩, hb⟩
  · refine (answer_no f t g A cap K hn w h hq).mono ?_
    rintro e w' ⟨rfl, hb⟩
    exact ⟨_, _, _, _, _, _, rfl, ⟨fun _ => ⟨rfl, rfl, rfl, rfl, rfl, rfl⟩, (fun h => by cases h)⟩, hb⟩
theorem same06_any {w : World} {f1 t1 g1 f2 t2 g2 : Int} {A1 A2 : Option Addr} {n1 c1 n2 c2 : Nat} {f t g : Int} {q : Bool} {k : Int} (h1 : AnsV w f1 t1 g1 A1 n1 c1 f t g q k) (h2 : AnsV w f2 t2 g2 A2 n2 c2 f t g q k) :
    Calls Try.prog 23 #[pk f1 t1 g1 A1 n1 c1, pk f2 t2 g2 A2 n2 c2] w fun e w' => e = .returned (.bool true) ∧ Below w.heap.size w w' := by
  cases hq : q
  · obtain ⟨rfl, rfl, rfl, rfl, rfl, ga, rfl, ka⟩ := h1.2 hq
    obtain ⟨rfl, rfl, rfl, rfl, rfl, gb, rfl, kb⟩ := h2.2 hq
    exact same06_one _ _ _ _ ga gb w ka kb
  · obtain ⟨rfl, rfl, rfl, rfl, rfl, rfl⟩ := h1.1 hq
    obtain ⟨rfl, rfl, rfl, rfl, rfl, rfl⟩ := h2.1 hq
    exact same06_none w
theorem quietB_cons (g : Int) (k : Nat) (K : List Nat) (hK : K ≠ []) : quietB g (k :: K) = (quietKind k || quietB g K) := by
  have h1 : ((k :: K).length == 0) = false := by simp
  have h2 : (K.length == 0) = false := by simp [hK]
  simp only [quietB, h1, h2, List.any_cons, Bool.false_or]
  cases (g == 0) <;> cases quietKind (k : Int) <;> simp
theorem ansKind_cons (k : Nat) (K : List Nat) : ansKind (k :: K) = if (k : Int) == 8 then 14 else ansKind K := by
  unfold ansKind
  rw [List.any_cons]
  cases (k : Int) == 8 <;> simp
theorem eiChunk : EI Try.prog 34 45 15 152 := ⟨Try.underlying34, _, _, rfl, rfl, by kernel_rfl, by kernel_rfl, by kernel_rfl, by decide⟩

set_option maxRecDepth 100000 in
set_option maxHeartbeats 2000000 in
theorem ootbMore_go (f t g : Int) (A : Option Addr) (cap : Nat) (K : List Nat) (fs : List Value) (hcap : K.length ≤ cap) (hmax : cap ≤ maxLen) (k : Nat) (c1 c2 c3 c4 c5 c6 c7 c8 c9 c10 c11 c12 c13 c14 : Value) (hone : ∀ u ∈ [Value.int .u8 (k : Int), c1, c2, c3, c4, c5, c6, c7, c8, c9, c10, c11, c12, c13, c14], u.oneCell' = true) (w : World) (h : ChF w w.heap.size A K fs) :
    Calls Try.prog 8 #[.agg #[.int .u16 f, .int .u16 t, .int .u32 g, .slice A K.length cap], .agg #[.int .u8 (k : Int), c1, c2, c3, c4, c5, c6, c7, c8, c9, c10, c11, c12, c13, c14]] w fun e w' => e = .returned (.bool true) ∧ Below w.heap.size w w' := by
  unfold maxLen at hmax
  have HC := Lib.hid h.chs
  have HF := Lib.hid h; clear h
  have HO := Lib.hid hone; clear hone
  go_enter Try.func8, Try.ntmps8
  go_wp2_with fail
  refine (ootbKnown _).mono ?_
  rintro e w1 ⟨rfl, hx⟩
  have hb0 : ∀ o1 o2 : Obj, Below w.heap.size w ((w.alloc o1).alloc o2) := fun o1 o2 => (Below.one o1).alloc (Below.one o1).size o2
  have hb1 : Below w.heap.size w w1 := (hb0 _ _).trans (hx.mono (hb0 _ _).size)
  have hk0 := ((Bk.new w _ _).alloc _).below hx (by simp; omega)
  have hk1 := (Bk.new2 w _ _ _).below hx (by simp)
  clear hx hb0
  have q3 := hk0.at 3 rfl
  simp only [List.getElem_toArray, List.getElem_cons_succ, List.getElem_cons_zero] at q3
  by_cases h3 : K.length ≤ 1000
  rotate_left
  · have h3' : decide ((1000 : Int) < (K.length : Int)) = true := by simp; omega
    go_wp2_with fail
    go_ret
    exact ⟨rfl, hb1⟩
  have h3' : decide ((1000 : Int) < (K.length : Int)) = false := by simp; omega
  by_cases h4 : K.length = 0
  · have h4' : ((K.length : Int) == 0) = true := beq_iff_eq.2 (by omega)
    clear h4
    go_wp2_with fail
    go_ret
    exact ⟨rfl, hb1⟩
  have h4' : ((K.length : Int) == 0) = false := beq_eq_false_iff_ne.2 (by omega)
  have hKne : K ≠ [] := by intro e; subst e; simp at h4
  have HK := Lib.hid hKne; clear hKne h4
  have hn : K.length ≤ 9000000000000 := by omega
  go_upto_region 5 with fail
  clear h3' h4' q3
  go_cut [5, 6] (fun s5 s6 wx => ∃ n5 f' t' g' A' n' c', s5 = .pointer (some ⟨n5, 0, none⟩) ∧ s6 = .bool (!quietB g K) ∧ Bk wx n5 36 #[.int .u16 f', .int .u16 t', .int .u32 g', .slice A' n' c'] ∧ AnsV wx f' t' g' A' n' c' f t g (quietB g K) (ansKind K) ∧
    Bk wx w.heap.size 36 #[.int .u16 f, .int .u16 t, .int .u32 g, .slice A K.length cap] ∧ Bk wx (w.heap.size + 1) 45 #[.int .u8 (k : Int), c1, c2, c3, c4, c5, c6, c7, c8, c9, c10, c11, c12, c13, c14] ∧ Below w.heap.size w wx)
  case first =>
    have q0 := hk0.at 0 rfl
    have q1 := hk0.at 1 rfl
    have q2 := hk0.at 2 rfl
    have q3 := hk0.at 3 rfl
    simp only [List.getElem_toArray, List.getElem_cons_succ, List.getElem_cons_zero] at q0 q1 q2 q3
    go_wp2_with fail
    refine (answer_any f t g A cap K hn _ ((HC.out.below hb1 (Nat.le_refl _)).more hb1.size)).mono ?_
    rintro e w2 ⟨f', t', g', A', n', c', rfl, hans, hx⟩
    replace hk0 := hk0.below hx hk0.lt
    replace hk1 := hk1.below hx hk1.lt
    have hb2 := hb1.trans (hx.mono hb1.size)
    clear hx q0 q1 q2 q3 hb1
    unfold pk
    go_wp2_with fail
    go_meet
    exact ⟨w2.heap.size, f', t', g', A', n', c', rfl, rfl, Bk.new _ _ _, hans.keep (Below.one _), hk0.alloc _, hk1.alloc _, hb2.alloc hb2.size _⟩
  case rest =>
  clear hk0 hk1 hb1
  obtain ⟨n5, f', t', g', A', n', c', rfl, rfl, hk5, hans, hk0, hk1, hb⟩ := hcut
  go_upto_region 6 with fail
  go_cut [7] (fun s7 wx => ∃ n7, s7 = .pointer (some ⟨n7, 0, none⟩) ∧ w.heap.size + 2 ≤ n7 ∧ n5 ≠ n7 ∧ Bk wx n7 36 #[.int .u16 f, .int .u16 t, .int .u32 g, .slice A K.length cap] ∧ Bk wx n5 36 #[.int .u16 f', .int .u16 t', .int .u32 g', .slice A' n' c'] ∧ AnsV wx f' t' g' A' n' c' f t g (quietB g K) (ansKind K) ∧
    Bk wx w.heap.size 36 #[.int .u16 f, .int .u16 t, .int .u32 g, .slice A K.length cap] ∧ Bk wx (w.heap.size + 1) 45 #[.int .u8 (k : Int), c1, c2, c3, c4, c5, c6, c7, c8, c9, c10, c11, c12, c13, c14] ∧ Below w.heap.size w wx)
  case first =>
    have q0 := hk0.at 0 rfl
    have q1 := hk0.at 1 rfl
    have q2 := hk0.at 2 rfl
    have q3 := hk0.at 3 rfl
    simp only [List.getElem_toArray, List.getElem_cons_succ, List.getElem_cons_zero] at q0 q1 q2 q3
    have hl := hk1.lt
    have hl5 := hk5.lt
    go_wp2_with fail
    go_meet
    exact ⟨wc.heap.size, rfl, by omega, by omega, Bk.new _ _ _, hk5.alloc _, hans.keep (Below.one _), hk0.alloc _, hk1.alloc _, hb.alloc hb.size _⟩
  case rest =>
  clear hk0 hk1 hb hk5 hans
  obtain ⟨n7, rfl, hn7, hn57, hk7, hk5, hans, hk0, hk1, hb⟩ := hcut
  go_upto_region 7 with fail
  have q3 := hk0.at 3 rfl
  simp only [List.getElem_toArray, List.getElem_cons_succ, List.getElem_cons_zero] at q3
  have hbl : Below w.heap.size w (wc.alloc (.cells #[.int .u8 (k : Int), c1, c2, c3, c4, c5, c6, c7, c8, c9, c10, c11, c12, c13, c14] 45)) := hb.alloc hb.size _
  have hown0 : (wc.alloc (.cells #[.int .u8 (k : Int), c1, c2, c3, c4, c5, c6, c7, c8, c9, c10, c11, c12, c13, c14] 45)).ownsRow wc.heap.size 45 15 (.slice (some ⟨wc.heap.size, 0, none⟩) 1 1) 1 [.int .u8 (k : Int), c1, c2, c3, c4, c5, c6, c7, c8, c9, c10, c11, c12, c13, c14] := World.ownsRow_lit wc #[.int .u8 (k : Int), c1, c2, c3, c4, c5, c6, c7, c8, c9, c10, c11, c12, c13, c14] 1 (Nat.le_refl _) (by decide) rfl
  have HA := Lib.hid (run_append_rd (ty := 34) eiChunk hown0 (m := K.length) (c := cap) HF.out.1 ((HF.out.2.1).below hbl (Nat.le_refl _)) HF.out.2.2.1 (by simp only [maxLen]; omega) (by omega) (by simp))
  clear hown0
  have hs0 := hk0.lt
  have hl7 := hk7.lt
  go_upto_region 8 with (first
    | (refine wpList_load_row rfl 45 (.tmp 3) rfl (w.heap.size + 1) rfl 45 _ (0, 0) _ hk1 Try.underlying45 rfl (by kernel_rfl) ?_)
    | (at_builtin; refine wpList_append rfl _ _ _ rfl HA.out ?_; rintro v3 w3 ⟨hown, hgrow, hblk⟩; obtain ⟨gv, capv, hv, hg1, hg2⟩ := hown.form (by omega); subst hv; have z7 := (hgrow.block n7 (by simp; omega) (by simp [Value.ownBlock]; omega)).trans (hk7.alloc _); have z70 := Bk.at (w := w3) (g := n7) z7 3 rfl; have z7f := Bk.free (w := w3) (g := n7) z7 3))
  have hBw : Below wc.heap.size wc w3 := (Below.one _).grown hgrow (by simp) (by simp [Value.ownBlock])
  have hown2 := ownsRow_setCell_below hown (a := ⟨n7, 3, none⟩) (by simp; omega) (.slice (some ⟨gv, 0, none⟩) (1 + K.length) capv)
  obtain ⟨W, hW, k7, k5, hansW, k1, kc, hB⟩ : ∃ W : World, W = w3.setCell ⟨n7, 3, none⟩ (.slice (some ⟨gv, 0, none⟩) (1 + K.length) capv) ∧ Bk W n7 36 #[.int .u16 f, .int .u16 t, .int .u32 g, .slice (some ⟨gv, 0, none⟩) (1 + K.length) capv] ∧
      Bk W n5 36 #[.int .u16 f', .int .u16 t', .int .u32 g', .slice A' n' c'] ∧ AnsV W f' t' g' A' n' c' f t g (quietB g K) (ansKind K) ∧ Bk W (w.heap.size + 1) 45 #[.int .u8 (k : Int), c1, c2, c3, c4, c5, c6, c7, c8, c9, c10, c11, c12, c13, c14] ∧ Chs W W.heap.size (some ⟨gv, 0, none⟩) (k :: K) ∧ Below w.heap.size w W := by
    refine ⟨_, rfl, (hk7.below hBw hl7).set 3 _, (hk5.below hBw hk5.lt).far (by simp; omega) _, ⟨hans.1, fun hq => ?_⟩, (hk1.below hBw hk1.lt).far (by simp; omega) _, ?_, ?_⟩
    · obtain ⟨a, b, c, d, e, ga, hA, hkk⟩ := hans.2 hq
      refine ⟨a, b, c, d, e, ga, hA, (hkk.below hBw hkk.lt).far ?_ _⟩
      intro e7
      have := hkk
      simp only at e7
      subst e7
      unfold Bk at this hk7
      rw [hk7] at this
      cases this
    · exact (ChF.cons (Rd.of_own hown2) ⟨rfl, rfl⟩ HO.out HF.out.1 HF.out.2.2.1 HF.out.2.2.2).chs
    · exact ((hb.trans (hBw.mono hb.size)).setCell (p := ⟨n7, 3, none⟩) (by simp; omega) _)
  rw [← hW]
  clear hW hown hown2 hgrow hblk z7 z70 z7f hBw hk7 hk5 hans hk0 hk1 hb q3 hbl HA hg1 hg2
  have HQ := Lib.hid (quietB_cons g k K HK.out)
  have HKd := Lib.hid (ansKind_cons k K)
  have hlen : (k :: K).length = 1 + K.length := by simp; omega
  go_cut [8, 9] (fun s8 s9 wx => ∃ n8 f2 t2 g2 A2 m2 d2, s8 = .pointer (some ⟨n8, 0, none⟩) ∧ s9 = .bool (!quietB g (k :: K)) ∧ Bk wx n8 36 #[.int .u16 f2, .int .u16 t2, .int .u32 g2, .slice A2 m2 d2] ∧ AnsV wx f2 t2 g2 A2 m2 d2 f t g (quietB g (k :: K)) (ansKind (k :: K)) ∧
    Bk wx n5 36 #[.int .u16 f', .int .u16 t', .int .u32 g', .slice A' n' c'] ∧ AnsV wx f' t' g' A' n' c' f t g (quietB g K) (ansKind K) ∧ Bk wx (w.heap.size + 1) 45 #[.int .u8 (k : Int), c1, c2, c3, c4, c5, c6, c7, c8, c9, c10, c11, c12, c13, c14] ∧ Below w.heap.size w wx)
  case first =>
    have q0 := k7.at 0 rfl
    have q1 := k7.at 1 rfl
    have q2 := k7.at 2 rfl
    have q3 := k7.at 3 rfl
    simp only [List.getElem_toArray, List.getElem_cons_succ, List.getElem_cons_zero] at q0 q1 q2 q3
    have HX := Lib.hid (answer_any f t g _ capv (k :: K) (by rw [hlen]; omega) W kc)
    rw [hlen] at HX
    clear hlen kc
    go_wp2_with fail
    refine HX.out.mono ?_
    rintro e w2 ⟨f2, t2, g2, A2, m2, d2, rfl, hans2, hx⟩
    replace k5 := k5.below hx k5.lt
    replace k1 := k1.below hx k1.lt
    replace hansW := hansW.keep hx
    have hb2 := hB.trans (hx.mono hB.size)
    clear hx q0 q1 q2 q3 HX k7
    unfold pk
    go_wp2_with fail
    go_meet
    exact ⟨w2.heap.size, f2, t2, g2, A2, m2, d2, rfl, rfl, Bk.new _ _ _, hans2.keep (Below.one _), k5.alloc _, hansW.keep (Below.one _), k1.alloc _, hb2.alloc hb2.size _⟩
  case rest =>
  clear k7 k5 hansW k1 kc hB hlen
  obtain ⟨n8, f2, t2, g2, A2, m2, d2, rfl, rfl, k8, hans2, k5, hans1, k1, hB⟩ := hcut
  have q0 := k1.at 0 rfl
  simp only [List.getElem_toArray, List.getElem_cons_zero] at q0
  cases hkq : quietKind (k : Int)
  · have hq2 : quietB g (k :: K) = quietB g K := by rw [HQ.out, hkq]; rfl
    rw [hq2] at hans2 ⊢
    have hkk : ((k : Int) == 6) = false ∧ ((k : Int) == 14) = false ∧ ((k : Int) == 11) = false ∧ ((k : Int) == 9) = false ∧ ((k : Int) == 1) = false := by
      unfold quietKind at hkq
      simp only [Bool.or_eq_false_iff] at hkq
      obtain ⟨⟨⟨⟨a, b⟩, c⟩, d⟩, e⟩ := hkq
      exact ⟨a, b, c, d, e⟩
    obtain ⟨e6, e14, e11, e9, e1⟩ := hkk
    clear hkq hq2 HQ
    cases e8 : ((k : Int) == 8)
    · have hk2 : ansKind (k :: K) = ansKind K := by rw [HKd.out, e8]; rfl
      rw [hk2] at hans2
      clear HKd hk2
      have HS := Lib.hid (same06_any hans1 hans2)
      unfold pk at HS
      have x0 := k5.at 0 rfl
      have x1 := k5.at 1 rfl
      have x2 := k5.at 2 rfl
      have x3 := k5.at 3 rfl
      have y0 := k8.at 0 rfl
      have y1 := k8.at 1 rfl
      have y2 := k8.at 2 rfl
      have y3 := k8.at 3 rfl
      simp only [List.getElem_toArray, List.getElem_cons_succ, List.getElem_cons_zero] at x0 x1 x2 x3 y0 y1 y2 y3
      cases quietB g K
      all_goals
        go_wp2_with fail
        refine HS.out.mono ?_
        rintro e w9 ⟨rfl, hx⟩
        have hb9 := hB.trans (hx.mono hB.size)
        clear hx HS x0 x1 x2 x3 y0 y1 y2 y3
        go_wp2_with fail
        go_ret
        exact ⟨rfl, hb9⟩
    · have hk2 : ansKind (k :: K) = 14 := by rw [HKd.out, e8]; rfl
      rw [hk2] at hans2
      clear HKd hk2
      cases hq : quietB g K
      · rw [hq] at hans2
        obtain ⟨rfl, rfl, rfl, rfl, rfl, ga, rfl, ka⟩ := hans2.2 rfl
        have y3 := k8.at 3 rfl
        have z0 := ka.at 0 rfl
        simp only [ansCells, List.getElem_toArray, List.getElem_cons_succ, List.getElem_cons_zero] at y3 z0
        clear hq hans1 hans2 ka k8 k5 k1
        go_wp2_with fail
        go_ret
        exact ⟨rfl, hB⟩
      · clear hq hans1 hans2 k8 k5 k1
        go_wp2_with fail
        go_ret
        exact ⟨rfl, hB⟩
  · have hq2 : quietB g (k :: K) = true := by rw [HQ.out, hkq]; rfl
    rw [hq2]
    have hkk : k = 6 ∨ k = 14 ∨ k = 11 ∨ k = 9 ∨ k = 1 := by
      unfold quietKind at hkq
      simp only [Bool.or_eq_true, beq_iff_eq] at hkq
      omega
    clear hkq hq2 HQ HKd hans1 hans2 k5 k8 k1
    rcases hkk with rfl | rfl | rfl | rfl | rfl
    all_goals
      go_wp2_with fail
      go_ret
      exact ⟨rfl, hB⟩

theorem ootbMoreWalk {H : Type} {enc : TypeId × Value → H} {b0 b1 base : Nat} {spare : Nat → Bool} {held : Bool} {d0 d1 : DataW H} {p0 p1 : List MemPlace} (v0 v1 : Value) (w : World) (o0 : Value.okWide Try.prog w .any b0 36 v0) (h0 : DataW.Trod enc Try.prog w base spare held 36 v0 d0 p0)
    (o1 : Value.okWide Try.prog w .any b1 45 v1) (h1 : DataW.Trod enc Try.prog w base spare held 45 v1 d1 p1) :
    Calls Try.prog 8 #[v0, v1] w fun e w' => e = .returned (.bool true) ∧ Below w.heap.size w w' := by
  obtain ⟨f, t, g, A, n, cap, K, fs, rfl, rfl, a1, a2, a3⟩ := open_pkF o0 h0
  obtain ⟨k, cs, rfl, ⟨b1, b2⟩, b3⟩ := open_ck o1 h1
  match cs, b1, b2, b3 with
  | [c0, c1, c2, c3, c4, c5, c6, c7, c8, c9, c10, c11, c12, c13, c14], _, b2, b3 =>
    simp only [List.getElem?_cons_zero, Option.some.injEq] at b2
    subst b2
    exact ootbMore_go f t g A cap K fs a1 a2 k c1 c2 c3 c4 c5 c6 c7 c8 c9 c10 c11 c12 c13 c14 b3 w a3
end Go.Proofs.Ytefdedjnkmpkjaa
