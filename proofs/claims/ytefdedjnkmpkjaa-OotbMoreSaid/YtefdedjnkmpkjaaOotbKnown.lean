/- The statements' own known() of layer 22 returns true. -/
import Derived.Test.YtefdedjnkmpkjaaOotbSame2
import Derived.Deep.DeepCutAuto
namespace Go.Proofs.Ytefdedjnkmpkjaa
set_option linter.unusedVariables false
open Go.RowKit

theorem Chs.one {w : World} {g : Nat} {cs : List Value} {k : Nat} (h : Bk w g 45 cs.toArray) (hc : ChCells k cs) : Chs w w.heap.size (some ⟨g, 0, none⟩) [k] := fun _ =>
  ⟨g, 0, rfl, h.lt, fun i k' hi => by
    match i, hi with
    | 0, hi =>
      simp only [List.getElem?_cons_zero, Option.some.injEq] at hi
      subst hi
      exact ⟨cs, hc, by simpa using h.range⟩⟩
theorem Chs.two {w : World} {g : Nat} {c1 c2 : List Value} {k1 k2 : Nat} (h : Bk w g 45 (c1 ++ c2).toArray) (h1 : ChCells k1 c1) (h2 : ChCells k2 c2) : Chs w w.heap.size (some ⟨g, 0, none⟩) [k1, k2] := fun _ =>
  ⟨g, 0, rfl, h.lt, fun i k' hi => by
    have hr := h.range
    match i, hi with
    | 0, hi =>
      simp only [List.getElem?_cons_zero, Option.some.injEq] at hi
      subst hi
      refine ⟨c1, h1, fun j v hj => ?_⟩
      have hlt : j < c1.length := by
        rcases Nat.lt_or_ge j c1.length with h | h
        · exact h
        · rw [List.getElem?_eq_none h] at hj; cases hj
      have := hr j v (by simpa [List.getElem?_append_left hlt] using hj)
      simpa using this
    | 1, hi =>
      simp only [List.getElem?_cons_succ, List.getElem?_cons_zero, Option.some.injEq] at hi
      subst hi
      refine ⟨c2, h2, fun j v hj => ?_⟩
      have := hr (15 + j) v (by rw [List.toList_toArray, List.getElem?_append_right (by rw [h1.1]; omega), h1.1]; simpa using hj)
      simpa using this⟩

set_option maxRecDepth 100000 in
theorem of_any (g : Int) (A : Option Addr) (n cap : Nat) (w : World) :
    Calls Try.prog 42 #[.int .u32 g, .slice A n cap] w fun e w' => e = .returned (pk 1 2 g A n cap) ∧ Below w.heap.size w w' := by
  go_enter Try.func42, Try.ntmps42
  go_wp2
  exact bodyPost_ret (v := pk 1 2 g A n cap) (by simp [results, Try.results42, go_sem, pk]) rfl ⟨rfl, Below.one _⟩

/-- A chunk of kind k in a block. -/
def Ck (w : World) (g : Nat) (k : Int) : Prop := ∃ c1 c2 c3 c4 c5 c6 c7 c8 c9 c10 c11 c12 c13 c14 : Value, Bk w g 45 #[.int .u8 k, c1, c2, c3, c4, c5, c6, c7, c8, c9, c10, c11, c12, c13, c14]
theorem Ck.below {w w' : World} {B g : Nat} {k : Int} (h : Ck w g k) (hb : Below B w w') (hg : g < B) : Ck w' g k := by
  obtain ⟨c1, c2, c3, c4, c5, c6, c7, c8, c9, c10, c11, c12, c13, c14, h⟩ := h
  exact ⟨c1, c2, c3, c4, c5, c6, c7, c8, c9, c10, c11, c12, c13, c14, h.below hb hg⟩
theorem Ck.lt {w : World} {g : Nat} {k : Int} (h : Ck w g k) : g < w.heap.size := by
  obtain ⟨c1, c2, c3, c4, c5, c6, c7, c8, c9, c10, c11, c12, c13, c14, h⟩ := h
  exact h.lt

set_option maxRecDepth 100000 in
set_option maxHeartbeats 2000000 in
theorem ootbKnown (w : World) : Calls Try.prog 20 #[] w fun e w' => e = .returned (.bool true) ∧ Below w.heap.size w w' := by
  go_enter Try.func20, Try.ntmps20
  go_upto_region 1 with fail
  go_cut [1] (fun s1 wx => ∃ n1, s1 = .pointer (some ⟨n1, 0, none⟩) ∧ Ck wx n1 0 ∧ w.heap.size ≤ n1 ∧ Below w.heap.size w wx)
  case first =>
    go_wp2_with fail
    go_meet
    exact ⟨w.heap.size + 1, rfl, ⟨_, _, _, _, _, _, _, _, _, _, _, _, _, _, Bk.new2 _ _ _ _⟩, by omega, (Below.one _).alloc (Below.one _).size _⟩
  case rest =>
  obtain ⟨n1, rfl, hk1, hn1, hb⟩ := hcut
  go_upto_region 2 with fail
  go_cut [2, 3] (fun s2 s3 wx => ∃ n2 ga, s2 = .pointer (some ⟨n2, 0, none⟩) ∧ s3 = .bool true ∧ Ck wx n1 0 ∧ Bk wx n2 36 #[.int .u16 2, .int .u16 1, .int .u32 9, .slice (some ⟨ga, 0, none⟩) 1 1] ∧ Bk wx ga 45 (ansCells 6) ∧ Below w.heap.size w wx)
  case first =>
    obtain ⟨c1, c2, c3, c4, c5, c6, c7, c8, c9, c10, c11, c12, c13, c14, hkk⟩ := hk1
    go_wp2_with (refine wpList_load_row rfl 45 (.tmp 1) rfl n1 rfl 45 _ (0, 0) _ hkk Try.underlying45 rfl (by kernel_rfl) ?_)
    refine (of_any _ _ _ _ _).mono ?_
    rintro e w1 ⟨rfl, hx⟩
    have hc1 : Chs w1 w1.heap.size (some ⟨wc.heap.size, 0, none⟩) [0] := Chs.one (cs := [.int .u8 0, c1, c2, c3, c4, c5, c6, c7, c8, c9, c10, c11, c12, c13, c14]) ((Bk.new wc _ _).below hx (by simp)) ⟨rfl, rfl⟩
    have hk2 := (hkk.alloc _).below hx (by have := hkk.lt; simp; omega)
    have hb1 := (hb.alloc hb.size _).trans (hx.mono (hb.alloc hb.size _).size)
    clear hx hkk
    go_wp2_with fail
    refine (answer_yes 1 2 9 _ 1 [0] (by decide) _ hc1 (by decide)).mono ?_
    rintro e w2 ⟨ga, rfl, hga, hge, hx⟩
    have hga' : Bk w2 ga 45 (ansCells 6) := hga
    replace hk2 := hk2.below hx hk2.lt
    replace hb1 := hb1.trans (hx.mono hb1.size)
    clear hx hc1 hga
    unfold pk
    go_wp2_with fail
    go_meet
    exact ⟨w2.heap.size, ga, rfl, rfl, ⟨_, _, _, _, _, _, _, _, _, _, _, _, _, _, hk2.alloc _⟩, Bk.new _ _ _, hga'.alloc _, hb1.alloc hb1.size _⟩
  case rest =>
  clear hk1 hb
  obtain ⟨n2, ga, rfl, rfl, hk1, hk2, hka, hb⟩ := hcut
  go_upto_region 3 with fail
  go_cut [4, 5] (fun s4 s5 wx => ∃ n4 gb, s4 = .pointer (some ⟨n4, 0, none⟩) ∧ s5 = .bool true ∧ Ck wx n1 0 ∧ Bk wx n2 36 #[.int .u16 2, .int .u16 1, .int .u32 9, .slice (some ⟨ga, 0, none⟩) 1 1] ∧ Bk wx ga 45 (ansCells 6) ∧
    Bk wx n4 36 #[.int .u16 2, .int .u16 1, .int .u32 9, .slice (some ⟨gb, 0, none⟩) 1 1] ∧ Bk wx gb 45 (ansCells 14) ∧ Below w.heap.size w wx)
  case first =>
    obtain ⟨c1, c2, c3, c4, c5, c6, c7, c8, c9, c10, c11, c12, c13, c14, hkk⟩ := hk1
    go_wp2_with fail
    refine (of_any _ _ _ _ _).mono ?_
    rintro e w1 ⟨rfl, hx⟩
    have hc1 : Chs w1 w1.heap.size (some ⟨wc.heap.size, 0, none⟩) [8] := Chs.one (cs := [.int .u8 8, .int .u8 0, .int .u32 0, .int .u32 0, .int .u32 0, .int .u16 0, .int .u16 0, .int .u16 0, .int .u16 0, .int .u32 0, .slice none 0 0, .slice none 0 0, .slice none 0 0, .slice none 0 0, .slice none 0 0]) ((Bk.new wc _ _).below hx (by simp)) ⟨rfl, rfl⟩
    replace hkk := (hkk.alloc _).below hx (by have := hkk.lt; simp; omega)
    replace hk2 := (hk2.alloc _).below hx (by have := hk2.lt; simp; omega)
    replace hka := (hka.alloc _).below hx (by have := hka.lt; simp; omega)
    have hb1 := (hb.alloc hb.size _).trans (hx.mono (hb.alloc hb.size _).size)
    clear hx hb
    go_wp2_with fail
    refine (answer_yes 1 2 9 _ 1 [8] (by decide) _ hc1 (by decide)).mono ?_
    rintro e w2 ⟨gb, rfl, hgb, hge, hx⟩
    have hgb' : Bk w2 gb 45 (ansCells 14) := hgb
    replace hkk := hkk.below hx hkk.lt
    replace hk2 := hk2.below hx hk2.lt
    replace hka := hka.below hx hka.lt
    replace hb1 := hb1.trans (hx.mono hb1.size)
    clear hx hc1 hgb
    unfold pk
    go_wp2_with fail
    go_meet
    exact ⟨w2.heap.size, gb, rfl, rfl, ⟨_, _, _, _, _, _, _, _, _, _, _, _, _, _, hkk.alloc _⟩, hk2.alloc _, hka.alloc _, Bk.new _ _ _, hgb'.alloc _, hb1.alloc hb1.size _⟩
  case rest =>
  clear hk1 hk2 hka hb
  obtain ⟨n4, gb, rfl, rfl, hk1, hk2, hka, hk4, hkb, hb⟩ := hcut
  go_upto_region 4 with fail
  go_cut [6] (fun s6 wx => ∃ n6, s6 = .pointer (some ⟨n6, 0, none⟩) ∧ Ck wx n1 0 ∧ Bk wx n2 36 #[.int .u16 2, .int .u16 1, .int .u32 9, .slice (some ⟨ga, 0, none⟩) 1 1] ∧ Bk wx ga 45 (ansCells 6) ∧
    Bk wx n4 36 #[.int .u16 2, .int .u16 1, .int .u32 9, .slice (some ⟨gb, 0, none⟩) 1 1] ∧ Bk wx gb 45 (ansCells 14) ∧ Bk wx n6 33 #[.int .u16 2, .int .u16 1, .int .u32 9] ∧ Below w.heap.size w wx)
  case first =>
    obtain ⟨c1, c2, c3, c4, c5, c6, c7, c8, c9, c10, c11, c12, c13, c14, hkk⟩ := hk1
    go_wp2_with fail
    go_meet
    exact ⟨wc.heap.size, rfl, ⟨_, _, _, _, _, _, _, _, _, _, _, _, _, _, hkk.alloc _⟩, hk2.alloc _, hka.alloc _, hk4.alloc _, hkb.alloc _, Bk.new _ _ _, hb.alloc hb.size _⟩
  case rest =>
  clear hk1 hk2 hka hk4 hkb hb
  obtain ⟨n6, rfl, hk1, hk2, hka, hk4, hkb, hk6, hb⟩ := hcut
  go_upto_region 5 with fail
  go_cut [51] (fun s51 wx => s51 = .bool false ∧ Ck wx n1 0 ∧ Below w.heap.size w wx)
  case first =>
    have x0 := hk2.at 0 rfl
    have x1 := hk2.at 1 rfl
    have x2 := hk2.at 2 rfl
    have x3 := hk2.at 3 rfl
    have y0 := hk6.at 0 rfl
    have y1 := hk6.at 1 rfl
    have y2 := hk6.at 2 rfl
    simp only [List.getElem_toArray, List.getElem_cons_succ, List.getElem_cons_zero] at x0 x1 x2 x3 y0 y1 y2
    go_wp2_with fail
    have hb1 := hb.alloc hb.size (.cells (ansCells 6) 45)
    refine (same06_one 2 1 9 6 ga wc.heap.size _ (hka.alloc _) (Bk.new _ _ _)).mono ?_
    rintro e w1 ⟨rfl, hx⟩
    replace hk1 : Ck w1 n1 0 := by
      obtain ⟨c1, c2, c3, c4, c5, c6, c7, c8, c9, c10, c11, c12, c13, c14, hkk⟩ := hk1
      exact ⟨_, _, _, _, _, _, _, _, _, _, _, _, _, _, (hkk.alloc _).below hx (by have := hkk.lt; simp; omega)⟩
    replace hk4 := (hk4.alloc _).below hx (by have := hk4.lt; simp; omega)
    replace hkb := (hkb.alloc _).below hx (by have := hkb.lt; simp; omega)
    replace hk6 := (hk6.alloc _).below hx (by have := hk6.lt; simp; omega)
    replace hb1 := hb1.trans (hx.mono hb1.size)
    clear hx x0 x1 x2 x3 y0 y1 y2 hb hk2 hka
    have x0 := hk4.at 0 rfl
    have x1 := hk4.at 1 rfl
    have x2 := hk4.at 2 rfl
    have x3 := hk4.at 3 rfl
    have y0 := hk6.at 0 rfl
    have y1 := hk6.at 1 rfl
    have y2 := hk6.at 2 rfl
    simp only [List.getElem_toArray, List.getElem_cons_succ, List.getElem_cons_zero] at x0 x1 x2 x3 y0 y1 y2
    go_wp2_with fail
    refine (same06_one 2 1 9 14 gb w1.heap.size _ (hkb.alloc _) (Bk.new _ _ _)).mono ?_
    rintro e w2 ⟨rfl, hx⟩
    replace hk1 : Ck w2 n1 0 := by
      obtain ⟨c1, c2, c3, c4, c5, c6, c7, c8, c9, c10, c11, c12, c13, c14, hkk⟩ := hk1
      exact ⟨_, _, _, _, _, _, _, _, _, _, _, _, _, _, (hkk.alloc _).below hx (by have := hkk.lt; simp; omega)⟩
    have hb2 := (hb1.alloc hb1.size _).trans (hx.mono (hb1.alloc hb1.size _).size)
    clear hx x0 x1 x2 x3 y0 y1 y2 hb1 hk4 hkb hk6
    go_wp2_with fail
    go_meet
    exact ⟨rfl, hk1, hb2⟩
  case rest =>
  clear hk1 hk2 hka hk4 hkb hk6 hb
  obtain ⟨rfl, hk1, hb⟩ := hcut
  go_upto_region 7 with fail
  go_cut [62, 63, 64] (fun s62 s63 s64 wx => ∃ n7 g1 g2 g3, s62 = .slice (some ⟨n7, 0, none⟩) 3 3 ∧ s63 = .int .i64 3 ∧ s64 = .int .i64 0 ∧
    Bk wx n7 36 #[.int .u16 1, .int .u16 2, .int .u32 9, .slice (some ⟨g1, 0, none⟩) 2 2, .int .u16 1, .int .u16 2, .int .u32 0, .slice (some ⟨g2, 0, none⟩) 1 1, .int .u16 1, .int .u16 2, .int .u32 9, .slice (some ⟨g3, 0, none⟩) 1 1] ∧ Chs wx wx.heap.size (some ⟨g1, 0, none⟩) [0, 6] ∧ Chs wx wx.heap.size (some ⟨g2, 0, none⟩) [1] ∧ Chs wx wx.heap.size (some ⟨g3, 0, none⟩) [11] ∧ Below w.heap.size w wx)
  case first =>
    obtain ⟨c1, c2, c3, c4, c5, c6, c7, c8, c9, c10, c11, c12, c13, c14, hkk⟩ := hk1
    go_wp2_with (refine wpList_load_row rfl 45 (.tmp 1) rfl n1 rfl 45 _ (0, 0) _ hkk Try.underlying45 rfl (by kernel_rfl) ?_)
    refine (of_any _ _ _ _ _).mono ?_
    rintro e w1 ⟨rfl, hx⟩
    have k1 : Chs w1 w1.heap.size (some ⟨wc.heap.size, 0, none⟩) [0, 6] := Chs.two (c1 := [.int .u8 0, c1, c2, c3, c4, c5, c6, c7, c8, c9, c10, c11, c12, c13, c14]) (c2 := [.int .u8 6, .int .u8 0, .int .u32 0, .int .u32 0, .int .u32 0, .int .u16 0, .int .u16 0, .int .u16 0, .int .u16 0, .int .u32 0, .slice none 0 0, .slice none 0 0, .slice none 0 0, .slice none 0 0, .slice none 0 0]) ((Bk.new wc _ _).below hx (by simp)) ⟨rfl, rfl⟩ ⟨rfl, rfl⟩
    have hb1 := (hb.alloc hb.size _).trans (hx.mono (hb.alloc hb.size _).size)
    clear hx hkk hb
    generalize wc.heap.size = g1 at k1
    go_wp2_with fail
    refine (of_any _ _ _ _ _).mono ?_
    rintro e w2 ⟨rfl, hx⟩
    have k2 : Chs w2 w2.heap.size (some ⟨w1.heap.size, 0, none⟩) [1] := Chs.one (cs := [.int .u8 1, .int .u8 0, .int .u32 0, .int .u32 0, .int .u32 0, .int .u16 0, .int .u16 0, .int .u16 0, .int .u16 0, .int .u32 0, .slice none 0 0, .slice none 0 0, .slice none 0 0, .slice none 0 0, .slice none 0 0]) ((Bk.new w1 _ _).below hx (by simp)) ⟨rfl, rfl⟩
    have hy : Below w1.heap.size w1 w2 := (Below.one _).trans (hx.mono (Below.one _).size)
    replace k1 := (k1.below hy (Nat.le_refl _)).more hy.size
    replace hb1 := hb1.trans (hy.mono hb1.size)
    clear hx hy
    generalize w1.heap.size = g2 at k2
    go_wp2_with fail
    refine (of_any _ _ _ _ _).mono ?_
    rintro e w3 ⟨rfl, hx⟩
    have k3 : Chs w3 w3.heap.size (some ⟨w2.heap.size, 0, none⟩) [11] := Chs.one (cs := [.int .u8 11, .int .u8 0, .int .u32 0, .int .u32 0, .int .u32 0, .int .u16 0, .int .u16 0, .int .u16 0, .int .u16 0, .int .u32 0, .slice none 0 0, .slice none 0 0, .slice none 0 0, .slice none 0 0, .slice none 0 0]) ((Bk.new w2 _ _).below hx (by simp)) ⟨rfl, rfl⟩
    have hy : Below w2.heap.size w2 w3 := (Below.one _).trans (hx.mono (Below.one _).size)
    replace k1 := (k1.below hy (Nat.le_refl _)).more hy.size
    replace k2 := (k2.below hy (Nat.le_refl _)).more hy.size
    replace hb1 := hb1.trans (hy.mono hb1.size)
    clear hx hy
    generalize w2.heap.size = g3 at k3
    unfold pk
    go_wp2_with fail
    go_meet
    have hy : ∀ o : Obj, Below w3.heap.size w3 (w3.alloc o) := fun o => Below.one o
    exact ⟨w3.heap.size, g1, g2, g3, rfl, rfl, rfl, Bk.new _ _ _, (k1.below (hy _) (Nat.le_refl _)).more (hy _).size, (k2.below (hy _) (Nat.le_refl _)).more (hy _).size, (k3.below (hy _) (Nat.le_refl _)).more (hy _).size, hb1.alloc hb1.size _⟩
  case rest =>
  clear hk1 hb
  obtain ⟨n7, g1, g2, g3, rfl, rfl, rfl, hk7, k1, k2, k3, hb⟩ := hcut
  go_wp2_with fail
  go_loopw [64] (fun i wr => ∃ j : Nat, j ≤ 3 ∧ i = .int .i64 j ∧ Below wc.heap.size wc wr) (fun i _ => 3 - (intOf i).toNat)
  case atStart => exact ⟨0, by omega, rfl, Below.refl _ _⟩
  case round =>
    obtain ⟨j, hj, rfl, hbr⟩ := hrel
    have hk := hk7.below hbr hk7.lt
    have y0 := hk.at 0 rfl
    have y1 := hk.at 1 rfl
    have y2 := hk.at 2 rfl
    have y3 := hk.at 3 rfl
    have y4 := hk.at 4 rfl
    have y5 := hk.at 5 rfl
    have y6 := hk.at 6 rfl
    have y7 := hk.at 7 rfl
    have y8 := hk.at 8 rfl
    have y9 := hk.at 9 rfl
    have y10 := hk.at 10 rfl
    have y11 := hk.at 11 rfl
    simp only [List.getElem_toArray, List.getElem_cons_succ, List.getElem_cons_zero] at y0 y1 y2 y3 y4 y5 y6 y7 y8 y9 y10 y11
    rcases (show j = 0 ∨ j = 1 ∨ j = 2 ∨ j = 3 by omega) with hj1 | hj2 | hj3 | hj4
    · subst hj1
      go_wp2_with fail
      refine (answer_no 1 2 9 _ 2 [0, 6] (by decide) _ ((k1.below hbr (Nat.le_refl _)).more hbr.size |>.below (Below.one _) (Nat.le_refl _) |>.more (Below.one _).size) (by decide)).mono ?_
      rintro e w1 ⟨rfl, hx⟩
      have hb1 : Below wc.heap.size wc w1 := (hbr.alloc hbr.size _).trans (hx.mono (hbr.alloc hbr.size _).size)
      have hkp := (Bk.new wr _ _).below hx (by simp)
      clear hx
      have x0 := hkp.at 0 rfl
      have x1 := hkp.at 1 rfl
      have x2 := hkp.at 2 rfl
      have x3 := hkp.at 3 rfl
      simp only [List.getElem_toArray, List.getElem_cons_succ, List.getElem_cons_zero] at x0 x1 x2 x3
      have hlt := hkp.lt
      unfold pk0 pk
      go_wp2_with fail
      have HQ : Calls Try.prog 24 #[pk 1 2 9 (some ⟨g1, 0, none⟩) [0, 6].length 2] _ fun e w' => e = .returned (.bool true) ∧ Below _ _ w' := quiet_any 1 2 9 _ 2 [0, 6] (by decide) (w1.alloc (.cells #[.int .u16 0, .int .u16 0, .int .u32 0, .slice none 0 0] 36)) ((k1.below (hb1.alloc hb1.size _) (Nat.le_refl _)).more (hb1.alloc hb1.size _).size)
      unfold pk at HQ
      refine HQ.mono ?_
      rintro e w2 ⟨rfl, hx⟩
      have hb2 := (hb1.alloc hb1.size _).trans (hx.mono (hb1.alloc hb1.size _).size)
      clear hx x0 x1 x2 x3 HQ
      go_wp2_with fail
      go_roundw
      case rel => exact ⟨1, by omega, by go_num, hb2⟩
      case measure => simp [intOf]
    · subst hj2
      go_wp2_with fail
      refine (answer_no 1 2 0 _ 1 [1] (by decide) _ ((k2.below hbr (Nat.le_refl _)).more hbr.size |>.below (Below.one _) (Nat.le_refl _) |>.more (Below.one _).size) (by decide)).mono ?_
      rintro e w1 ⟨rfl, hx⟩
      have hb1 : Below wc.heap.size wc w1 := (hbr.alloc hbr.size _).trans (hx.mono (hbr.alloc hbr.size _).size)
      have hkp := (Bk.new wr _ _).below hx (by simp)
      clear hx
      have x0 := hkp.at 0 rfl
      have x1 := hkp.at 1 rfl
      have x2 := hkp.at 2 rfl
      have x3 := hkp.at 3 rfl
      simp only [List.getElem_toArray, List.getElem_cons_succ, List.getElem_cons_zero] at x0 x1 x2 x3
      have hlt := hkp.lt
      unfold pk0 pk
      go_wp2_with fail
      have HQ : Calls Try.prog 24 #[pk 1 2 0 (some ⟨g2, 0, none⟩) [1].length 1] _ fun e w' => e = .returned (.bool true) ∧ Below _ _ w' := quiet_any 1 2 0 _ 1 [1] (by decide) (w1.alloc (.cells #[.int .u16 0, .int .u16 0, .int .u32 0, .slice none 0 0] 36)) ((k2.below (hb1.alloc hb1.size _) (Nat.le_refl _)).more (hb1.alloc hb1.size _).size)
      unfold pk at HQ
      refine HQ.mono ?_
      rintro e w2 ⟨rfl, hx⟩
      have hb2 := (hb1.alloc hb1.size _).trans (hx.mono (hb1.alloc hb1.size _).size)
      clear hx x0 x1 x2 x3 HQ
      go_wp2_with fail
      go_roundw
      case rel => exact ⟨2, by omega, by go_num, hb2⟩
      case measure => simp [intOf]
    · subst hj3
      go_wp2_with fail
      refine (answer_no 1 2 9 _ 1 [11] (by decide) _ ((k3.below hbr (Nat.le_refl _)).more hbr.size |>.below (Below.one _) (Nat.le_refl _) |>.more (Below.one _).size) (by decide)).mono ?_
      rintro e w1 ⟨rfl, hx⟩
      have hb1 : Below wc.heap.size wc w1 := (hbr.alloc hbr.size _).trans (hx.mono (hbr.alloc hbr.size _).size)
      have hkp := (Bk.new wr _ _).below hx (by simp)
      clear hx
      have x0 := hkp.at 0 rfl
      have x1 := hkp.at 1 rfl
      have x2 := hkp.at 2 rfl
      have x3 := hkp.at 3 rfl
      simp only [List.getElem_toArray, List.getElem_cons_succ, List.getElem_cons_zero] at x0 x1 x2 x3
      have hlt := hkp.lt
      unfold pk0 pk
      go_wp2_with fail
      have HQ : Calls Try.prog 24 #[pk 1 2 9 (some ⟨g3, 0, none⟩) [11].length 1] _ fun e w' => e = .returned (.bool true) ∧ Below _ _ w' := quiet_any 1 2 9 _ 1 [11] (by decide) (w1.alloc (.cells #[.int .u16 0, .int .u16 0, .int .u32 0, .slice none 0 0] 36)) ((k3.below (hb1.alloc hb1.size _) (Nat.le_refl _)).more (hb1.alloc hb1.size _).size)
      unfold pk at HQ
      refine HQ.mono ?_
      rintro e w2 ⟨rfl, hx⟩
      have hb2 := (hb1.alloc hb1.size _).trans (hx.mono (hb1.alloc hb1.size _).size)
      clear hx x0 x1 x2 x3 HQ
      go_wp2_with fail
      go_roundw
      case rel => exact ⟨3, by omega, by go_num, hb2⟩
      case measure => simp [intOf]
    · subst hj4
      go_wp2_with fail
      go_ret
      exact ⟨rfl, hb.trans (hbr.mono hb.size)⟩
end Go.Proofs.Ytefdedjnkmpkjaa
