/- New blocks, loads and stores on related memories. No conditions. -/
import Derived.Test.YtmelgnpogdilgaaAbsB
namespace Go.Proofs.Ytmelgnpogdilgaa
set_option linter.unusedVariables false

theorem HRel.ext {P : Program} {m : Mp} {D : Nat → Prop} {h h' : AHeap} {w : World} (H : HRel P m D h w) (hn : h'.n = h.n) (hg : ∀ j, h'.get j = h.get j) : HRel P m D h' w :=
  ⟨H.lt, fun i l c t a b => H.typ i l c t a (by rw [← hg]; exact b), fun i j l k a b c d e => H.inj i j l k a b (by rw [← hg]; exact c) (AHeap.live_eq (hg j) d) e, fun i l c a b => H.roS i l c a (by rw [← hg]; exact b), fun i l o a b c => H.obj i l o a b (by rw [← hg]; exact c)⟩
theorem HRel.sub {P : Program} {m : Mp} {D D' : Nat → Prop} {h : AHeap} {w : World} (H : HRel P m D h w) (hd : ∀ i, D' i → D i) : HRel P m D' h w :=
  ⟨H.lt, H.typ, H.inj, H.roS, fun i l o a b c => H.obj i l o (hd i a) b c⟩
/-- Only the heap counts. -/
theorem HRel.world {P : Program} {m : Mp} {D : Nat → Prop} {h : AHeap} {w w' : World} (H : HRel P m D h w) (e : w'.heap = w.heap) : HRel P m D h w' :=
  ⟨by rw [e]; exact H.lt, H.typ, H.inj, H.roS, by rw [e]; exact H.obj⟩
theorem alloc_size (w : World) (o : Obj) : (w.alloc o).heap.size = w.heap.size + 1 := Array.size_push _
theorem alloc_get (w : World) (o : Obj) (k : Nat) : (w.alloc o).heap[k]? = if k = w.heap.size then some o else w.heap[k]? := Array.getElem?_push
def upd (m : Mp) (i : Nat) (l : Loc) : Mp := fun j => if j = i then some l else m j
@[simp] theorem upd_same (m : Mp) (i : Nat) (l : Loc) : upd m i l i = some l := by simp [upd]
theorem upd_ne (m : Mp) {i j : Nat} (l : Loc) (h : j ≠ i) : upd m i l j = m j := by simp [upd, h]
theorem upd_le {m : Mp} {i : Nat} {l : Loc} (h : m i = none) : m.le (upd m i l) := fun j k e => by
  by_cases hj : j = i
  · subst hj; rw [h] at e; cases e
  · rw [upd_ne m l hj]; exact e
theorem AFr.push (W : Nat → Prop) (h : AHeap) (o : AObj) : AFr W h (h.push o) :=
  ⟨by simp, fun i hi _ => h.get_push_ne o (by omega), fun i c t hi e => ⟨c, by rw [h.get_push_ne o (by omega)] at e; exact e, rfl⟩, fun i hi e => by rw [h.get_push_ne o (by omega)] at e; exact e, fun i hi e => AHeap.live_eq (h.get_push_ne o (by omega)) e, fun i c hi e => by rw [h.get_push_ne o (by omega)] at e; exact e⟩
theorem AFr.put {W : Nat → Prop} (h : AHeap) {i : Nat} (hw : W i) {c c' : List Value} {t : TypeId} (hg : h.get i = some (.cells c t)) (hl : c'.length = c.length) : AFr W h (h.put i (some (.cells c' t))) :=
  ⟨by simp, fun j _ hj => h.get_put_ne _ (fun e => hj (e ▸ hw)), fun j d u hj e => by
    by_cases hij : i = j
    · subst hij; rw [h.get_put_same (AHeap.lt hg)] at e; cases e; exact ⟨c, hg, hl.symm⟩
    · rw [h.get_put_ne _ hij] at e; exact ⟨d, e, rfl⟩, fun j hj e => by
    by_cases hij : i = j
    · subst hij; rw [hg]; simp
    · rwa [h.get_put_ne _ hij] at e, fun j hj e => by
    by_cases hij : i = j
    · subst hij; exact AHeap.live_of hg rfl
    · exact AHeap.live_eq (h.get_put_ne _ hij) e, fun j d hj e => by
    by_cases hij : i = j
    · subst hij; rw [h.get_put_same (AHeap.lt hg)] at e; cases e
    · rwa [h.get_put_ne _ hij] at e⟩
section
variable {P : Program} {m : Mp} {D W : Nat → Prop} {h : AHeap} {w : World}
/-- A new block. -/
theorem HRel.alloc (H : HRel P m D h w) (hf : m h.n = none) {o : AObj} {o' : Obj} {l : Loc} (hb : l.b = w.heap.size) (ht : ∀ c t, o = .cells c t → sizeT P t = some l.sz ∧ c.length = l.A) (ho : ORel P (upd m h.n l) l o o') (hro : o.isRo = false := by rfl) : HRel P (upd m h.n l) D (h.push o) (w.alloc o') where
  lt i k e := by
    by_cases hi : i = h.n
    · subst hi; rw [upd_same] at e; cases e; rw [alloc_size]; omega
    · rw [upd_ne m l hi] at e; have := H.lt i k e; rw [alloc_size]; omega
  typ i k c t e g := by
    by_cases hn : i = h.n
    · subst hn; rw [upd_same] at e; cases e; rw [h.get_push_same] at g; cases g; exact ht c t rfl
    · rw [upd_ne m l hn] at e; rw [h.get_push_ne o (Ne.symm hn)] at g
      exact H.typ i k c t e g
  inj i j l₁ l₂ e₁ e₂ g₁ g₂ e := by
    by_cases hi : i = h.n
    · by_cases hj : j = h.n
      · omega
      · subst hi; rw [upd_same] at e₁; cases e₁; rw [upd_ne m l hj] at e₂; have := H.lt j _ e₂; omega
    · by_cases hj : j = h.n
      · subst hj; rw [upd_same] at e₂; cases e₂; rw [upd_ne m l hi] at e₁; have := H.lt i _ e₁; omega
      · rw [upd_ne m l hi] at e₁; rw [upd_ne m l hj] at e₂
        rw [h.get_push_ne o (Ne.symm hi)] at g₁
        exact H.inj i j _ _ e₁ e₂ g₁ (AHeap.live_eq (h.get_push_ne o (Ne.symm hj)) g₂) e
  roS i k c e g := by
    by_cases hn : i = h.n
    · subst hn; rw [h.get_push_same] at g; cases g; cases hro
    · rw [upd_ne m l hn] at e; rw [h.get_push_ne o (Ne.symm hn)] at g; exact H.roS i k c e g
  obj i k x hd e g := by
    by_cases hi : i = h.n
    · subst hi; rw [upd_same] at e; cases e; rw [h.get_push_same] at g; cases g
      exact ⟨o', by rw [alloc_get, if_pos hb], ho⟩
    · rw [upd_ne m l hi] at e; rw [h.get_push_ne o (Ne.symm hi)] at g
      obtain ⟨x', a, b⟩ := H.obj i k x hd e g
      have hlt := H.lt i k e
      exact ⟨x', by rw [alloc_get, if_neg (by omega)]; exact a, b.mono (upd_le hf)⟩
theorem Fr.alloc (m : Mp) (W : Nat → Prop) (h : AHeap) (o : AObj) (w : World) (o' : Obj) (l : Loc) (hb : l.b = w.heap.size) : Fr m (upd m h.n l) W h (h.push o) w (w.alloc o') where
  old i hi := upd_ne m l (by simp at hi; omega)
  new i k h1 h2 e := by
    simp at h2
    obtain rfl : i = h.n := by omega
    rw [upd_same] at e; cases e; exact .inl (by omega)
  keep b hb _ := by rw [alloc_get, if_neg (by omega)]
  size := by rw [alloc_size]; omega
  os := rfl
  tape := rfl
  output := rfl
theorem FzOk.not {t : TypeId} {n : Nat} {fz : Nat × Nat} (hf : FzOk P t n fz) {i : Nat} (hi : i < n) : (fz.1 ≤ i && i < fz.2) = false := by
  rcases hf with rfl | ⟨_, rfl⟩
  · simp
  · simp; omega
theorem HRel.cells (H : HRel P m D h w) {i : Nat} {l : Loc} {c : List Value} {t : TypeId} (hd : D i) (hm : m i = some l) (hg : h.get i = some (.cells c t)) :
    ∃ c' fz, w.heap[l.b]? = some (.cells c' t fz) ∧ SzOk l c.length c'.size ∧ FzOk P t c'.size fz ∧ ∀ (i : Nat) v, c[i]? = some v → ∃ v', c'[i + l.sh]? = some v' ∧ VRel m v v' := by
  obtain ⟨o', a, b⟩ := H.obj i l _ hd hm hg
  cases b with
  | cells hs hf hv => exact ⟨_, _, a, hs, hf, hv⟩
theorem HRel.cell (H : HRel P m D h w) {i : Nat} {l : Loc} {c : List Value} {t : TypeId} (hd : D i) (hm : m i = some l) (hg : h.get i = some (.cells c t)) {o : Nat} {v : Value} (hv : c[o]? = some v) :
    ∃ v', w.cell? ⟨l.b, o + l.sh, none⟩ = some v' ∧ VRel m v v' ∧ w.frozen? ⟨l.b, o + l.sh, none⟩ = false := by
  obtain ⟨c', fz, a, hs, hf, hc⟩ := H.cells hd hm hg
  obtain ⟨v', b, r⟩ := hc o v hv
  have hlt : o + l.sh < c'.size := (Array.getElem?_eq_some_iff.1 b).1
  exact ⟨v', by simp [World.cell?, a, b], r, by simp only [World.frozen?, a]; exact hf.not hlt⟩
theorem addr_add (b o n : Nat) : (⟨b, o, none⟩ : Addr).add n = ⟨b, o + n, none⟩ := by
  unfold Addr.add
  split
  · rename_i e; subst e; rfl
  · rfl
theorem HRel.loadFrom (H : HRel P m D h w) {i : Nat} {l : Loc} {c : List Value} {t : TypeId} (hd : D i) (hm : m i = some l) (hg : h.get i = some (.cells c t)) (o : Nat) : ∀ (n k : Nat) (acc : List Value) (acc' : Array Value), ARel m acc.toArray acc' → o + k + n ≤ c.length →
    ∃ cs, (loadCellsFrom ⟨l.b, o + l.sh, none⟩ k n acc').run P w = .ok cs w ∧ ARel m (acc ++ (c.drop (o + k)).take n).toArray cs
  | 0, k, acc, acc', ha, _ => ⟨acc', by simp [loadCellsFrom], by simpa using ha⟩
  | n + 1, k, acc, acc', ha, hn => by
    have hlt : o + k < c.length := by omega
    obtain ⟨v', hv, hr, _⟩ := H.cell hd hm hg (List.getElem?_eq_getElem hlt)
    obtain ⟨cs, a, b⟩ := HRel.loadFrom H hd hm hg o n (k + 1) (acc ++ [c[o + k]]) (acc'.push v') (by simpa using ha.push hr) (by omega)
    refine ⟨cs, ?_, ?_⟩
    · unfold loadCellsFrom
      rw [show o + k + l.sh = o + l.sh + k from by omega] at hv
      simp [addr_add, hv, a]
    · rw [List.drop_eq_getElem_cons hlt, List.take_succ_cons]
      simpa [Nat.add_assoc] using b
theorem HRel.loadCells (H : HRel P m D h w) {i : Nat} {l : Loc} {c : List Value} {t : TypeId} (hd : D i) (hm : m i = some l) (hg : h.get i = some (.cells c t)) {o n : Nat} (hn : o + n ≤ c.length) :
    ∃ cs, (Go.loadCells ⟨l.b, o + l.sh, none⟩ n).run P w = .ok cs w ∧ ARel m ((c.drop o).take n).toArray cs := by
  obtain ⟨cs, a, b⟩ := H.loadFrom hd hm hg o n 0 [] #[] (ARel.empty m) (by omega)
  exact ⟨cs, a, by simpa using b⟩
theorem HRel.rcell (H : HRel P m D h w) {i : Nat} {l : Loc} {c : List Value} (hd : D i) (hm : m i = some l) (hg : rowOf (h.get i) = some c) {o : Nat} {v : Value} (hv : c[o]? = some v) :
    ∃ v', w.cell? ⟨l.b, o + l.sh, none⟩ = some v' ∧ VRel m v v' := by
  rcases rowOf_inv hg with ⟨t, hg⟩ | hg
  · obtain ⟨v', a, b, _⟩ := H.cell hd hm hg hv; exact ⟨v', a, b⟩
  · obtain ⟨o', a, b⟩ := H.obj i l _ hd hm hg
    cases b with
    | ro hs hc =>
      obtain ⟨v', b, r⟩ := hc o v hv
      exact ⟨v', by simp [World.cell?, a, b], r⟩
theorem HRel.rloadFrom (H : HRel P m D h w) {i : Nat} {l : Loc} {c : List Value} (hd : D i) (hm : m i = some l) (hg : rowOf (h.get i) = some c) (o : Nat) : ∀ (n k : Nat) (acc : List Value) (acc' : Array Value), ARel m acc.toArray acc' → o + k + n ≤ c.length →
    ∃ cs, (loadCellsFrom ⟨l.b, o + l.sh, none⟩ k n acc').run P w = .ok cs w ∧ ARel m (acc ++ (c.drop (o + k)).take n).toArray cs
  | 0, k, acc, acc', ha, _ => ⟨acc', by simp [loadCellsFrom], by simpa using ha⟩
  | n + 1, k, acc, acc', ha, hn => by
    have hlt : o + k < c.length := by omega
    obtain ⟨v', hv, hr⟩ := H.rcell hd hm hg (List.getElem?_eq_getElem hlt)
    obtain ⟨cs, a, b⟩ := HRel.rloadFrom H hd hm hg o n (k + 1) (acc ++ [c[o + k]]) (acc'.push v') (by simpa using ha.push hr) (by omega)
    refine ⟨cs, ?_, ?_⟩
    · unfold loadCellsFrom
      rw [show o + k + l.sh = o + l.sh + k from by omega] at hv
      simp [addr_add, hv, a]
    · rw [List.drop_eq_getElem_cons hlt, List.take_succ_cons]
      simpa [Nat.add_assoc] using b
theorem HRel.rloadCells (H : HRel P m D h w) {i : Nat} {l : Loc} {c : List Value} (hd : D i) (hm : m i = some l) (hg : rowOf (h.get i) = some c) {o n : Nat} (hn : o + n ≤ c.length) :
    ∃ cs, (Go.loadCells ⟨l.b, o + l.sh, none⟩ n).run P w = .ok cs w ∧ ARel m ((c.drop o).take n).toArray cs := by
  obtain ⟨cs, a, b⟩ := H.rloadFrom hd hm hg o n 0 [] #[] (ARel.empty m) (by omega)
  exact ⟨cs, a, by simpa using b⟩
/-- Cells that are put in the place of others. -/
def setL (c : List Value) (o : Nat) (vs : List Value) : List Value := c.take o ++ vs ++ c.drop (o + vs.length)
theorem setL_length {c vs : List Value} {o : Nat} (h : o + vs.length ≤ c.length) : (setL c o vs).length = c.length := by
  simp [setL]; omega
theorem setL_cons {c vs : List Value} {o : Nat} {v : Value} (h : o < c.length) : setL (c.set o v) (o + 1) vs = setL c o (v :: vs) := by
  simp only [setL, List.take_set, List.drop_set, List.length_cons]
  rw [if_pos (by omega), List.take_succ_eq_append_getElem h]
  rw [List.set_append_right _ _ (by simp; omega)]
  simp [Nat.min_eq_left (Nat.le_of_lt h), Nat.add_assoc, Nat.add_comm 1]
theorem oneCell_rel {v v' : Value} (h : VRel m v v') : v'.oneCell' = v.oneCell' := by cases h <;> rfl
theorem heap_setCell (w : World) (b o : Nat) (v : Value) (k : Nat) : (w.setCell ⟨b, o, none⟩ v).heap[k]? = if b = k then (w.heap[k]?).map (fun | .cells c e f => .cells (c.setIfInBounds o v) e f | o => o) else w.heap[k]? := by
  simp only [World.setCell, Array.getElem?_modify]
  split
  · rename_i e; subst e; simp; rfl
  · rfl
/-- One cell is written. -/
theorem HRel.store1 (H : HRel P m D h w) {i : Nat} {l : Loc} {c : List Value} {t : TypeId} (hd : D i) (hm : m i = some l) (hg : h.get i = some (.cells c t)) {o : Nat} {v v' : Value} (ho : o < c.length) (hr : VRel m v v') :
    HRel P m D (h.put i (some (.cells (c.set o v) t))) (w.setCell ⟨l.b, o + l.sh, none⟩ v') := by
  obtain ⟨c', fz, a, hs, hf, hc⟩ := H.cells hd hm hg
  have hsz : (w.setCell ⟨l.b, o + l.sh, none⟩ v').heap.size = w.heap.size := by simp [World.setCell]
  refine ⟨fun j k e => by rw [hsz]; exact H.lt j k e, ?_, ?_, fun j k d e g => ?_, ?_⟩
  rotate_left 2
  · by_cases hij : i = j
    · subst hij; rw [h.get_put_same (AHeap.lt hg)] at g; cases g
    · rw [h.get_put_ne _ hij] at g; exact H.roS j k d e g
  rotate_left 1
  · intro j k d u e g
    by_cases hij : i = j
    · subst hij; rw [h.get_put_same (AHeap.lt hg)] at g; cases g; have := H.typ i k c t e hg; exact ⟨this.1, by rw [List.length_set]; exact this.2⟩
    · rw [h.get_put_ne _ hij] at g; exact H.typ j k d u e g
  · intro j j' k k' e e' g g' ee
    refine H.inj j j' k k' e e' ?_ ?_ ee
    · by_cases hij : i = j
      · subst hij; rw [hg]; simp
      · rwa [h.get_put_ne _ hij] at g
    · by_cases hij : i = j'
      · subst hij; exact AHeap.live_of hg rfl
      · exact AHeap.live_eq (h.get_put_ne _ hij) g'
  · intro j k x hdj e g
    rw [heap_setCell]
    by_cases hij : i = j
    · subst hij
      rw [hm] at e; cases e
      rw [h.get_put_same (AHeap.lt hg)] at g; cases g
      rw [if_pos rfl, a]
      refine ⟨_, rfl, .cells ?_ ?_ ?_⟩
      · rw [List.length_set]; simpa [SzOk] using hs
      · simpa using hf
      · intro q u hu
        rw [List.getElem?_set] at hu
        by_cases hq : o = q
        · subst hq
          rw [if_pos rfl, if_pos ho] at hu
          cases hu
          obtain ⟨u', b, _⟩ := hc o c[o] (by simp [ho])
          have hlt : o + l.sh < c'.size := (Array.getElem?_eq_some_iff.1 b).1
          exact ⟨v', by simp [hlt], hr⟩
        · rw [if_neg hq] at hu
          obtain ⟨u', b, r⟩ := hc q u hu
          exact ⟨u', by rw [Array.getElem?_setIfInBounds_ne (by omega)]; exact b, r⟩
    · rw [h.get_put_ne _ hij] at g
      have hne : l.b ≠ k.b := fun ee => hij (H.inj j i k l e hm (by rw [g]; simp) (AHeap.live_of hg rfl) ee.symm).symm
      rw [if_neg hne]
      exact H.obj j k x hdj e g
theorem Fr.setCell {i : Nat} {l : Loc} (hW : W i) (ha : h.live i) (hi : i < h.n) (hm : m i = some l) (h' : AHeap) (hn : h'.n = h.n) (o : Nat) (v : Value) : Fr m m W h h' w (w.setCell ⟨l.b, o, none⟩ v) where
  old _ _ := rfl
  new j k h1 h2 := by omega
  keep b _ hk := by rw [heap_setCell, if_neg (hk i l hi hW ha hm)]
  size := by simp [World.setCell]
  os := rfl
  tape := rfl
  output := rfl
theorem HRel.storeL {i : Nat} {l : Loc} {t : TypeId} (hd : D i) (hW : W i) (hal : h.live i) (hi : i < h.n) (hm : m i = some l) : ∀ (vs vs' : List Value) (w : World) (c : List Value) (h₁ : AHeap) (o k : Nat), HRel P m D h₁ w → h₁.n = h.n → h₁.get i = some (.cells c t) → ARel m vs.toArray vs'.toArray → (∀ v ∈ vs, v.oneCell' = true) → o + k + vs.length ≤ c.length →
    ∃ w', (storeCells ⟨l.b, o + l.sh, none⟩ vs' k).run P w = .ok () w' ∧ HRel P m D (h₁.put i (some (.cells (setL c (o + k) vs) t))) w' ∧ Fr m m W h h w w'
  | [], vs', w, c, h₁, o, k, H, hn, hg, ha, h1, hs => by
    obtain rfl : vs' = [] := by have := ha.1; simp at this; exact List.eq_nil_of_length_eq_zero this.symm
    refine ⟨w, by simp [storeCells], H.ext rfl fun j => ?_, Fr.refl _ _ _ _⟩
    rw [AHeap.get_put]
    split
    · rename_i e; subst e; rw [if_pos (by omega), hg]; simp [setL]
    · rfl
  | v :: vs, vs', w, c, h₁, o, k, H, hn, hg, ha, h1, hs => by
    obtain ⟨v', vs', rfl⟩ : ∃ v' r, vs' = v' :: r := by
      cases vs' with
      | nil => have := ha.1; simp at this
      | cons a b => exact ⟨a, b, rfl⟩
    have hr : VRel m v v' := ha.2 0 v v' (by simp) (by simp)
    have ha' : ARel m vs.toArray vs'.toArray := ⟨by have := ha.1; simpa using this, fun q u u' e e' => ha.2 (q + 1) u u' (by simpa using e) (by simpa using e')⟩
    simp only [List.length_cons] at hs
    have hlt : o + k < c.length := by omega
    obtain ⟨u', hc, _, hfz⟩ := H.cell hd hm hg (List.getElem?_eq_getElem hlt)
    have H1 := H.store1 hd hm hg hlt hr
    obtain ⟨w', a, b, f⟩ := HRel.storeL hd hW hal hi hm vs vs' (w.setCell ⟨l.b, o + k + l.sh, none⟩ v') (c.set (o + k) v) (h₁.put i (some (.cells (c.set (o + k) v) t))) o (k + 1) H1 (by simpa using hn) (h₁.get_put_same (by omega) _) ha' (fun u hu => h1 u (List.mem_cons_of_mem _ hu)) (by simp; omega)
    refine ⟨w', ?_, b.ext rfl fun j => ?_, ?_⟩
    · unfold storeCells
      rw [show o + k + l.sh = o + l.sh + k from by omega] at hc hfz a
      simp [addr_add, run_store P w _ v' .plain (by rw [oneCell_rel hr]; exact h1 v (by simp)), hc, hfz, a]
    · simp only [AHeap.get_put]
      rw [show o + (k + 1) = o + k + 1 from by omega, setL_cons hlt]
      split <;> rfl
    · exact Fr.trans (h₁ := h) (AFr.refl _ _) (Nat.le_refl _) (Fr.setCell hW hal hi hm h rfl _ _) f
end
theorem VRel.cells {m : Mp} {v v' : Value} (h : VRel m v v') : ARel m v.cells v'.cells := by
  cases h with
  | agg h1 h3 => exact ⟨h1, h3⟩
  | _ =>
    refine ⟨rfl, fun i u u' e e' => ?_⟩
    cases i with
    | zero => simp [Value.cells] at e e'; subst e; subst e'; first | exact .bool _ | exact .int _ _ | exact .float _ _ | exact .complex _ _ _ | exact .string _ | exact .pnil | exact .ptr ‹_› | exact .snil | exact .slice ‹_› ‹_› | exact .slice0 _ _ _ | exact .mnil | exact .map ‹_› | exact .func ‹_› ‹_› ‹_› ‹_› ‹_› | exact .yield ‹_› | exact .nilFunc | exact .iface _ ‹_› | exact .nilIface | exact .tuple ‹_› ‹_›
    | succ i => simp [Value.cells] at e
end Go.Proofs.Ytmelgnpogdilgaa
