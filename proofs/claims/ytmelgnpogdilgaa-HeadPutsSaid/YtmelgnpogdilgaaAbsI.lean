/- append as an operation of the abstract heap. No conditions. -/
import Derived.Test.YtmelgnpogdilgaaAbsH
namespace Go.Proofs.Ytmelgnpogdilgaa
set_option linter.unusedVariables false
section
variable {P : Program} {D W : Nat → Prop} {o : Oper} {tm : List Value} {h : AHeap}
theorem run_storeRaw {b off : Nat} {t : TypeId} {fz : Nat × Nat} : ∀ (vs : List Value) (w : World) (c : Array Value) (k : Nat), w.heap[b]? = some (.cells c t fz) → FzOk P t c.size fz → off + k + vs.length ≤ c.size → (∀ v ∈ vs, v.oneCell' = true) →
    ∃ w', (storeCells ⟨b, off, none⟩ vs k).run P w = .ok () w' ∧ w'.heap[b]? = some (.cells (setL c.toList (off + k) vs).toArray t fz) ∧ (∀ j, j ≠ b → w'.heap[j]? = w.heap[j]?) ∧ w'.heap.size = w.heap.size ∧ w'.os = w.os ∧ w'.tape = w.tape ∧ w'.output = w.output
  | [], w, c, k, hg, hf, hl, h1 => ⟨w, by simp [storeCells], by simpa [setL] using hg, fun _ _ => rfl, rfl, rfl, rfl, rfl⟩
  | v :: vs, w, c, k, hg, hf, hl, h1 => by
    simp only [List.length_cons] at hl
    have hlt : off + k < c.size := by omega
    have hcell : w.cell? ⟨b, off + k, none⟩ = some c[off + k] := by simp [World.cell?, hg, hlt]
    have hfz : w.frozen? ⟨b, off + k, none⟩ = false := by simp only [World.frozen?, hg]; exact hf.not hlt
    have hg' : (w.setCell ⟨b, off + k, none⟩ v).heap[b]? = some (.cells (c.setIfInBounds (off + k) v) t fz) := by rw [heap_setCell, if_pos rfl, hg]; rfl
    obtain ⟨w', a, e1, e2, e3, e4, e5, e6⟩ := run_storeRaw (off := off) vs (w.setCell ⟨b, off + k, none⟩ v) _ (k + 1) hg' (by simpa using hf) (by simp; omega) (fun u hu => h1 u (List.mem_cons_of_mem _ hu))
    refine ⟨w', ?_, ?_, fun j hj => ?_, ?_, e4, e5, e6⟩
    · unfold storeCells
      simp [addr_add, run_store P w _ v .plain (h1 v (by simp)), hcell, hfz, a]
    · rw [e1, Array.toList_setIfInBounds, show off + (k + 1) = off + k + 1 from by omega, setL_cons (by simpa using hlt)]
    · rw [e2 j hj, heap_setCell, if_neg (Ne.symm hj)]
    · rw [e3]; simp [World.setCell]
theorem VRel.nil_len {m : Mp} {len cap : Nat} {v : Value} (h : VRel m (.slice none len cap) v) : len = 0 := by cases h; rfl
theorem setL_get {c vs : List Value} {o : Nat} (h : o + vs.length ≤ c.length) (i : Nat) : (setL c o vs)[i]? = if o ≤ i ∧ i < o + vs.length then vs[i - o]? else c[i]? := by
  unfold setL
  rw [List.append_assoc, List.getElem?_append]
  have hl : (c.take o).length = o := by simp; omega
  rw [hl]
  by_cases h1 : i < o
  · rw [if_pos h1, if_neg (by omega), List.getElem?_take, if_pos h1]
  · rw [if_neg h1, List.getElem?_append]
    by_cases h2 : i - o < vs.length
    · rw [if_pos h2, if_pos (by omega)]
    · rw [if_neg h2, if_neg (by omega), List.getElem?_drop]
      congr 1
      omega
def aNew (P : Program) (h : AHeap) (e : TypeId) (inf : TypeInfo) (t : TypeId) (x : Value) : Option (Nat × List Value × List Nat) :=
  match P.underlying t with
  | some (.int _) => match x with
    | .int _ i => if 0 ≤ i ∧ i ≤ 1099511627776 ∧ i * inf.bytes ≤ 281474976710656 then (aZeros P e inf.size i.toNat).map fun c => (i.toNat, c, []) else none
    | _ => none
  | some .string => match x with
    | .string s => if inf.size = 1 then (aSrc h 1 s.size x).map fun r => (s.size, r.1, r.2) else none
    | _ => none
  | some (.slice _) => match x with
    | .slice _ len _ => (aSrc h inf.size len x).map fun r => (len, r.1, r.2)
    | _ => none
  | _ => none
theorem aSrc_length {size n : Nat} {x : Value} {cs : List Value} {rd : List Nat} (he : aSrc h size n x = some (cs, rd)) (hx1 : ∀ l c, x = .slice none l c → n = 0) (hx2 : ∀ s, x = .string s → n = s.size ∧ size = 1) : cs.length = n * size := by
  unfold aSrc at he
  split at he
  · split at he
    · rename_i h0; cases he; simpa using h0.symm
    · split at he
      · split at he
        · rename_i hle; cases he; simp; omega
        · cases he
      · cases he
  · cases he; obtain rfl := hx1 _ _ rfl; simp
  · rename_i s
    cases he
    obtain ⟨e1, e2⟩ := hx2 _ rfl
    rw [e2, e1, List.length_map, List.length_take, Nat.mul_one]
    exact Nat.min_eq_left (Nat.le_refl _)
  · cases he
theorem aNew_run {e : TypeId} {inf : TypeInfo} {t : TypeId} {x : Value} {n : Nat} {new : List Value} {rd : List Nat} (hi : P.info? e = some inf) (he : aNew P h e inf t x = some (n, new, rd)) (hD : ∀ i ∈ rd, D i) {m : Mp} {w : World} (H : HRel P m D h w) {x' : Value} (ha : VRel m x x') :
    ∃ new', AppSrc P e inf.size t x' n new' w ∧ ARel m new.toArray new' := by
  unfold aNew at he
  split at he
  · rename_i k hu
    split at he
    · rename_i kk i
      split at he
      · rename_i hc
        simp only [Option.map_eq_some_iff, Prod.mk.injEq] at he
        obtain ⟨c, hz, rfl, rfl, rfl⟩ := he
        have := VRel.eq_of_flat ha rfl
        subst this
        exact ⟨c.toArray, .zeros hu hc.1 hc.2.1 hi hc.2.2 hz, (aZeros_rel hz m).1⟩
      · cases he
    · cases he
  · rename_i hu
    split at he
    · rename_i s
      split at he
      · rename_i h1
        simp only [Option.map_eq_some_iff, Prod.mk.injEq] at he
        obtain ⟨⟨cs, rd'⟩, hz, rfl, rfl, rfl⟩ := he
        obtain ⟨cs', a, b⟩ := aSrc_run hz hD H ha
        have := VRel.eq_of_flat ha rfl
        subst this
        exact ⟨cs', .cells hu (.inl rfl) (by simp [Builtin.lenOf]) (by rw [h1]; exact a), b⟩
      · cases he
    · cases he
  · rename_i e2 hu
    split at he
    · rename_i ba len cap
      simp only [Option.map_eq_some_iff, Prod.mk.injEq] at he
      obtain ⟨⟨cs, rd'⟩, hz, rfl, rfl, rfl⟩ := he
      obtain ⟨cs', a, b⟩ := aSrc_run hz hD H ha
      refine ⟨cs', .cells hu (.inr ⟨_, rfl⟩) ?_ a, b⟩
      cases ha <;> simp [Builtin.lenOf]
    · cases he
  · cases he
theorem aNew_length {e : TypeId} {inf : TypeInfo} {t : TypeId} {x : Value} {n : Nat} {new : List Value} {rd : List Nat} (he : aNew P h e inf t x = some (n, new, rd)) (hx : ∀ len cap, x = .slice none len cap → len = 0) : new.length = n * inf.size := by
  unfold aNew at he
  split at he
  · split at he
    · split at he
      · simp only [Option.map_eq_some_iff, Prod.mk.injEq] at he
        obtain ⟨c, hz, rfl, rfl, rfl⟩ := he
        exact (aZeros_rel hz fun _ => none).2
      · cases he
    · cases he
  · split at he
    · split at he
      · rename_i h1
        simp only [Option.map_eq_some_iff, Prod.mk.injEq] at he
        obtain ⟨⟨cs, rd'⟩, hz, rfl, rfl, rfl⟩ := he
        rw [h1]
        exact aSrc_length hz (fun _ _ e => by cases e) (fun _ e => by cases e; exact ⟨rfl, rfl⟩)
      · cases he
    · cases he
  · split at he
    · rename_i ba len cap
      simp only [Option.map_eq_some_iff, Prod.mk.injEq] at he
      obtain ⟨⟨cs, rd'⟩, hz, rfl, rfl, rfl⟩ := he
      exact aSrc_length hz (fun l c e => by cases e; exact hx _ _ rfl) (fun _ e => by cases e)
    · cases he
  · cases he
/-- append, the new elements' cells being given. -/
def aGrow (P : Program) (h : AHeap) (e : TypeId) (inf : TypeInfo) (n : Nat) (new : List Value) (rd : List Nat) : Value → Option (Value × AHeap × List Nat × List Nat)
  | .slice none 0 0 => if n = 0 then some (.slice none 0 0, h, rd, []) else if n ≤ 1099511627776 ∧ n * inf.bytes ≤ 140737488355328 then some (.slice (some ⟨h.n, 0, none⟩) n n, h.push (.cells new e), rd, []) else none
  | .slice (some ⟨b, o, none⟩) len cap =>
    if len + n ≤ cap then
      if new.isEmpty then some (.slice (some ⟨b, o, none⟩) (len + n) cap, h, rd, []) else
      match h.get b with
      | some (.cells c t) => if o + len * inf.size + new.length ≤ c.length ∧ new.all Value.oneCell' = true then some (.slice (some ⟨b, o, none⟩) (len + n) cap, h.put b (some (.cells (setL c (o + len * inf.size) new) t)), b :: rd, [b]) else none
      | _ => none
    else if len + n ≤ 1099511627776 ∧ (len + n) * inf.bytes ≤ 140737488355328 then
      match aSrc h inf.size len (.slice (some ⟨b, o, none⟩) len cap) with
      | some (old, rd₂) => if tight P h b o cap = false then some (.slice (some ⟨h.n, 0, none⟩) (len + n) (len + n), h.push (.cells (old ++ new) e), rd ++ rd₂, []) else
        match h.get b with
        | some (.cells c t) => if t = e ∧ o + cap * inf.size = c.length ∧ new.all Value.oneCell' = true ∧ len ≤ cap then some (.slice (some ⟨h.n, 0, none⟩) (len + n) (len + n), (h.put b none).push (.cells (old ++ new) e), b :: (rd ++ rd₂), [b]) else none
        | _ => none
      | none => none
    else none
  | _ => none
def aAppend (P : Program) (h : AHeap) (t₁ t₂ : TypeId) (s x : Value) : Option (Value × AHeap × List Nat × List Nat) :=
  match P.underlying t₁ with
  | some (.slice e) => match P.info? e with
    | some inf => match inf.zero with
      | some z => if 0 < inf.size ∧ flatB z = true ∧ z.cells.toList.length = inf.size then match aNew P h e inf t₂ x with
          | some (n, new, rd) => aGrow P h e inf n new rd s
          | none => none
        else none
      | none => none
    | none => none
  | _ => none
theorem HRel.kill {m : Mp} {w : World} (H : HRel P m D h w) (b : Nat) : HRel P m D (h.put b none) w where
  lt := H.lt
  typ i l c t e g := by
    by_cases hb : b = i
    · subst hb; rw [h.get_put_none] at g; cases g
    · rw [h.get_put_ne _ hb] at g; exact H.typ i l c t e g
  inj i j l k e₁ e₂ g₁ g₂ e := by
    refine H.inj i j l k e₁ e₂ ?_ ?_ e
    · by_cases hb : b = i
      · subst hb; rw [h.get_put_none] at g₁; exact absurd rfl g₁
      · rwa [h.get_put_ne _ hb] at g₁
    · by_cases hb : b = j
      · subst hb; exact absurd (h.get_put_none b) g₂.ne
      · exact AHeap.live_eq (h.get_put_ne _ hb) g₂
  roS i l c e g := by
    by_cases hb : b = i
    · subst hb; rw [h.get_put_none] at g; cases g
    · rw [h.get_put_ne _ hb] at g; exact H.roS i l c e g
  obj i l x hd e g := by
    by_cases hb : b = i
    · subst hb; rw [h.get_put_none] at g; cases g
    · rw [h.get_put_ne _ hb] at g; exact H.obj i l x hd e g
theorem AFr.killPush {b : Nat} (hW : W b) (a : AObj) : AFr W h ((h.put b none).push a) where
  n := by simp
  get i hi hn := by
    rw [AHeap.get_push_ne _ a (by simp; omega), h.get_put_ne _ (show b ≠ i from fun e => hn (e ▸ hW))]
  typ i c t hi e := by
    rw [AHeap.get_push_ne _ a (by simp; omega)] at e
    by_cases hb : b = i
    · subst hb; rw [h.get_put_none] at e; cases e
    · rw [h.get_put_ne _ hb] at e; exact ⟨c, e, rfl⟩
  alive i hi e := by
    rw [AHeap.get_push_ne _ a (by simp; omega)] at e
    by_cases hb : b = i
    · subst hb; rw [h.get_put_none] at e; exact absurd rfl e
    · rwa [h.get_put_ne _ hb] at e
  live i hi e := by
    have e := AHeap.live_eq (AHeap.get_push_ne (h.put b none) a (show (h.put b none).n ≠ i from by simp; omega)) e
    by_cases hb : b = i
    · subst hb; exact absurd (h.get_put_none b) e.ne
    · exact AHeap.live_eq (h.get_put_ne _ hb) e
  roT i c hi e := by
    rw [AHeap.get_push_ne _ a (by simp; omega)] at e
    by_cases hb : b = i
    · subst hb; rw [h.get_put_none] at e; cases e
    · rwa [h.get_put_ne _ hb] at e
/-- A grown row: more room than is told. -/
theorem HRel.grown {m : Mp} {w : World} (H : HRel P m D h w) (hf : m h.n = none) {c : List Value} {c' rest : Array Value} {t : TypeId} {sz slk : Nat} (ht : sizeT P t = some sz) (hc : ARel m c.toArray c') (hr : slk * sz ≤ rest.size) :
    HRel P (upd m h.n (locNew w sz c.length slk)) D (h.push (.cells c t)) (w.alloc (.cells (c' ++ rest) t (0, 0))) := by
  have hl : c.length = c'.size := by simpa using hc.1
  refine H.alloc hf rfl (fun d u e => by cases e; exact ⟨ht, rfl⟩) (.cells ⟨rfl, ?_⟩ (.inl rfl) fun i v e => ?_)
  · simp [locNew, hl]; omega
  · obtain ⟨v', a, b⟩ := hc.get (v := v) (by simpa using e)
    have hlt : i < c'.size := (Array.getElem?_eq_some_iff.1 a).1
    exact ⟨v', by simp only [locNew, Nat.add_zero, Array.getElem?_append, if_pos hlt]; exact a, b.mono (upd_le hf)⟩
/-- The grown row lies in the old block: the model had room. -/
theorem HRel.inPlace {m : Mp} {w w' : World} (H : HRel P m D h w) (hf : m h.n = none) {b : Nat} {l : Loc} (hm : m b = some l) {c : List Value} {t e : TypeId} (hg : h.get b = some (.cells c t)) (hd : D b)
    {c' : Array Value} {fz : Nat × Nat} (hw : w'.heap[l.b]? = some (.cells c' e fz)) (hfz : FzOk P e c'.size fz) (hoth : ∀ j, j ≠ l.b → w'.heap[j]? = w.heap[j]?) (hsz : w'.heap.size = w.heap.size)
    {l' : Loc} (hl : l'.b = l.b) (ht : sizeT P e = some l'.sz) {r : List Value} (hr : r.length = l'.A) (hroom : l'.sh + l'.A + l'.slk * l'.sz ≤ c'.size) (hv : ∀ (i : Nat) v, r[i]? = some v → ∃ v', c'[i + l'.sh]? = some v' ∧ VRel m v v') :
    HRel P (upd m h.n l') D ((h.put b none).push (.cells r e)) w' where
  lt i k e := by
    rw [hsz]
    by_cases hi : i = h.n
    · subst hi; rw [upd_same] at e; cases e; rw [hl]; exact H.lt b l hm
    · rw [upd_ne m l' hi] at e; exact H.lt i k e
  typ i k d u e g := by
    by_cases hn : i = h.n
    · subst hn; rw [upd_same] at e; cases e
      have : (AHeap.push (h.put b none) (.cells r e)).get h.n = some (.cells r e) := AHeap.get_push_same (h.put b none) _
      rw [this] at g; cases g; exact ⟨ht, hr⟩
    · rw [upd_ne m l' hn] at e; rw [AHeap.get_push_ne (h.put b none) _ (by simp; omega)] at g
      exact (H.kill b).typ i k d u e g
  inj i j l₁ l₂ e₁ e₂ g₁ g₂ ee := by
    have key : ∀ i k, i ≠ h.n → m i = some k → ((h.put b none).push (.cells r e)).get i ≠ none → k.b ≠ l.b := fun i k hi e g ek => by
      rw [AHeap.get_push_ne (h.put b none) _ (by simp; omega)] at g
      have hb : b ≠ i := fun x => by subst x; rw [h.get_put_none] at g; exact g rfl
      rw [h.get_put_ne _ hb] at g
      exact hb (H.inj i b k l e hm g (AHeap.live_of hg rfl) ek).symm
    by_cases hi : i = h.n
    · by_cases hj : j = h.n
      · omega
      · rw [hi, upd_same] at e₁; cases e₁; rw [upd_ne m l' hj] at e₂
        exact absurd (ee.symm.trans hl) (key j _ hj e₂ g₂.ne)
    · by_cases hj : j = h.n
      · rw [hj, upd_same] at e₂; cases e₂; rw [upd_ne m l' hi] at e₁
        exact absurd (ee.trans hl) (key i _ hi e₁ g₁)
      · rw [upd_ne m l' hi] at e₁; rw [upd_ne m l' hj] at e₂
        rw [AHeap.get_push_ne (h.put b none) _ (by simp; omega)] at g₁
        exact (H.kill b).inj i j _ _ e₁ e₂ g₁ (AHeap.live_eq (AHeap.get_push_ne (h.put b none) _ (by simp; omega)) g₂) ee
  roS i k d ei g := by
    by_cases hi : i = h.n
    · have : (AHeap.push (h.put b none) (.cells r e)).get h.n = some (.cells r e) := AHeap.get_push_same (h.put b none) _
      rw [hi, this] at g; cases g
    · rw [upd_ne m l' hi] at ei; rw [AHeap.get_push_ne (h.put b none) _ (by simp; omega)] at g
      exact (H.kill b).roS i k d ei g
  obj i k x hdi e g := by
    by_cases hi : i = h.n
    · rw [hi, upd_same] at e; cases e
      have : (AHeap.push (h.put b none) (.cells r e)).get h.n = some (.cells r e) := AHeap.get_push_same (h.put b none) _
      rw [hi, this] at g; cases g
      rw [hl]
      exact ⟨_, hw, .cells ⟨hr, hroom⟩ hfz fun q v hq => let ⟨v', a, b⟩ := hv q v hq; ⟨v', a, b.mono (upd_le hf)⟩⟩
    · rw [upd_ne m l' hi] at e
      rw [AHeap.get_push_ne (h.put b none) _ (by simp; omega)] at g
      have hb : b ≠ i := fun y => by subst y; rw [h.get_put_none] at g; cases g
      rw [h.get_put_ne _ hb] at g
      have hne : k.b ≠ l.b := fun ek => hb (H.inj i b k l e hm (by rw [g]; simp) (AHeap.live_of hg rfl) ek).symm
      rw [hoth _ hne]
      obtain ⟨x', a, b⟩ := H.obj i k x hdi e g
      exact ⟨x', a, b.mono (upd_le hf)⟩
end
end Go.Proofs.Ytmelgnpogdilgaa
