/- What comes in: arguments of plain data, on an abstract heap of rows that are only read. No conditions. -/
import Derived.Test.YtmelgnpogdilgaaSymN
import Derived.ProofKit
import Derived.OpenShut
import Derived.ChangeOld
import Derived.Deep.Slices
namespace Go.Proofs.Ytmelgnpogdilgaa
set_option linter.unusedVariables false
open Go.RowKit
/-- Data without pointers, maps, functions. -/
def tileB (P : Program) : List Field → Nat → Nat → Bool
  | [], off, total => Nat.beq off total
  | f :: r, off, total => Nat.beq f.offset off && tileB P r (off + P.cellsOf f.type) total
def plainB (P : Program) : Nat → TypeId → Bool
  | 0, _ => false
  | f + 1, t => match P.underlying t with
    | some .bool | some (.int _) | some .string => Nat.beq (P.cellsOf t) 1
    | some (.slice e) => Nat.beq (P.cellsOf t) 1 && Nat.ble 1 (P.cellsOf e) && plainB P f e
    | some (.struct fs) => tileB P fs.toList 0 (P.cellsOf t) && fs.toList.all fun x => plainB P f x.type
    | _ => false
/-- Cells of a type read as data. -/
inductive ARd (P : Program) (h : AHeap) {H : Type} : TypeId → List Value → DataW H → Prop
  | bool {t : TypeId} {b : Bool} (hu : P.underlying t = some .bool) : ARd P h t [.bool b] (.lit (.bool b))
  | int {t : TypeId} {k : IntKind} {n : Int} (hu : P.underlying t = some (.int k)) (hw : (Lit.int k n).wf = true) : ARd P h t [.int k n] (.lit (.int k n))
  | str {t : TypeId} {s : ByteArray} (hu : P.underlying t = some .string) (hm : s.size ≤ maxLen) : ARd P h t [.string s] (.lit (.string s.data.toList))
  | snil {t e : TypeId} (hu : P.underlying t = some (.slice e)) : ARd P h t [.slice none 0 0] .nil
  | slice {t e : TypeId} {a : Addr} {len cap : Nat} {c : List Value} {ds rest : List (DataW H)} (hu : P.underlying t = some (.slice e)) (hR : Rv P h (P.cellsOf e) (some a) len cap c) (hm : cap ≤ maxLen) (hl : ds.length = len) (he : ∀ (i : Nat) (d : DataW H), ds[i]? = some d → ARd P h e ((c.drop (i * P.cellsOf e)).take (P.cellsOf e)) d) : ARd P h t [.slice (some a) len cap] (.slice ds rest)
  | struct {t : TypeId} {fs : Array Field} {cs : List Value} {xs : List (DataW H)} (hu : P.underlying t = some (.struct fs)) (hl : cs.length = P.cellsOf t) (hx : xs.length = fs.size) (hf : ∀ (i : Nat) (f : Field) (d : DataW H), fs[i]? = some f → xs[i]? = some d → ARd P h f.type ((cs.drop f.offset).take (P.cellsOf f.type)) d) : ARd P h t cs (.agg xs)
theorem ARd.same {P : Program} {h h' : AHeap} {H : Type} {t : TypeId} {cs : List Value} {d : DataW H} (k : ARd P h t cs d) (s : Same h h') : ARd P h' t cs d := by
  induction k with
  | bool hu => exact .bool hu
  | int hu hw => exact .int hu hw
  | str hu hm => exact .str hu hm
  | snil hu => exact .snil hu
  | slice hu hR hm hl _ ih => exact .slice hu (hR.same s) hm hl ih
  | struct hu hl hx _ ih => exact .struct hu hl hx ih
/-- An abstract heap of rows that are only read, beside a world. -/
structure Im (P : Program) (W : World) (m : Mp) (h : AHeap) : Prop where
  rel : HRel P m Ev h W
  dom : ∀ i, h.n ≤ i → m i = none
  dead : ∀ i, ¬ h.live i
theorem Im.empty (P : Program) (W : World) : Im P W (fun _ => none) emptyH := ⟨hrel_empty P Ev W, fun _ _ => rfl, fun i ⟨o, e, _⟩ => by have := AHeap.lt e; exact absurd this (Nat.not_lt_zero i)⟩
theorem not_live_ro {h : AHeap} (hd : ∀ i, ¬ h.live i) (c : List Value) : ∀ i, ¬ (h.push (.ro c)).live i := fun i ⟨o, e, ho⟩ => by
  rw [AHeap.get_push] at e
  split at e
  · cases e; cases ho
  · exact hd i ⟨o, e, ho⟩
section
variable {P : Program} {W : World} {m : Mp} {h : AHeap}
theorem Im.add (I : Im P W m h) {l : Loc} {c : List Value} {c' : Array Value} {t : TypeId} {fz : Nat × Nat} (hs : l.slk = 0) (hw : W.heap[l.b]? = some (.cells c' t fz)) (hc : ∀ (i : Nat) v, c[i]? = some v → ∃ v', c'[i + l.sh]? = some v' ∧ VRel m v v') : Im P W (upd m h.n l) (h.push (.ro c)) := by
  have hn : m h.n = none := I.dom _ (Nat.le_refl _)
  have hlb : l.b < W.heap.size := (Array.getElem?_eq_some_iff.1 hw).1
  refine ⟨⟨fun i k e => ?_, fun i k d u e g => ?_, fun i j l₁ l₂ e₁ e₂ g₁ g₂ _ => absurd g₂ (not_live_ro I.dead c j), fun i k d e g => ?_, fun i k o _ e g => ?_⟩, fun i hi => ?_, not_live_ro I.dead c⟩
  · by_cases hi : i = h.n
    · subst hi; rw [upd_same] at e; cases e; exact hlb
    · rw [upd_ne m l hi] at e; exact I.rel.lt i k e
  · rw [AHeap.get_push] at g
    split at g
    · cases g
    · exact absurd ⟨_, g, rfl⟩ (I.dead i)
  · by_cases hi : i = h.n
    · subst hi; rw [upd_same] at e; cases e; exact hs
    · rw [upd_ne m l hi] at e; rw [AHeap.get_push_ne _ _ (Ne.symm hi)] at g; exact I.rel.roS i k d e g
  · by_cases hi : i = h.n
    · subst hi; rw [upd_same] at e; cases e; rw [AHeap.get_push_same] at g; cases g
      exact ⟨_, hw, .ro hs fun i v hv => let ⟨v', a, b⟩ := hc i v hv; ⟨v', a, b.mono (upd_le hn)⟩⟩
    · rw [upd_ne m l hi] at e; rw [AHeap.get_push_ne _ _ (Ne.symm hi)] at g
      obtain ⟨o', a, b⟩ := I.rel.obj i k o trivial e g
      exact ⟨o', a, b.mono (upd_le hn)⟩
  · simp at hi
    rw [upd_ne m l (by omega)]; exact I.dom i (by omega)
theorem Im.add0 (I : Im P W m h) (c : List Value) : Im P W m (h.push (.ro c)) := by
  have hn : m h.n = none := I.dom _ (Nat.le_refl _)
  have hne : ∀ i k, m i = some k → i ≠ h.n := fun i k e hi => by subst hi; rw [hn] at e; cases e
  refine ⟨⟨I.rel.lt, fun i k d u e g => ?_, fun i j l₁ l₂ e₁ e₂ g₁ g₂ _ => absurd g₂ (not_live_ro I.dead c j), fun i k d e g => ?_, fun i k o _ e g => ?_⟩, fun i hi => ?_, not_live_ro I.dead c⟩
  · rw [AHeap.get_push_ne _ _ (Ne.symm (hne i k e))] at g; exact I.rel.typ i k d u e g
  · rw [AHeap.get_push_ne _ _ (Ne.symm (hne i k e))] at g; exact I.rel.roS i k d e g
  · rw [AHeap.get_push_ne _ _ (Ne.symm (hne i k e))] at g; exact I.rel.obj i k o trivial e g
  · simp at hi
    exact I.dom i (by omega)
theorem ARel.single {m : Mp} {v v' : Value} (h : VRel m v v') : ARel m [v].toArray [v'].toArray := ⟨rfl, fun i u u' e e' => by
  cases i with
  | zero => simp at e e'; subst e e'; exact h
  | succ i => simp at e⟩
theorem plainB_bool {f : Nat} {t : TypeId} (h : plainB P f t = true) : ∃ n, f = n + 1 := by
  cases f with
  | zero => cases h
  | succ n => exact ⟨n, rfl⟩
theorem block_of_cell {W : World} {b off : Nat} {v : Value} (h : W.cell? ⟨b, off, none⟩ = some v) : ∃ c' t fz, W.heap[b]? = some (.cells c' t fz) ∧ ∀ k u, W.cell? ⟨b, k, none⟩ = some u → c'[k]? = some u := by
  unfold World.cell? at h
  split at h
  · rename_i c t fz hc
    exact ⟨c, t, fz, hc, fun k u hk => by simpa [World.cell?, hc] using hk⟩
  · cases h
theorem ARel.cat {m : Mp} {a b a' b' : List Value} (h : ARel m a.toArray a'.toArray) (k : ARel m b.toArray b'.toArray) : ARel m (a ++ b).toArray (a' ++ b').toArray := by
  have := h.append k
  simpa using this
theorem ARel.len {m : Mp} {a a' : List Value} (h : ARel m a.toArray a'.toArray) : a.length = a'.length := by simpa using h.1
/-- Whatever plain data comes in: rows that are only read, that are like it. -/
theorem imp {H : Type} {enc : TypeId × Value → H} : ∀ (f fuel : Nat) (t : TypeId) (cs' : List Value) (d : DataW H) (ps : List MemPlace), plainB P f t = true → DataW.trod enc P W 0 (fun _ => true) true fuel t cs' = some (d, ps) → ∀ (m : Mp) (h : AHeap), Im P W m h →
    ∃ m' h' cs, Im P W m' h' ∧ m.le m' ∧ Same h h' ∧ ARel m' cs.toArray cs'.toArray ∧ ARd P h' t cs d ∧ cs.length = P.cellsOf t
  | 0, fuel, t, cs', d, ps, hp, hd => by cases hp
  | f + 1, fuel, t, cs', d, ps, hp, hd => fun m h I => by
    unfold plainB at hp
    split at hp
    · rename_i hu
      obtain ⟨b, rfl, e⟩ := DataW.trod_bool hu hd
      cases e
      exact ⟨m, h, _, I, .refl m, .refl h, .single (.bool b), .bool hu, (Nat.eq_of_beq_eq_true hp).symm⟩
    · rename_i k hu
      obtain ⟨n, rfl, e, hw⟩ := DataW.trod_int hu hd
      cases e
      exact ⟨m, h, _, I, .refl m, .refl h, .single (.int k n), .int hu hw, (Nat.eq_of_beq_eq_true hp).symm⟩
    · rename_i hu
      obtain ⟨s, rfl, e, hm⟩ := DataW.trod_string hu hd
      cases e
      exact ⟨m, h, _, I, .refl m, .refl h, .single (.string s), .str hu hm, (Nat.eq_of_beq_eq_true hp).symm⟩
    · rename_i e hu
      simp only [Bool.and_eq_true] at hp
      obtain ⟨⟨hp1, hp2⟩, hp3⟩ := hp
      have hsz : 1 ≤ P.cellsOf e := Nat.le_of_ble_eq_true hp2
      have h1 : 1 = P.cellsOf t := (Nat.eq_of_beq_eq_true hp1).symm
      rcases Go.Deep.open_slice hu hd with ⟨rfl, ex⟩ | ⟨a, len, cap, mm, n, D, Pl, rfl, _, hl, hm, hmm, ex, hi⟩
      · cases ex
        exact ⟨m, h, _, I, .refl m, .refl h, .single .snil, .snil hu, h1⟩
      · simp only [if_true] at hmm
        rw [hmm] at ex hi
        cases ex
        -- the elements, one by one
        have elems : ∀ k, k ≤ len → ∃ (m' : Mp) (h' : AHeap) (c : List Value), Im P W m' h' ∧ m.le m' ∧ Same h h' ∧ c.length = k * P.cellsOf e ∧ (∀ (q : Nat) v, c[q]? = some v → ∃ v', W.cell? (a.add q) = some v' ∧ VRel m' v v') ∧ ∀ i, i < k → ARd P h' e ((c.drop (i * P.cellsOf e)).take (P.cellsOf e)) (D i) := by
          intro k
          induction k with
          | zero => exact fun _ => ⟨m, h, [], I, .refl m, .refl h, by simp, fun q v e => by simp at e, fun i hi => by omega⟩
          | succ k ih =>
            intro hk
            obtain ⟨m₁, h₁, c₁, I₁, l₁, s₁, n₁, r₁, a₁⟩ := ih (by omega)
            obtain ⟨cs₂, hc, ht⟩ := hi k (by omega)
            obtain ⟨_, hlen, hat⟩ := World.cells?_some hc
            obtain ⟨m₂, h₂, c₂, I₂, l₂, s₂, r₂, a₂, n₂⟩ := imp f n e cs₂ (D k) (Pl k) hp3 ht m₁ h₁ I₁
            refine ⟨m₂, h₂, c₁ ++ c₂, I₂, l₁.trans l₂, s₁.trans s₂, by rw [List.length_append, n₁, n₂, Nat.add_mul, Nat.one_mul], fun q v hq => ?_, fun i hik => ?_⟩
            · rw [List.getElem?_append] at hq
              split at hq
              · obtain ⟨v', x, y⟩ := r₁ q v hq
                exact ⟨v', x, y.mono l₂⟩
              · rename_i hge
                obtain ⟨v', x, y⟩ := r₂.get (i := q - c₁.length) (v := v) (by simpa using hq)
                have hlt : q - c₁.length < P.cellsOf e := by rw [← n₂]; exact (List.getElem?_eq_some_iff.1 hq).1
                refine ⟨v', ?_, y⟩
                have := hat _ hlt
                rw [n₁] at this hge x
                rw [Addr.add_add] at this
                rw [show k * P.cellsOf e + (q - k * P.cellsOf e) = q from by omega] at this
                rw [this]
                simpa using x
            · rcases Nat.lt_or_ge i k with hlt | hge
              · have m1 : (i + 1) * P.cellsOf e ≤ k * P.cellsOf e := Nat.mul_le_mul_right _ hlt
                rw [Nat.add_mul, Nat.one_mul] at m1
                rw [List.drop_append_of_le_length (by omega), List.take_append_of_le_length (by simp; omega)]
                exact (a₁ i hlt).same s₂
              · have : i = k := by omega
                subst this
                rw [← n₁, List.drop_left, ← n₂, List.take_length]
                exact a₂
        obtain ⟨m₁, h₁, c, I₁, l₁, s₁, n₁, r₁, a₁⟩ := elems len (Nat.le_refl _)
        have fin : ∀ (h₂ : AHeap) (m₂ : Mp) (a' : Addr), Im P W m₂ h₂ → m₁.le m₂ → Same h₁ h₂ → VRel m₂ (.slice (some a') len cap) (.slice (some a) len cap) → Rv P h₂ (P.cellsOf e) (some a') len cap c → ∃ (m' : Mp) (h' : AHeap) (cs : List Value), Im P W m' h' ∧ m.le m' ∧ Same h h' ∧ ARel m' cs.toArray [Value.slice (some a) len cap].toArray ∧ ARd P h' t cs (.slice ((List.range len).map D) ((List.range (cap - len)).map fun j => D (len + j))) ∧ cs.length = P.cellsOf t := fun h₂ m₂ a' I₂ l₂ s₂ hv hR =>
          ⟨m₂, h₂, [.slice (some a') len cap], I₂, l₁.trans l₂, s₁.trans s₂, .single hv, .slice hu hR hm (by simp) (fun i d hd => by
            simp only [List.getElem?_map, Option.map_eq_some_iff] at hd
            obtain ⟨j, hj, rfl⟩ := hd
            have hlt : i < len := by
              rcases Nat.lt_or_ge i len with h | h
              · exact h
              · rw [List.getElem?_eq_none (by simpa using h)] at hj; cases hj
            have : j = i := by simpa [hlt] using hj.symm
            subst this
            exact (a₁ j hlt).same s₂), h1⟩
        by_cases hcap : cap = 0
        · subst hcap
          have hl0 : len = 0 := by omega
          subst hl0
          have hc0 : c = [] := List.length_eq_zero_iff.1 (by simpa using n₁)
          subst hc0
          exact fin (h₁.push (.ro [])) m₁ ⟨h₁.n, 0, none⟩ (I₁.add0 []) (.refl _) ((Same.refl _).push _) (.slice0 _ _ _) (.mk (.inr (AHeap.get_push_same _ _)) (by simp) (Nat.le_refl _) (by simp))
        · obtain ⟨cs₀, hc₀, _⟩ := hi 0 (by omega)
          obtain ⟨_, hlen₀, hat₀⟩ := World.cells?_some hc₀
          have hx := hat₀ 0 (by omega)
          rw [List.getElem?_eq_getElem (by omega)] at hx
          obtain ⟨b, off, spot⟩ := a
          have hspot : spot = none := by simpa [Addr.add] using World.cell?_spot hx
          subst hspot
          rw [addr_add, addr_add] at hx
          obtain ⟨c', ty, fz, hw, hcell⟩ := block_of_cell hx
          have I₂ := I₁.add (l := ⟨b, off, P.cellsOf e, c.length, 0⟩) (c := c) rfl hw (fun i v hv => by
            obtain ⟨v', x, y⟩ := r₁ i v hv
            rw [addr_add] at x
            exact ⟨v', by rw [Nat.add_comm]; exact hcell _ _ x, y⟩)
          have hup := upd_le (l := (⟨b, off, P.cellsOf e, c.length, 0⟩ : Loc)) (I₁.dom h₁.n (Nat.le_refl _))
          refine fin (h₁.push (.ro c)) _ ⟨h₁.n, 0, none⟩ I₂ hup ((Same.refl _).push _) ?_ (.mk (.inr (AHeap.get_push_same _ _)) (by omega) hl (by rw [List.drop_zero, ← n₁, List.take_length]))
          have := VRel.slice (m := upd m₁ h₁.n ⟨b, off, P.cellsOf e, c.length, 0⟩) (o := 0) (len := len) (cap := cap) (upd_same m₁ h₁.n _) (.inl rfl)
          simpa using this
    · rename_i fs hu
      simp only [Bool.and_eq_true] at hp
      obtain ⟨hp1, hp2⟩ := hp
      obtain ⟨xs, n, _, ex, hcl, hxl, hxs⟩ := DataW.trod_struct hu hd
      cases ex
      -- the fields, one by one
      have fields : ∀ (l : List Field) (k off : Nat) (m₁ : Mp) (h₁ : AHeap) (c₁ : List Value), fs.toList.drop k = l → tileB P l off (P.cellsOf t) = true → Im P W m₁ h₁ → m.le m₁ → Same h h₁ → c₁.length = off → off ≤ cs'.length → ARel m₁ c₁.toArray (cs'.take off).toArray →
          (∀ (i : Nat) (g : Field) (d : DataW H), i < k → fs[i]? = some g → (xs.map (·.1))[i]? = some d → g.offset + P.cellsOf g.type ≤ off ∧ ARd P h₁ g.type ((c₁.drop g.offset).take (P.cellsOf g.type)) d) →
          ∃ (m' : Mp) (h' : AHeap) (cs : List Value), Im P W m' h' ∧ m.le m' ∧ Same h h' ∧ ARel m' cs.toArray cs'.toArray ∧ cs.length = P.cellsOf t ∧ ∀ (i : Nat) (g : Field) (d : DataW H), fs[i]? = some g → (xs.map (·.1))[i]? = some d → ARd P h' g.type ((cs.drop g.offset).take (P.cellsOf g.type)) d := by
        intro l
        induction l with
        | nil =>
          intro k off m₁ h₁ c₁ hl ht I₁ l₁ s₁ n₁ hle r₁ a₁
          have hoff : off = P.cellsOf t := Nat.eq_of_beq_eq_true ht
          have hk : fs.size ≤ k := by
            have := congrArg List.length hl
            simp at this; omega
          refine ⟨m₁, h₁, c₁, I₁, l₁, s₁, ?_, by omega, fun i g d hg hd => (a₁ i g d ?_ hg hd).2⟩
          · rw [List.take_of_length_le (by omega)] at r₁; exact r₁
          · have := (Array.getElem?_eq_some_iff.1 hg).1; omega
        | cons g l ih =>
          intro k off m₁ h₁ c₁ hl ht I₁ l₁ s₁ n₁ hle r₁ a₁
          unfold tileB at ht
          simp only [Bool.and_eq_true] at ht
          obtain ⟨ht1, ht2⟩ := ht
          have hgo : g.offset = off := Nat.eq_of_beq_eq_true ht1
          have hg : fs[k]? = some g := by
            have : (fs.toList.drop k)[0]? = some g := by rw [hl]; rfl
            simpa using this
          have hl' : fs.toList.drop (k + 1) = l := by rw [← List.drop_drop, hl]; rfl
          have htr := hxs k g hg
          have hkx : k < xs.length := by rw [hxl]; exact (Array.getElem?_eq_some_iff.1 hg).1
          rw [List.getElem?_eq_getElem hkx] at htr
          have hpg : plainB P f g.type = true := List.all_eq_true.1 hp2 g (by simpa using Array.mem_of_getElem? hg)
          obtain ⟨m₂, h₂, c₂, I₂, l₂, s₂, r₂, a₂, n₂⟩ := imp f n g.type _ xs[k].1 xs[k].2 hpg htr m₁ h₁ I₁
          have hlen2 := r₂.len
          rw [n₂, hgo] at hlen2
          have hfit : off + P.cellsOf g.type ≤ cs'.length := by
            simp at hlen2; omega
          refine ih (k + 1) (off + P.cellsOf g.type) m₂ h₂ (c₁ ++ c₂) hl' ht2 I₂ (l₁.trans l₂) (s₁.trans s₂) (by simp [n₁, n₂]) hfit ?_ ?_
          · rw [List.take_add]
            rw [hgo] at r₂
            exact (r₁.mono l₂).cat r₂
          · intro i g' d hi hg' hd
            rcases Nat.lt_or_ge i k with hlt | hge
            · obtain ⟨b1, b2⟩ := a₁ i g' d hlt hg' hd
              refine ⟨by omega, ?_⟩
              rw [List.drop_append_of_le_length (by omega), List.take_append_of_le_length (by simp; omega)]
              exact b2.same s₂
            · have : i = k := by omega
              subst this
              rw [hg] at hg'; cases hg'
              refine ⟨by omega, ?_⟩
              rw [hgo, ← n₁, List.drop_left, ← n₂, List.take_length]
              simp only [List.getElem?_map, List.getElem?_eq_getElem hkx, Option.map_some, Option.some.injEq] at hd
              subst hd
              exact a₂
      obtain ⟨m', h', cs, g1, g2, g3, g4, g5, g6⟩ := fields fs.toList 0 0 m h [] (by simp) hp1 I (.refl m) (.refl h) rfl (Nat.zero_le _) (by simpa using ARel.empty m) (fun i _ _ hi => by omega)
      exact ⟨m', h', cs, g1, g2, g3, g4, .struct hu g5 (by simp [hxl]) g6, g5⟩
    · cases hp
end
end Go.Proofs.Ytmelgnpogdilgaa
