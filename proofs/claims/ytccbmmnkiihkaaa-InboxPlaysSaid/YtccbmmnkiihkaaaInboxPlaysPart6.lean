/- What the law leans on, part 6. No conditions. -/
import Derived.Laws.Externs
import GoSem.Extern.MapsClone
import Derived.Test.YtccbmmnkiihkaaaInboxPlaysPart5
set_option linter.unusedVariables false
set_option linter.unusedSimpArgs false
namespace Go.Proofs.Ytccbmmnkiihkaaa
theorem HRel.fewer {P : Program} {m : Mp} {h H : AHeap} {w : World} (hh : HRel P m Ev h w) (sub : ∀ i o, H.get i = some o → h.get i = some o) : HRel P m Ev H w where
 lt := hh.lt
 typ := fun i l c t a b => hh.typ i l c t a (sub i _ b)
 inj := fun i j l k a b c d e => by
  refine hh.inj i j l k a b (fun q => c ?_) ?_ e
  ·
   cases hc : H.get i with
   | none => rfl
   | some o => rw [sub i o hc] at q; cases q
  ·
   obtain ⟨o, x, y⟩ := d
   exact ⟨o, sub j o x, y⟩
 roS := fun i l c a b => hh.roS i l c a (sub i _ b)
 obj := fun i l o _ a b => hh.obj i l o trivial a (sub i _ b)
theorem CallRun.frame {P : Program} {C : Nat → Prop} {f : FuncId} {args : Array Value} {H h H' h' : AHeap} {v : Value} (k : CallRun P C f args H v H') (n0 : H.n = h.n) (n1 : H'.n = h'.n) (sub : ∀ i o, H.get i = some o → h.get i = some o)
  (e1 : ∀ i, i < h.n → ¬ C i → h'.get i = h.get i) (e2 : ∀ i o, (C i ∨ h.n ≤ i) → h'.get i = some o → H'.get i = some o) : CallRun P C f args h v h' := by
 have hn : h.n ≤ h'.n := by rw [← n0, ← n1]; exact k.fr.n
 have liv : ∀ i, H.live i → h.live i := fun i ⟨o, x, y⟩ => ⟨o, sub i o x, y⟩
 have frm : ∀ i, i < h.n → C i → ∀ o, h'.get i = some o → H'.get i = some o := fun i hi hc o e => e2 i o (.inl hc) e
 refine ⟨⟨hn, e1, fun i c t hi e => ?_, fun i hi e => ?_, fun i hi e => ?_, fun i c hi e => ?_⟩, fun m w args' hm hf ha hh => ?_⟩
 ·
  by_cases hc : C i
  ·
   obtain ⟨c₀, a, b⟩ := k.fr.typ i c t (by omega) (frm i hi hc _ e)
   exact ⟨c₀, sub i _ a, b⟩
  · exact ⟨c, by rw [← e1 i hi hc]; exact e, rfl⟩
 ·
  by_cases hc : C i
  ·
   cases ho : h'.get i with
   | none => exact absurd ho e
   | some o =>
    have := k.fr.alive i (by omega) (by rw [frm i hi hc o ho]; simp)
    cases hq : H.get i with
    | none => exact absurd hq this
    | some o' => rw [sub i o' hq]; simp
  · rw [← e1 i hi hc]; exact e
 ·
  by_cases hc : C i
  ·
   obtain ⟨o, x, y⟩ := e
   exact liv i (k.fr.live i (by omega) ⟨o, frm i hi hc o x, y⟩)
  · exact AHeap.live_eq (e1 i hi hc) e
 ·
  by_cases hc : C i
  · exact sub i _ (k.fr.roT i c (by omega) (frm i hi hc _ e))
  · rw [← e1 i hi hc]; exact e
 refine (k.run m w args' hm (fun i a b => hf i (by omega) (by omega)) ha (hh.fewer sub)).mono ?_
 rintro e w' ⟨v', m', rfl, F, V, R⟩
 have old : ∀ i, (i < h.n ∨ h'.n ≤ i) → m' i = m i := fun i hi => F.old i (by rw [n0, n1]; exact hi)
 have hle : m.le m' := F.le fun i a b => hf i (by omega) (by omega)
 have keep : ∀ i l, i < h.n → ¬ C i → m i = some l → h.get i ≠ none → w'.heap[l.b]? = w.heap[l.b]? := fun i l hi hc a b => by
  refine F.keep l.b (hh.lt i l a) fun j k' hj cj lj mj e => ?_
  obtain rfl := hh.inj i j l k' a mj b (liv j lj) e.symm
  exact hc cj
 have cross : ∀ i j l k', i < h.n → ¬ C i → m i = some l → h.get i ≠ none → h.n ≤ j → j < h'.n → m' j = some k' → l.b = k'.b → False := fun i j l k' hi hc a b hj hj' mj e => by
  rcases F.new j k' (by omega) (by omega) mj with q | ⟨j₀, k₀, h1, c0, l0, m0, e0⟩
  · have := hh.lt i l a; omega
  ·
   obtain rfl := hh.inj i j₀ l k₀ a m0 b (liv j₀ l0) (by rw [e0]; exact e)
   exact hc c0
 have inN : ∀ i, h'.get i ≠ none → i < h'.n := fun i e => by
  cases q : h'.get i with
  | none => exact absurd q e
  | some o => exact AHeap.lt q
 refine ⟨v', m', rfl, ⟨old, fun i l a b c => ?_, fun b hb hk => ?_, F.size, F.os, F.tape, F.output⟩, V, ?_⟩
 ·
  rcases F.new i l (by omega) (by omega) c with q | ⟨j, k', h1, h2, h3, h4, h5⟩
  · exact .inl q
  · exact .inr ⟨j, k', by omega, h2, liv j h3, h4, h5⟩
 · exact F.keep b hb fun j k' hj cj lj mj => hk j k' (by omega) cj (liv j lj) mj
 ·
  refine ⟨R.lt, fun i l c t a b => ?_, fun i j l k' a b c d e => ?_, fun i l c a b => ?_, fun i l o _ a b => ?_⟩
  ·
   by_cases hi : i < h.n ∧ ¬ C i
   ·
    rw [old i (.inl hi.1)] at a
    rw [e1 i hi.1 hi.2] at b
    exact hh.typ i l c t a b
   ·
    refine R.typ i l c t a (e2 i _ ?_ b)
    by_cases hc : C i
    · exact .inl hc
    · exact .inr (Nat.le_of_not_lt fun q => hi ⟨q, hc⟩)
  ·
   have hi' := inN i c
   have hj' := inN j d.ne
   have cls : ∀ i, ¬ (i < h.n ∧ ¬ C i) → C i ∨ h.n ≤ i := fun i hi => by
    by_cases hc : C i
    · exact .inl hc
    · exact .inr (Nat.le_of_not_lt fun q => hi ⟨q, hc⟩)
   have up : ∀ i, ¬ (i < h.n ∧ ¬ C i) → h'.get i ≠ none → H'.get i ≠ none := fun i hi q => by
    cases ho : h'.get i with
    | none => exact absurd ho q
    | some o => rw [e2 i o (cls i hi) ho]; simp
   by_cases hi : i < h.n ∧ ¬ C i
   ·
    rw [old i (.inl hi.1)] at a
    rw [e1 i hi.1 hi.2] at c
    by_cases hj : j < h.n
    ·
     rw [old j (.inl hj)] at b
     refine hh.inj i j l k' a b c ?_ e
     by_cases cj : C j
     ·
      obtain ⟨o, x, y⟩ := d
      exact liv j (k.fr.live j (by omega) ⟨o, frm j hj cj o x, y⟩)
     · exact AHeap.live_eq (e1 j hj cj) d
    · exact (cross i j l k' hi.1 hi.2 a c (by omega) hj' b e).elim
   ·
    by_cases hj : j < h.n ∧ ¬ C j
    ·
     rw [old j (.inl hj.1)] at b
     have dj := AHeap.live_eq (e1 j hj.1 hj.2) d
     by_cases hi2 : i < h.n
     ·
      rw [old i (.inl hi2)] at a
      refine hh.inj i j l k' a b ?_ dj e
      have q := k.fr.alive i (by omega) (up i hi c)
      cases hq : H.get i with
      | none => exact absurd hq q
      | some o' => rw [sub i o' hq]; simp
     · exact (cross j i k' l hj.1 hj.2 b dj.ne (by omega) hi' a e.symm).elim
    ·
     refine R.inj i j l k' a b (up i hi c) ?_ e
     obtain ⟨o, x, y⟩ := d
     exact ⟨o, e2 j o (cls j hj) x, y⟩
  ·
   by_cases hi : i < h.n ∧ ¬ C i
   ·
    rw [old i (.inl hi.1)] at a
    rw [e1 i hi.1 hi.2] at b
    exact hh.roS i l c a b
   ·
    refine R.roS i l c a (e2 i _ ?_ b)
    by_cases hc : C i
    · exact .inl hc
    · exact .inr (Nat.le_of_not_lt fun q => hi ⟨q, hc⟩)
  ·
   by_cases hi : i < h.n ∧ ¬ C i
   ·
    rw [old i (.inl hi.1)] at a
    rw [e1 i hi.1 hi.2] at b
    obtain ⟨o', x, y⟩ := hh.obj i l o trivial a b
    exact ⟨o', by rw [keep i l hi.1 hi.2 a (by rw [b]; simp)]; exact x, y.mono hle⟩
   ·
    refine R.obj i l o trivial a (e2 i _ ?_ b)
    by_cases hc : C i
    · exact .inl hc
    · exact .inr (Nat.le_of_not_lt fun q => hi ⟨q, hc⟩)
end Go.Proofs.Ytccbmmnkiihkaaa
namespace Go.Proofs.Ytccbmmnkiihkaaa
def low (n : Nat) : Value → Bool
 | .pointer (some ⟨b, _, _⟩) => Nat.blt b n
 | .slice (some ⟨b, _, _⟩) _ _ => Nat.blt b n
 | .map (some r) => Nat.blt r n
 | v => flatB v
theorem VRel.cut {m : Mp} {n : Nat} {v v' : Value} (hl : low n v = true) (h : VRel m v v') : VRel (cutM m n) v v' := by
 have lt : ∀ {a b : Nat}, Nat.blt a b = true → a < b := fun h => by simpa [Nat.blt_eq] using h
 cases h with
 | ptr h => exact .ptr (by rw [cutM_lt (lt hl)]; exact h)
 | slice h hc => exact .slice (by rw [cutM_lt (lt hl)]; exact h) hc
 | slice0 i o a => exact .slice0 i o a
 | map h => exact .map (by rw [cutM_lt (lt hl)]; exact h)
 | pnil => exact .pnil
 | snil => exact .snil
 | mnil => exact .mnil
 | bool b => exact .bool b
 | int k n => exact .int k n
 | float k n => exact .float k n
 | complex k a b => exact .complex k a b
 | string s => exact .string s
 | nilFunc => exact .nilFunc
 | nilIface => exact .nilIface
 | func hf h1 h2 h3 h4 => simp [low, flatB, flat1, flat0] at hl
 | yield h => simp [low, flatB, flat1, flat0] at hl
 | iface t h =>
  have e := VRel.eq_of_flat (.iface t h) hl
  rw [e]; exact VRel.flat _ hl
 | agg h1 h3 =>
  have e := VRel.eq_of_flat (.agg h1 h3) hl
  rw [e]; exact VRel.flat _ hl
 | tuple h1 h3 =>
  have e := VRel.eq_of_flat (.tuple h1 h3) hl
  rw [e]; exact VRel.flat _ hl
def lowO (n : Nat) : AObj → Prop
 | .cells c _ => ∀ x ∈ c, low n x = true
 | .ro c => ∀ x ∈ c, low n x = true
 | .map es _ => ∀ e ∈ es.toList, low n e.key = true ∧ low n e.val = true
 | _ => False
theorem ORel.cut {P : Program} {m : Mp} {n : Nat} {l : Loc} {o : AObj} {o' : Obj} (hl : lowO n o) (h : ORel P m l o o') : ORel P (cutM m n) l o o' := by
 cases h with
 | cells hs hf hv => exact .cells hs hf fun i v e => let ⟨v', a, b⟩ := hv i v e; ⟨v', a, b.cut (hl v (List.mem_of_getElem? e))⟩
 | ro hs hv => exact .ro hs fun i v e => let ⟨v', a, b⟩ := hv i v e; ⟨v', a, b.cut (hl v (List.mem_of_getElem? e))⟩
 | map h => exact .map ⟨h.1, fun i e e' a b => by
   obtain ⟨x, y, z⟩ := h.2 i e e' a b
   have := hl e (by simpa using Array.mem_of_getElem? a)
   exact ⟨x.cut this.1, y.cut this.2, z⟩⟩
 | _ => exact hl.elim
theorem HRel.cut {P : Program} {m : Mp} {h : AHeap} {w : World} (hl : ∀ i o, h.get i = some o → lowO h.n o) (hh : HRel P m Ev h w) : HRel P (cutM m h.n) Ev h w := by
 have key : ∀ i l, cutM m h.n i = some l → m i = some l := fun i l e => by
  unfold cutM at e
  split at e
  · exact e
  · cases e
 exact {
     lt := fun i l e => hh.lt i l (key i l e)
     typ := fun i l c t e => hh.typ i l c t (key i l e)
     inj := fun i j l k e e' => hh.inj i j l k (key i l e) (key j k e')
     roS := fun i l c e => hh.roS i l c (key i l e)
     obj := fun i l o _ e g => by
      obtain ⟨o', a, b⟩ := hh.obj i l o trivial (key i l e) g
      exact ⟨o', a, b.cut (hl i o g)⟩ }
theorem CallS.ofOpen {P : Program} (hg0 : P.globals.size = 0) {f : FuncId} {fn : Func} {c : Code} {n : Nat} {args : List Value} {rs : List ResultVar} {ov : Ov} {h : AHeap} {e : TypeId} {sz len : Nat} {cs : List Value} (rd : List Nat) (hf : P.funcs[f]? = some fn) (hb : fn.body = some c) (hN : fn.ntmps = n) (hrs : fn.results = ⟨rs⟩) (hle : Nat.ble args.length n = true) (ho : ovOf 0 args = ov)
  (hsz : sizeT P e = some sz) (hfl : ∀ x ∈ cs, flatB x = true) (hcl : cs.length = len * sz)
  (hlow : ∀ i ∈ rd, ∀ o, h.get i = some o → lowO h.n o) (hargs : ∀ x ∈ args, low h.n x = true)
  (g : ∀ H : AHeap, H.n = h.n → (∀ i ∈ rd, H.get i = h.get i) → GoD P (fun i => i ∈ ([] : List Nat) ∨ h.n ≤ i) false n [.code c] .normal ov [] H (FinO P rs h.n e sz len cs)) :
  CallS P [] f args h fun v h' => ∃ a, v = .slice a len len ∧ Sv h' e sz a len len cs ∧ Own h.n a := by
 have hn : (restr h rd).n = h.n := restr_n h rd
 have k : CallRun P (· ∈ ([] : List Nat)) f args.toArray (restr h rd) (outV (restr h rd).n len) (outH (restr h rd) e len cs) := by
  refine CallRun.ofOpen hg0 hf hb hN (by rw [hrs]) (Nat.le_of_ble_eq_true hle) ho hsz hfl hcl (fun m w args' hh ha => ?_) ?_
  ·
   refine ⟨HRel.cut (fun i o hi => ?_) hh, ha.1, fun i u u' e1 e2 => ?_⟩
   ·
    obtain ⟨h1, h2⟩ := restr_some hi
    rw [hn]; exact hlow i h2 o h1
   ·
    rw [hn]
    exact (ha.2 i u u' e1 e2).cut (hargs u (by simpa using List.mem_of_getElem? (by simpa using e1)))
  ·
   rw [hn]
   exact g (restr h rd) hn fun i hi => by rw [restr_get, if_pos hi]
 rw [hn] at k
 have oh : ∀ i, i < h.n → (outH h e len cs).get i = h.get i := fun i hi => by
  unfold outH
  split
  · rfl
  · exact AHeap.get_push_ne _ _ (by omega)
 have k2 : CallRun P (· ∈ ([] : List Nat)) f args.toArray h (outV h.n len) (outH h e len cs) := by
  refine CallRun.frame k hn ?_ (fun i o hi => (restr_some hi).1) (fun i hi _ => oh i hi) fun i o hi hg => ?_
  ·
   unfold outH
   split
   · exact hn
   · simp [hn]
  ·
   have hi : h.n ≤ i := hi.resolve_left (by simp)
   unfold outH at hg ⊢
   split at hg
   · rw [AHeap.get_out hi] at hg; cases hg
   ·
    rename_i h0
    rw [if_neg h0]
    have := AHeap.lt hg
    simp only [AHeap.n_push] at this
    obtain rfl : i = h.n := by omega
    rw [AHeap.get_push_same] at hg
    rw [← hg, ← hn, AHeap.get_push_same]
 refine ⟨_, _, k2, ?_⟩
 unfold outV outH
 by_cases h0 : len = 0
 ·
  rw [if_pos h0, if_pos h0]
  subst h0
  obtain rfl : cs = [] := List.eq_nil_of_length_eq_zero (by simpa using hcl)
  exact ⟨none, rfl, .nil, Own.nil _⟩
 ·
  rw [if_neg h0, if_neg h0]
  refine ⟨_, rfl, .mk (AHeap.get_push_same h _) (by omega) (Nat.le_refl _) (by rw [List.drop_zero, List.take_of_length_le (by omega)]), Own.mk (Nat.le_refl _)⟩
theorem GoD.finS {P : Program} {W : Nat → Prop} {q : Bool} {n n0 sz len cap : Nat} {e : TypeId} {cs : List Value} {ov : Ov} {h : AHeap} {rs : List ResultVar} {x : Exit} {a : Option Addr} {vs : List Value} (hx : x = .normal ∨ x = .ret) (hr : Res P h ov rs vs) (hv : retV vs = .slice a len cap) (hs : Sv h e sz a len cap cs) (ho : Own n0 a) (h0 : len = 0 → a = none) : GoD P W q n [] x ov [] h (FinO P rs n0 e sz len cs) := by
 cases hs with
 | nil => exact GoD.finN hx hr hv rfl
 | @mk b o _ _ c _ hg h1 h2 h3 =>
  have hl : 0 < len := Nat.pos_of_ne_zero fun q => by have := h0 q; cases this
  exact GoD.finO hx hr hv hl (.mk hg h1 h2 h3) (ho b (by simp [blk]))
end Go.Proofs.Ytccbmmnkiihkaaa
namespace Go.Proofs.Ytccbmmnkiihkaaa
section
variable {P : Program} {h : AHeap} {o : Oper} {ov : Ov} {W : Nat → Prop} {q : Bool} {N : Nat} {ops : Array Oper} {os : List Oper} {k : List It} {df : List Nat} {Q : PQ} {d : Nat} {b₀ : Bool}
end
end Go.Proofs.Ytccbmmnkiihkaaa
namespace Go.Proofs.Ytccbmmnkiihkaaa
set_option maxRecDepth 100000
theorem backN_mem : ∀ {n : Nat} {l : List PV} {p f g : PV}, backN l p n f = some g → g = f ∨ g ∈ l
 | 0, l, p, f, g, h => by cases h
 | n + 1, l, p, f, g, h => by
  rw [backN_succ] at h
  split at h
  ·
   cases hq : pf l (prev32 f.t) with
   | none => rw [hq] at h; cases h
   | some q =>
    rw [hq] at h
    simp only at h
    split at h
    ·
     rcases backN_mem h with rfl | z
     · exact .inr (pf_mem hq).1
     · exact .inr z
    · cases h
  · cases h; exact .inl rfl
theorem putN_cases (l : List PV) (p : PV) : putN l p = (l, none) ∨ putN l p = (l ++ [p], none) ∨ ∃ n u f, backN (l ++ [p]) p (l.length + 1) p = some f ∧ putN l p = ((gat n u (l ++ [p]) []).2, some (f.sid, decide (¬ f.fl &&& 4 = 0), f.ppid, (gat n u (l ++ [p]) []).1)) := by
 unfold putN
 cases h1 : pf l p.t with
 | some q => exact .inl rfl
 | none =>
  dsimp only
  cases h2 : backN (l ++ [p]) p (l.length + 1) p with
  | none => exact .inr (.inl rfl)
  | some f =>
   dsimp only
   cases h3 : fwdN (l ++ [p]) p (l.length + 1) p with
   | none => exact .inr (.inl rfl)
   | some g => exact .inr (.inr ⟨_, _, f, rfl, rfl⟩)
theorem putN_bound {l : List PV} {p : PV} {sid ppid : Nat} {un : Bool} {D : List UInt8} (hl : ∀ q ∈ l, PB q) (hp : PB p) (h : (putN l p).2 = some (sid, un, ppid, D)) : sid < 65536 ∧ ppid < 4294967296 := by
 rcases putN_cases l p with e | e | ⟨n, u, f, hf, e⟩
 · rw [e] at h; cases h
 · rw [e] at h; cases h
 ·
  rw [e] at h
  cases h
  have : PB f := by
   rcases backN_mem hf with rfl | z
   · exact hp
   ·
    rcases List.mem_append.1 z with z | z
    · exact hl f z
    · rw [List.mem_singleton.1 z]; exact hp
  exact ⟨this.sid, this.ppid⟩
def msLen : Option MS → Nat
 | none => 0
 | some m => m.2.2.2.length
theorem putN_held (l : List PV) (p : PV) : heldN (putN l p).1 + msLen (putN l p).2 ≤ heldN l + p.z.length := by
 rcases putN_cases l p with e | e | ⟨n, u, f, hf, e⟩
 · rw [e]; exact Nat.le_add_right _ _
 · rw [e]; exact Nat.le_of_eq (held_snoc l p)
 ·
  rw [e]
  have := gat_held n u (l ++ [p]) []
  rw [held_snoc] at this
  generalize gat n u (l ++ [p]) [] = X at *
  show heldN X.2 + X.1.length ≤ _
  simp only [List.length_nil] at this
  omega
theorem gat_len : ∀ (n t : Nat) (l : List PV) (D : List UInt8), (gat n t l D).2.length ≤ l.length
 | 0, t, l, D => by rw [gat_zero]; exact pdel_len l t
 | n + 1, t, l, D => by rw [gat_succ]; exact Nat.le_trans (gat_len n _ _ _) (pdel_len l t)
where
 pdel_len : ∀ (l : List PV) (t : Nat), (pdel l t).length ≤ l.length
  | [], t => Nat.le_refl _
  | p :: l, t => by
   unfold pdel
   split
   · simp
   · have := pdel_len l t; simp; omega
theorem putN_len (l : List PV) (p : PV) : (putN l p).1.length ≤ l.length + 1 := by
 rcases putN_cases l p with e | e | ⟨n, u, f, hf, e⟩
 · rw [e]; exact Nat.le_succ _
 · rw [e, List.length_append]; exact Nat.le_refl _
 ·
  rw [e]
  have := gat_len n u (l ++ [p]) []
  rw [List.length_append] at this
  exact this
end Go.Proofs.Ytccbmmnkiihkaaa
namespace Go.Proofs.Ytccbmmnkiihkaaa
def loudRowPS (ops : Array Oper) (s : Nat) (w : List Nat) (i : Nat) : List (Option LE) → Nat → Prop
 | [], _ => True
 | e :: es, j => (j = s ∨ pairP ops w i j e) ∧ loudRowPS ops s w i es (j + 1)
def loudPS (ops : Array Oper) (s : Nat) (all : List (Option LE)) : List (Option LE) → Nat → Prop
 | [], _ => True
 | none :: es, i => loudPS ops s all es (i + 1)
 | some e :: es, i => ((∀ b ∈ e.wr, e.n ≤ b) ∨ loudRowPS ops s e.wr i all 0) ∧ loudPS ops s all es (i + 1)
def onlyW (b i0 : Nat) : List (Option LE) → Nat → Prop
 | [], _ => True
 | e :: es, i => (i = i0 ∨ match e with
  | none => True
  | some e => b ∉ e.wr) ∧ onlyW b i0 es (i + 1)
def calmE (s : Nat) (tr : List (Option LE)) : Prop := ∃ e, tr[s]? = some (some e) ∧ e.same = true ∧ e.wr = []
def softR (ops : Array Oper) (s b i0 : Nat) (tr : List (Option LE)) : Prop := loudPS ops s tr tr 0 ∧ onlyW b i0 tr 0 ∧ calmE s tr
theorem MtL.get : ∀ {l : List (Nat × OR)} {xs : List (Option LE)} {k n : Nat} {r : OR}, MtL l xs → l[k]? = some (n, r) → ∃ x, xs[k]? = some x ∧ Mt1 n r x
 | [], [], k, n, r, _, e => by simp at e
 | (m, r') :: l, x :: xs, 0, n, r, h, e => by simp at e; obtain ⟨rfl, rfl⟩ := e; exact ⟨x, rfl, h.1⟩
 | (m, r') :: l, x :: xs, k + 1, n, r, h, e => by simpa using MtL.get (k := k) h.2 (by simpa using e)
 | [], _ :: _, _, _, _, h, _ => h.elim
 | _ :: _, [], _, _, _, h, _ => h.elim
theorem MtL.get2 : ∀ {l : List (Nat × OR)} {xs : List (Option LE)} {k : Nat} {x : Option LE}, MtL l xs → xs[k]? = some x → ∃ n r, l[k]? = some (n, r) ∧ Mt1 n r x
 | [], [], k, x, _, e => by simp at e
 | (m, r') :: l, x' :: xs, 0, x, h, e => by simp at e; subst e; exact ⟨m, r', rfl, h.1⟩
 | (m, r') :: l, x' :: xs, k + 1, x, h, e => by simpa using MtL.get2 (k := k) h.2 (by simpa using e)
 | [], _ :: _, _, _, h, _ => h.elim
 | _ :: _, [], _, _, h, _ => h.elim
theorem onlyW.at {b i0 : Nat} : ∀ {xs : List (Option LE)} {i k : Nat} {x : Option LE}, onlyW b i0 xs i → xs[k]? = some x → i + k = i0 ∨ match x with
  | none => True
  | some e => b ∉ e.wr
 | y :: xs, i, 0, x, h, e => by simp at e; subst e; exact h.1
 | y :: xs, i, k + 1, x, h, e => by
  have := onlyW.at (k := k) h.2 (by simpa using e)
  rwa [show i + 1 + k = i + (k + 1) by omega] at this
 | [], i, k, x, _, e => by simp at e
theorem loudRowPS.at {ops : Array Oper} {s : Nat} {w : List Nat} {i : Nat} : ∀ {xs : List (Option LE)} {j k : Nat} {x : Option LE}, loudRowPS ops s w i xs j → xs[k]? = some x → j + k = s ∨ pairP ops w i (j + k) x
 | y :: xs, j, 0, x, h, e => by simp at e; subst e; exact h.1
 | y :: xs, j, k + 1, x, h, e => by
  have := loudRowPS.at (k := k) h.2 (by simpa using e)
  rwa [show j + 1 + k = j + (k + 1) by omega] at this
 | [], j, k, x, _, e => by simp at e
theorem loudPS.at {ops : Array Oper} {s : Nat} {all : List (Option LE)} : ∀ {xs : List (Option LE)} {i k : Nat} {e : LE}, loudPS ops s all xs i → xs[k]? = some (some e) → (∀ b ∈ e.wr, e.n ≤ b) ∨ loudRowPS ops s e.wr (i + k) all 0
 | none :: xs, i, 0, e, h, h2 => by simp at h2
 | some y :: xs, i, 0, e, h, h2 => by simp at h2; subst h2; exact h.1
 | none :: xs, i, k + 1, e, h, h2 => by
  have := loudPS.at (xs := xs) (k := k) (i := i + 1) h (by simpa using h2)
  rwa [show i + 1 + k = i + (k + 1) by omega] at this
 | some y :: xs, i, k + 1, e, h, h2 => by
  have := loudPS.at (xs := xs) (k := k) (i := i + 1) h.2 (by simpa using h2)
  rwa [show i + 1 + k = i + (k + 1) by omega] at this
 | [], i, k, e, _, h2 => by simp at h2
section
variable {P : Program} {Wt : Nat → Prop} {ops : Array Oper}
set_option maxHeartbeats 4000000 in
theorem Run.drawnS {id : Nat} {df : List Nat} {h h' : AHeap} {q : Bool} {tm tm' : List Value} {ts : List Tr1} {tl : List (Option LE)} {s i0 ty qq dd b off : Nat} {v : Value} {os : Oper} {c0 c1 : List Value} {t0 t1 : TypeId} (hd : drawOk P ops = true) (hm : MtL (ts.map fun t => (t.h.n, t.r)) tl) (hl : softR ops s b i0 tl) (hlen : ts.length = ops.size)
  (hs : ops[s]? = some os) (hop : os.op = .load ty (.tmp qq)) (hds : os.dst = some dd) (hgs : os.guard = none) (hqn : ∀ i oi, s ≤ i → ops[i]? = some oi → oi.dst ≠ some qq) (hdn : ∀ i oi, s < i → ops[i]? = some oi → oi.dst ≠ some dd)
  (hct : CT P ty none) (h0 : h.get b = some (.cells c0 t0)) (hv0 : c0[off]? = some v) (h1 : h'.get b = some (.cells c1 t1)) (hv1 : c1[off]? = some v) (hqv : tm'.getD qq undef = .pointer (some ⟨b, off, none⟩)) (hdv : tm'.getD dd undef = v) (hdN : dd < tm.length)
  (g5 : ∀ j t, ts[j]? = some t → ∃ o, ops[0 + j]? = some o ∧ ((Region.wanted o (yielded ops t.tm.toArray) = true ∧ OpOk P o t.tm t.h t.r ∧ ∀ i ∈ t.r.wr, Wt i) ∨ (Region.wanted o (yielded ops t.tm.toArray) = false ∧ t.r = ⟨undef, t.h, [], [], false, true⟩)) ∧
    (match ts[j + 1]? with | some u => u.tm = putT t.tm o.dst t.r.v ∧ u.h = t.r.h | none => tm' = putT t.tm o.dst t.r.v ∧ h' = t.r.h))
  (g6 : match ts[0]? with | some t => t.tm = tm ∧ t.h = h | none => tm' = tm ∧ h' = h) : Run P Wt q (.region id ops true) ⟨tm, df, h⟩ .normal ⟨tm', df, h'⟩ := by
 unfold drawOk at hd
 simp only [Bool.and_eq_true] at hd
 obtain ⟨⟨⟨hmix, hops⟩, hap⟩, hed⟩ := hd
 obtain ⟨hps, how, ec, hec, hsm, hwe⟩ := hl
 let T : Nat → List Value := fun k => match ts[k]? with | some t => t.tm | none => tm'
 let H : Nat → AHeap := fun k => match ts[k]? with | some t => t.h | none => h'
 let V : Nat → Value := fun k => match ts[k]? with | some t => t.r.v | none => undef
 let R : Nat → OR := fun k => match ts[k]? with | some t => t.r | none => ⟨undef, h', [], [], false, true⟩
 let D : Nat → Nat → Prop := fun k i => k ≠ s ∧ ((R k).all = true ∨ i ∈ (R k).rd ∨ i ∈ (R k).wr ∨ ((H k).n ≤ i ∧ i < (H (k + 1)).n))
 let W : Nat → Nat → Prop := fun k i => i ∈ (R k).wr ∧ i < (H k).n
 let L : Nat → Prop := fun k => oldOf (H k).n (R k).wr ≠ []
 have at_ : ∀ k o, ops[k]? = some o → ∃ t, ts[k]? = some t ∧ T k = t.tm ∧ H k = t.h ∧ V k = t.r.v ∧ R k = t.r := fun k o ho => by
  have hlt : k < ts.length := by rw [hlen]; exact (Array.getElem?_eq_some_iff.1 ho).1
  have e : ts[k]? = some ts[k] := List.getElem?_eq_getElem hlt
  exact ⟨ts[k], e, by simp only [T, e], by simp only [H, e], by simp only [V, e], by simp only [R, e]⟩
 have nextT : ∀ k t o, ts[k]? = some t → ops[k]? = some o → T (k + 1) = putT t.tm o.dst t.r.v ∧ H (k + 1) = t.r.h := fun k t o e ho => by
  obtain ⟨o', a1, _, a3⟩ := g5 k t e
  rw [Nat.zero_add, ho] at a1
  cases a1
  cases hn : ts[k + 1]? with
  | none => rw [hn] at a3; simp only [T, H, hn]; exact a3
  | some u => rw [hn] at a3; simp only [T, H, hn]; exact a3
 have old_mem : ∀ k i, i ∈ (R k).wr → i < (H k).n → i ∈ oldOf (H k).n (R k).wr := fun k i h1 h2 => by simp [oldOf, h1, h2]
 have T0 : T 0 = tm ∧ H 0 = h := by
  cases h0 : ts[0]? with
  | none => rw [h0] at g6; simp only [T, H, h0]; exact g6
  | some t => rw [h0] at g6; simp only [T, H, h0]; exact g6
 have hz : ts[ops.size]? = none := List.getElem?_eq_none (by omega)
 have Tn : T ops.size = tm' ∧ H ops.size = h' := by simp only [T, H, hz]; exact ⟨trivial, trivial⟩
 have hss : s < ops.size := (Array.getElem?_eq_some_iff.1 hs).1
 have fr_ : ∀ k, k < ops.size → AFr (W k) (H k) (H (k + 1)) := fun k hk => by
  obtain ⟨t, e, _, e2, _, e4⟩ := at_ k ops[k] (by simp)
  obtain ⟨o', a1, a2, _⟩ := g5 k t e
  rw [Nat.zero_add] at a1
  rw [(nextT k t o' e a1).2, e2]
  rcases a2 with ⟨_, hk, _⟩ | ⟨_, hk⟩
  ·
   have hk2 : OpRun P Ev (fun i => i ∈ (R k).wr) o' t.tm t.h t.r.v t.r.h := hk.2 Ev _ (fun _ => rfl) (fun _ _ => trivial) fun i hi => ⟨trivial, by rw [e4]; exact hi⟩
   have := hk2.old.fr
   rw [← e2] at this ⊢
   exact this
  · rw [hk]; exact .refl _ _
 have nle : ∀ k, k ≤ ops.size → h.n ≤ (H k).n := fun k => by
  induction k with
  | zero => intro _; rw [T0.2]; exact Nat.le_refl _
  | succ k ih => intro hk; exact Nat.le_trans (ih (by omega)) (fr_ k (by omega)).n
 have bl := AHeap.lt h0
 have keep : ∀ k, k < ops.size → k ≠ i0 → (H (k + 1)).get b = (H k).get b := fun k hk hne => by
  refine (fr_ k hk).get b (Nat.lt_of_lt_of_le bl (nle k (by omega))) fun hw => ?_
  obtain ⟨t, e, _, _, _, e4⟩ := at_ k ops[k] (by simp)
  obtain ⟨x, hx, hmx⟩ := hm.get (k := k) (n := t.h.n) (r := t.r) (by simp [e])
  have hno := how.at hx
  rw [Nat.zero_add] at hno
  have hno := hno.resolve_left hne
  have hwb : b ∈ t.r.wr := by rw [← e4]; exact hw.1
  cases x with
  | none => rw [hmx.2.1] at hwb; cases hwb
  | some e => exact hno (hmx.2.2.2.1 ▸ hwb)
 have front : ∀ k, k ≤ ops.size → k ≤ i0 → (H k).get b = h.get b := fun k => by
  induction k with
  | zero => intro _ _; rw [T0.2]
  | succ k ih => intro h1 h2; rw [keep k (by omega) (by omega)]; exact ih (by omega) (by omega)
 have behind : ∀ n k, k + n = ops.size → i0 < k → (H k).get b = h'.get b := fun n => by
  induction n with
  | zero => intro k hk _; rw [show k = ops.size by omega, Tn.2]
  | succ n ih => intro k hk hi; rw [← keep k (by omega) (by omega)]; exact ih (k + 1) (by omega) (by omega)
 have bat : ∀ k, k ≤ ops.size → ∃ c t, (H k).get b = some (.cells c t) ∧ c[off]? = some v := fun k hk => by
  rcases Nat.lt_or_ge i0 k with z | z
  · exact ⟨c1, t1, by rw [behind (ops.size - k) k (by omega) z]; exact h1, hv1⟩
  · exact ⟨c0, t0, by rw [front k hk z]; exact h0, hv0⟩
 have stay : ∀ (j d : Nat), (∀ i oi, j ≤ i → ops[i]? = some oi → oi.dst ≠ some d) → ∀ i, j ≤ i → i ≤ ops.size → (T i).getD d undef = (T j).getD d undef := fun j d hno i => by
  intro hji
  induction hji with
  | refl => exact fun _ => rfl
  | @step i hji ih =>
   intro hi
   obtain ⟨t, e, e1, _, _, _⟩ := at_ i ops[i] (by simp)
   rw [(nextT i t ops[i] e (by simp)).1, ← ih (by omega), e1]
   have hdd' := hno i ops[i] hji (by simp)
   cases hdd : ops[i].dst with
   | none => rfl
   | some d' =>
    have hne : d' ≠ d := fun x => hdd' (by rw [hdd, x])
    simp only [putT, List.getD_eq_getElem?_getD]
    rw [List.getElem?_set_ne hne]
 have tlen : ∀ k, k ≤ ops.size → (T k).length = tm.length := fun k => by
  induction k with
  | zero => intro _; rw [T0.1]
  | succ k ih =>
   intro hk
   obtain ⟨t, e, e1, _, _, _⟩ := at_ k ops[k] (by simp)
   rw [(nextT k t ops[k] e (by simp)).1, putT_len, ← e1]
   exact ih (by omega)
 obtain ⟨tS, eS, eS1, eS2, eS3, eS4⟩ := at_ s os hs
 have hVs : V s = v := by
  have h2 := stay (s + 1) dd (fun i oi hi => hdn i oi (by omega)) ops.size (by omega) (Nat.le_refl _)
  rw [Tn.1, hdv, (nextT s tS os eS hs).1, hds] at h2
  rw [eS3, h2]
  have hl2 := tlen s (by omega)
  simp only [putT, List.getD_eq_getElem?_getD]
  rw [List.getElem?_set_self (by rw [← eS1, hl2]; exact hdN)]
  rfl
 have hRs : (R s).same = true ∧ (R s).wr = [] := by
  obtain ⟨n, r, hr, hmr⟩ := hm.get2 hec
  rw [List.getElem?_map, eS] at hr
  simp only [Option.map_some, Option.some.injEq, Prod.mk.injEq] at hr
  obtain ⟨rfl, rfl⟩ := hr
  rw [eS4]
  exact ⟨by rw [hmr.2.2.2.2.2]; exact hsm, by rw [hmr.2.2.2.1]; exact hwe⟩
 have hHs : H (s + 1) = H s := by
  rw [(nextT s tS os eS hs).2, eS2]
  obtain ⟨o', a1, a2, _⟩ := g5 s tS eS
  rcases a2 with ⟨_, hk, _⟩ | ⟨_, hk⟩
  · exact hk.1 (by rw [← eS4]; exact hRs.1)
  · rw [hk]
 have tr : Trace P ops T H V D W L := {
  step := fun k o ho => by
   obtain ⟨t, e, e1, e2, e3, e4⟩ := at_ k o ho
   obtain ⟨o', a1, a2, _⟩ := g5 k t e
   rw [Nat.zero_add, ho] at a1
   cases a1
   have nx := nextT k t o e ho
   by_cases hks : k = s
   ·
    subst hks
    rw [hs] at ho
    cases ho
    refine .inr (.inr ⟨by simp [Region.wanted, hgs], hHs, fun i hi => hi.1 rfl, b, fun p hp _ => ?_⟩)
    obtain ⟨c, t', hc, hcv⟩ := bat p hp
    refine OpRun.load (b := b) hop ?_ rfl
    have hq2 : evalT (T k) (.tmp qq) = .pointer (some ⟨b, off, none⟩) := by
     rw [← hqv, ← Tn.1]
     exact (stay k qq hqn ops.size (by omega) (Nat.le_refl _)).symm
    rw [hq2, hVs]
    simp [aLoad, rowOf, hc, hct.h, hcv]
   rcases a2 with ⟨hw, hk, _⟩ | ⟨hw, hk⟩
   ·
    refine .inl ⟨by rw [e1]; exact hw, ?_⟩
    rw [e1, e2, e3, nx.2]
    have hk2 : OpRun P (D k) (fun i => i ∈ (R k).wr) o t.tm t.h t.r.v t.r.h := ?_
    ·
     have := hk2.old
     rw [← e2] at this
     rw [← e2]
     exact this
    refine hk.2 (D k) (fun i => i ∈ (R k).wr) (fun hall => ?_) (fun i hi => ?_) fun i hi => ⟨?_, ?_⟩
    ·
     funext i
     apply propext
     exact ⟨fun _ => trivial, fun _ => ⟨hks, .inl (by rw [e4]; exact hall)⟩⟩
    · exact ⟨hks, .inr (.inl (by rw [e4]; exact hi))⟩
    · exact ⟨hks, .inr (.inr (.inl (by rw [e4]; exact hi)))⟩
    ·
     show i ∈ (R k).wr
     rw [e4]; exact hi
   · refine .inr (.inl ⟨by rw [e1]; exact hw, by rw [e3, hk], by rw [nx.2, hk, e2]⟩)
  tm := fun k o ho => by
   obtain ⟨t, e, e1, e2, e3, e4⟩ := at_ k o ho
   rw [(nextT k t o e ho).1, e1, e3]
  own := fun k hl i hi => by
   apply Classical.byContradiction
   intro hlt
   have := old_mem k i hi.1 hi.2
   exact hl fun e => by rw [e] at this; cases this
  new := fun k i h1 h2 => by
   refine ⟨fun hks => ?_, .inr (.inr (.inr ⟨h1, h2⟩))⟩
   subst hks
   rw [hHs] at h2
   omega
  rw := fun k i _ hi => by
   refine ⟨fun hks => ?_, .inr (.inr (.inl hi.1))⟩
   subst hks
   have := hi.1
   rw [hRs.2] at this
   cases this
  apart := fun i j oi oj hij hi hj => by
   have h1 := apartAll_spec ops.toList 0 hap j oj (by simpa using hj)
   rw [Nat.zero_add] at h1
   have := apartRow_spec ops.toList 0 h1 i oi (by simpa using hi) (by omega)
   rwa [Nat.zero_add] at this
  loud := fun i j hL hij his hjs h1 h2 => by
   by_cases hsj : j = s
   ·
    subst hsj
    exact ⟨.inr hHs, fun id _ hD => hD.1 rfl⟩
   obtain ⟨ti, ei, _, ei2, _, ei4⟩ := at_ i ops[i] (by simp [his])
   obtain ⟨tj, ej, ej1, ej2, _, ej4⟩ := at_ j ops[j] (by simp [hjs])
   obtain ⟨xi, hxi, hmi⟩ := hm.get (k := i) (n := ti.h.n) (r := ti.r) (by simp [ei])
   obtain ⟨xj, hxj, hmj⟩ := hm.get (k := j) (n := tj.h.n) (r := tj.r) (by simp [ej])
   have hne : oldOf ti.h.n ti.r.wr ≠ [] := by rw [← ei2, ← ei4]; exact hL
   cases xi with
   | none =>
    rw [hmi.2.1] at hne
    exact absurd rfl hne
   | some xe =>
    have row := hps.at hxi
    rw [Nat.zero_add] at row
    have row := row.resolve_left fun hw => hne (by
     unfold oldOf
     rw [List.filter_eq_nil_iff]
     intro b hb
     have := hw b (hmi.2.2.2.1 ▸ hb)
     have := hmi.1
     simp; omega)
    have pr := row.at hxj
    rw [Nat.zero_add] at pr
    have pr := pairP_ok hmj (w' := oldOf ti.h.n ti.r.wr) (fun b hb => by unfold oldOf at hb; rw [← hmi.2.2.2.1]; exact (List.mem_filter.1 hb).1) (pr.resolve_left hsj)
    unfold loudPair at pr
    have hij' : (i == j) = false := by simpa using hij
    rw [hij', h1, h2] at pr
    simp only [Bool.false_or, Bool.and_eq_true, Bool.not_eq_true'] at pr
    obtain ⟨⟨hsame, hall⟩, hdis⟩ := pr
    obtain ⟨o', a1, a2, _⟩ := g5 j tj ej
    rw [Nat.zero_add] at a1
    have nx := nextT j tj o' ej a1
    have hh : tj.r.same = true → tj.r.h = tj.h := fun hsm => by
     rcases a2 with ⟨_, hk, _⟩ | ⟨_, hk⟩
     · exact hk.1 hsm
     · rw [hk]
    refine ⟨?_, fun id hid hD => ?_⟩
    ·
     rw [Bool.or_eq_true] at hsame
     rcases hsame with h3 | h3
     · exact .inr (by rw [nx.2, hh h3, ej2])
     ·
      refine .inl fun hLj => hLj ?_
      rw [ej4, ej2]; exact List.isEmpty_iff.1 h3
    ·
     have hid' : id ∈ oldOf ti.h.n ti.r.wr := by rw [← ei4, ← ei2]; exact old_mem i id hid.1 hid.2
     have hno := List.all_eq_true.1 hdis id hid'
     simp only [Bool.and_eq_true, Bool.not_eq_true', Bool.or_eq_true, decide_eq_true_eq] at hno
     obtain ⟨⟨n1, n2⟩, n3⟩ := hno
     rcases hD.2 with h3 | h3 | h3 | h3
     · rw [ej4, hall] at h3; cases h3
     ·
      rw [ej4] at h3
      rw [List.contains_iff_mem.2 h3] at n1; cases n1
     ·
      rw [ej4] at h3
      rw [List.contains_iff_mem.2 h3] at n2; cases n2
     · rw [nx.2, ej2] at h3; omega
  wlt := fun k i hi => hi.2
  edge := fun k o e ho hee hb => by
   have := edgeAll_spec ops.toList 0 hed k o (by simpa using ho) e hee hb
   omega
  opds := hops }
 have run := Run.draws (q := q) (Wt := Wt) hmix tr (fun k hk hL i hi hi0 => by
  obtain ⟨t, e, _, _, _, e4⟩ := at_ k ops[k] (by simp [hk])
  obtain ⟨o', a1, a2, _⟩ := g5 k t e
  have hi1 : i ∈ t.r.wr := by rw [← e4]; exact hi.1
  rcases a2 with ⟨_, _, hW⟩ | ⟨_, hk⟩
  · exact hW i hi1
  · rw [hk] at hi1; cases hi1) id df
 rw [T0.1, T0.2, Tn.1, Tn.2] at run
 exact run
end
def SoftEnd (P : Program) (W : Nat → Prop) (q : Bool) (k : List It) (df : List Nat) (Q : PQ) (b off : Nat) (v : Value) (qq dd : Nat) (tm : List Value) (df' : List Nat) (h : AHeap) : Prop :=
 tm.getD qq undef = .pointer (some ⟨b, off, none⟩) ∧ tm.getD dd undef = v ∧ (∃ c t, h.get b = some (.cells c t) ∧ c[off]? = some v) ∧ Gx P W q k .normal tm df h Q
section
variable {P : Program} {W : Nat → Prop} {q : Bool} {N : Nat} {k : List It} {ov : Ov} {df : List Nat} {h : AHeap} {Q : PQ} {id : Nat} {ops : Array Oper} {os : List Oper}
theorem Go.loudS (s i0 : Nat) {ty qq dd b off : Nat} {v : Value} {o : Oper} {c0 : List Value} {t0 : TypeId} (hk : drawOk P ops = true) (ho : ops.toList = os) (hs : ops[s]? = some o) (hop : o.op = .load ty (.tmp qq)) (hds : o.dst = some dd) (hgs : o.guard = none) (hqn : ((ops.toList.drop s).all fun o => o.dst != some qq) = true) (hdn : ((ops.toList.drop (s + 1)).all fun o => o.dst != some dd) = true) (hdN : Nat.blt dd N = true) [hct : CT P ty none] (h0 : h.get b = some (.cells c0 t0)) (hv0 : c0[off]? = some v)
  (g : GoL P W q N ops [] os (.soft (softR ops s b i0) :: .back (SoftEnd P W q k df Q b off v qq dd) :: []) ov df h Q) : Go P W q N (.code (.region id ops true) :: k) .normal ov df h Q := by
 subst ho
 refine Go.code fun tm hN hr => ?_
 obtain ⟨tm', h', ts, ⟨f, g1⟩, g2, g3, g4, g5⟩ := RdP.trace (k := 0) (by simp) (g tm hN hr)
 obtain ⟨tl, f1, f2⟩ := f
 obtain ⟨e1, e2, ⟨c1, t1, e3, e4⟩, e5⟩ := (show (Exit.normal = .normal → SoftEnd P W q k df Q b off v qq dd tm' df h') ∧ _ from g1).1 rfl
 have hno : ∀ (n d : Nat), ((ops.toList.drop n).all fun o => o.dst != some d) = true → ∀ i oi, n ≤ i → ops[i]? = some oi → oi.dst ≠ some d := fun n d ha i oi hi he hx => by
  have hm : oi ∈ ops.toList.drop n := by
   have : (ops.toList.drop n)[i - n]? = some oi := by rw [List.getElem?_drop, show n + (i - n) = i by omega]; simpa using he
   exact List.mem_of_getElem? this
  have := List.all_eq_true.1 ha oi hm
  rw [hx] at this
  simp at this
 by_cases hp : loudP ops tl tl 0
 · exact ⟨.normal, tm', df, h', Run.drawn hk (loudP_ok f1 f1 hp) (by simpa using g3) g4 g5, g2, e5⟩
 have f2 : softR ops s b i0 tl := by
  rcases f2 with f2 | f2
  · exact absurd (by simpa using f2) hp
  · exact (show escP (.soft (softR ops s b i0) :: .back (SoftEnd P W q k df Q b off v qq dd) :: []) tl by simpa using f2)
 exact ⟨.normal, tm', df, h', Run.drawnS hk f1 f2 (by simpa using g3) hs hop hds hgs (hno s qq hqn) (fun i oi hi => hno (s + 1) dd hdn i oi hi) hct h0 hv0 e3 e4 e1 e2 (by rw [hN]; exact Nat.le_of_ble_eq_true hdN) g4 g5, g2, e5⟩
theorem GoL.endS {s i0 b off qq dd : Nat} {v : Value} {tr : List (Option LE)} {c : List Value} {t : TypeId} (hl : loudPS ops s tr tr 0) (ho : onlyW b i0 tr 0) (hc : calmE s tr) (hq : ov.find qq = some (.pointer (some ⟨b, off, none⟩))) (hd : ov.find dd = some v) (hg : h.get b = some (.cells c t)) (hv : c[off]? = some v) (g : Go P W q N k .normal ov df h Q) : GoL P W q N ops tr [] (.soft (softR ops s b i0) :: .back (SoftEnd P W q k df Q b off v qq dd) :: []) ov df h Q := fun tm hN hr =>
 ⟨⟨[], trivial, .inr (by simpa [escP, softR] using And.intro hl (And.intro ho hc))⟩, ⟨fun _ => ⟨hr _ _ hq, hr _ _ hd, ⟨c, t, hg, hv⟩, g tm hN hr⟩, fun e => absurd rfl e⟩⟩
end
section
variable {ops : Array Oper} {all : List (Option LE)} {es : List (Option LE)} {e : LE} {i s : Nat}
theorem loudPS.nil : loudPS ops s all [] i := trivial
theorem loudPS.none (k : loudPS ops s all es (i + 1)) : loudPS ops s all (none :: es) i := k
theorem loudPS.new (hw : ∀ b ∈ e.wr, e.n ≤ b) (k : loudPS ops s all es (i + 1)) : loudPS ops s all (some e :: es) i := ⟨.inl hw, k⟩
theorem loudPS.row (hr : loudRowPS ops s e.wr i all 0) (k : loudPS ops s all es (i + 1)) : loudPS ops s all (some e :: es) i := ⟨.inr hr, k⟩
variable {w : List Nat} {j : Nat}
theorem loudRowPS.nil : loudRowPS ops s w i [] j := trivial
theorem loudRowPS.none (k : loudRowPS ops s w i es (j + 1)) : loudRowPS ops s w i (none :: es) j := ⟨.inr trivial, k⟩
theorem loudRowPS.soft {e : Option LE} (h : j = s) (k : loudRowPS ops s w i es (j + 1)) : loudRowPS ops s w i (e :: es) j := ⟨.inl h, k⟩
theorem loudRowPS.one {e : Option LE} (h : pairP ops w i j e) (k : loudRowPS ops s w i es (j + 1)) : loudRowPS ops s w i (e :: es) j := ⟨.inr h, k⟩
end
end Go.Proofs.Ytccbmmnkiihkaaa