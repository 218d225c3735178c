/- What the law leans on, part 9. No conditions. -/
import Derived.KernelRfl
import Derived.ProofKit
import Derived.OpenShut
import Derived.ChangeOld
import Derived.WideShapes
import Derived.Test.YtjpegoigipbmiaaPktBackPart8
set_option linter.unusedVariables false
set_option linter.unusedSimpArgs false
namespace Go.Proofs.Ytjpegoigipbmiaa
theorem htk_put {f t g : Nat} {z : List UInt8} (hf : f < 65536) (ht : t < 65536) (hg : g < 4294967296) (hl : z.length ≤ 1488) (h4 : z.length % 4 = 0) : htk (hput f t g z) = .ok (f, t, g) ∧ (hput f t g z).drop 12 = z := by
  obtain ⟨h1, h2, h3, h5, h6⟩ := hput_ok f t g z hf ht hg
  have hn := hput_len f t g z
  refine ⟨?_, h6⟩
  unfold htk
  rw [if_neg (by omega), if_neg (by omega), if_neg (by omega), if_neg (by rw [h5]; simp), h1, h2, h3]
def upTo (l : List CP) : List CP := l.takeWhile fun x => !endsB x.1.k
theorem cbytes_ok {x : CP} {y : List UInt8} (h : cbytes x = .ok y) : ∃ v, may x.1 x.2.gaps = true ∧ cval x.1 x.2 = some v ∧ v.length ≤ 65531 ∧ y = tb true (x.1.k, x.1.f, v) := by
  unfold cbytes at h
  split at h
  · rename_i hm
    split at h
    · rename_i v hv
      split at h
      · rename_i hl
        cases h
        exact ⟨v, hm, hv, hl, rfl⟩
      · cases h
    · cases h
  · cases h
theorem body_things {H : AHeap} : ∀ (l : List CP) (z : List UInt8), (∀ x ∈ l, COk H x.1 x.2) → bodyP l = .ok z → ∃ ts, z = tbs true ts ∧ (∀ x ∈ ts, Puts true x) ∧ ∀ acc, goP ts true acc = .ok (acc ++ pcs (upTo l)) := by
  intro l
  induction l with
  | nil =>
    intro z ho h
    simp only [bodyP] at h
    cases h
    exact ⟨[], rfl, (fun x hx => by cases hx), fun acc => by simp [goP, upTo, pcs]⟩
  | cons x l ih =>
    intro z ho h
    simp only [bodyP] at h
    cases hx : cbytes x with
    | error e => rw [hx] at h; cases h
    | ok y =>
      cases hb : bodyP l with
      | error e => rw [hx, hb] at h; cases h
      | ok r =>
        rw [hx, hb] at h
        simp only at h
        cases h
        obtain ⟨ts, rfl, t2, t3⟩ := ih r (fun w hw => ho w (List.mem_cons_of_mem _ hw)) hb
        obtain ⟨c, d⟩ := x
        obtain ⟨v, hm, hv, hl, rfl⟩ := cbytes_ok hx
        have okc : COk H c d := ho (c, d) (List.mem_cons_self ..)
        simp only at hm hv
        refine ⟨(c.k, c.f, v) :: ts, rfl, ?_, fun acc => ?_⟩
        · intro w hw
          rcases List.mem_cons.1 hw with rfl | hw
          · exact ⟨by have := okc.k; show c.k < 65536; omega, okc.f, fun _ => by have := okc.k; show c.k ≤ 255; omega, (fun e => by cases e), hl⟩
          · exact t2 w hw
        · simp only [goP, tk_put okc hm hv, t3]
          cases hE : endsB c.k
          · simp [upTo, List.takeWhile, hE, pcs]
          · simp [upTo, List.takeWhile, hE, pcs]
theorem pmay_pre {g : Nat} {l : List CP} (h : pmay g l = true) (hne : upTo l ≠ []) : pmay g (upTo l) = true := by
  have hsub : ∀ x ∈ upTo l, x ∈ l := fun x hx => List.takeWhile_subset _ hx
  have h0 : 0 < (upTo l).length := List.length_pos_iff.2 hne
  have hle : (upTo l).length ≤ l.length := (List.takeWhile_sublist _).length_le
  unfold pmay at h ⊢
  simp only [Bool.and_eq_true, decide_eq_true_eq, Bool.or_eq_true, Bool.not_eq_true', beq_iff_eq] at h ⊢
  obtain ⟨⟨h1, h2⟩, h3⟩ := h
  rcases Nat.lt_or_ge 1 l.length with q | q
  · have ha : anyA l = false := h2.resolve_left (by omega)
    have ha' : anyA (upTo l) = false := by
      unfold anyA at ha ⊢
      rw [List.any_eq_false] at ha ⊢
      exact fun x hx => ha x (hsub x hx)
    have ks : ∀ m : List CP, anyA m = false → anyS m = false := fun m hm => by
      unfold anyA at hm
      unfold anyS
      rw [List.any_eq_false] at hm ⊢
      intro z hz hs
      refine hm z hz ?_
      simp only [startB, decide_eq_true_eq] at hs
      simp [aloneB, hs]
    refine ⟨⟨h0, .inr ha'⟩, ?_⟩
    rw [ks _ ha']
    rw [ks _ ha] at h3
    exact h3
  · have e : upTo l = l := List.Sublist.eq_of_length (List.takeWhile_sublist _) (by omega)
    rw [e]
    exact ⟨⟨h1, .inl q⟩, h3⟩
theorem take6_of {H : AHeap} {f t g : Nat} {l : List CP} {z : List UInt8} (hf : f < 65536) (ht : t < 65536) (hg : g < 4294967296) (ho : ∀ x ∈ l, COk H x.1 x.2) (hb : bodyP l = .ok z) (hl : z.length ≤ 1488) (h4 : z.length % 4 = 0) (hm : pmay g l = true) : take6 (hput f t g z) = if upTo l = [] then .error 60 else .ok (f, t, g, pcs (upTo l)) := by
  obtain ⟨ts, rfl, t2, t3⟩ := body_things l z ho hb
  obtain ⟨k1, k2⟩ := htk_put hf ht hg hl h4
  have hpt := parse_tbs (chunk := true) ts t2 []
  rw [List.append_nil, parse_nil, List.append_nil] at hpt
  unfold take6
  rw [k1]
  simp only
  rw [k2, hpt]
  simp only
  rw [t3]
  simp only [List.nil_append]
  split
  · rename_i he
    rw [← pmay_k] at he
    rw [if_neg (fun e => by rw [e] at he; cases he)]
  · rename_i he
    rw [← pmay_k] at he
    by_cases hne : upTo l = []
    · rw [if_pos hne]
    · exact absurd (pmay_pre hm hne) he
end Go.Proofs.Ytjpegoigipbmiaa
namespace Go.Proofs.Ytjpegoigipbmiaa
open Go.RowKit
set_option maxRecDepth 100000
attribute [local irreducible] Go GoR GoL
def asB6 : Value → AHeap → List Nat → Option Bool
  | .bool b, _, _ => some b
  | _, _, _ => none
theorem asB6_true {v : Value} {h : AHeap} {wr : List Nat} (e : asB6 v h wr = some true) : v = .bool true := by
  unfold asB6 at e
  split at e
  · cases e; rfl
  · cases e
theorem known06Run : callK (A := Bool) Try.prog rowS (fev Try.prog rowS 20000) 8 [] emptyH asB6 = some true := by kernel_rfl
theorem known06 (h : AHeap) : CallS Try.prog [] 8 [] h fun u h' => u = .bool true ∧ h' = h := by
  obtain ⟨v, h', wr, hc, he⟩ := callRun_of rowS_ok known06Run
  obtain rfl := asB6_true he
  exact CallS.known noGlobals hc rfl h
def psz (c : Ck) (d : CD) : Nat :=
  if may c d.gaps = true then match cval c d with
    | some x => if x.length ≤ 65531 then (tlvB true c.k c.f x).length else 0
    | none => 0
  else 0
theorem putR_sz {h h' : AHeap} {v : Value} {c : Ck} {d : CD} (r : PutR h h' v c d) : ∃ (b : Option Addr) (n cap e : Nat), v = .tuple #[.slice b n cap, .int .i64 e] ∧ n = psz c d ∧ (e ≠ 0 → n = 0) := by
  unfold PutR at r
  unfold psz
  split at r
  · rename_i hm
    rw [if_pos hm]
    unfold PutV at r
    split at r
    · rename_i hx
      exact ⟨none, 0, 0, 3, r, by rw [hx], fun _ => rfl⟩
    · rename_i x hx
      rw [hx]
      simp only
      split at r
      · rename_i hl
        rw [if_pos hl]
        obtain ⟨b, cap, rfl, hb, ob⟩ := r
        exact ⟨b, _, cap, 0, rfl, rfl, fun e => absurd rfl e⟩
      · rename_i hl
        rw [if_neg hl]
        exact ⟨none, 0, 0, 3, r, rfl, fun _ => rfl⟩
  · rename_i hm
    rw [if_neg hm]
    exact ⟨none, 0, 0, 50, r, rfl, fun _ => rfl⟩
theorem psize_spec (c : Ck) (d : CD) (h : AHeap) (ok : COk h c d) (hD : c.D.n ≤ 1000000000) (hC : c.C.n ≤ 2000000) : CallS Try.prog [] 19 [c.v] h fun v h' => v = .int .i64 (psz c d) := by
  unfold Ck.v
  (refine CallS.of1 Try.func19 rfl Try.ntmps19 Try.results19 rfl ?_)
  (iterate 4 (first|(refine Go.kk 0 rfl ?_;refine Go.seq ?_)|(refine Go.kk 1 rfl ?_;refine Go.region (by kernel_rfl) rfl ?_)|(refine GoR.kk 0 rfl ?_;first|refine GoR.move rfl rfl rfl rfl rfl ?_|refine GoR.assign rfl rfl rfl rfl rfl ?_)|(refine GoR.kk 8 rfl ?_;first|refine GoR.boxA rfl rfl rfl rfl rfl ?_|refine GoR.boxS rfl rfl rfl rfl rfl rfl ?_|refine GoR.alloc rfl rfl rfl rfl ?_)|refine GoR.end ?_))
  refine GoR.name ?_
  intro h3 e3
  have G0 : h3.get h.n = some (.cells c.cs 43) := by subst e3; exact AHeap.get_push_same h _
  have n3 : h3.n = h.n + 1 := by subst e3; rfl
  have S3 : Same h h3 := by subst e3; exact (Same.refl h).push _
  clear e3
  unfold Ck.cs at G0
  (refine Go.run (g:=?_))
  refine GoR.call rfl rfl rfl rfl rfl rfl rfl (((cput_spec c d _ (ok.same S3) hD hC).argA).mono ?_)
  intro v4 h4 hv4 s4
  obtain ⟨b4, m4, c4, e4, rfl, hn, he⟩ := putR_sz hv4
  by_cases z : e4 = 0
  · subst z
    (refine Go.run (g:=?_))
    (first|refine Go.finT (by first|exact .inr rfl|exact .inl rfl) rfl ?_|refine Go.fin1 (by first|exact .inr rfl|exact .inl rfl) rfl (hq:=?_))
    rw [← hn]; rfl
  · have z' : ¬ (e4 : Int) = 0 := by omega
    have hn0 := he z
    subst hn0
    (refine Go.run (g:=?_))
    (first|refine Go.finT (by first|exact .inr rfl|exact .inl rfl) rfl ?_|refine Go.fin1 (by first|exact .inr rfl|exact .inl rfl) rfl (hq:=?_))
    rw [← hn]; rfl
end Go.Proofs.Ytjpegoigipbmiaa
namespace Go.Proofs.Ytjpegoigipbmiaa
theorem flip_ne {y : List UInt8} {q : Nat} {x : UInt8} (h12 : 12 ≤ y.length) (hq : q < y.length) (hx : x ≠ 0) (hs : beNum ((y.drop 8).take 4) = headSum y) : beNum (((y.set q (y[q] ^^^ x)).drop 8).take 4) ≠ headSum (y.set q (y[q] ^^^ x)) := by
  have hx0 : x.toNat ≠ 0 := fun e => hx (UInt8.toNat_inj.1 e)
  have hx8 : x.toNat < 256 := UInt8.toNat_lt x
  by_cases hr : q < 8 ∨ 12 ≤ q
  · rw [drop_take_set hr, hs, headSum_zero, headSum_zero, zero12_set h12 hr]
    have hz : q < (zero12 y).length := by rw [zero12_len h12]; exact hq
    have hg : (zero12 y)[q] = y[q] := by
      have := zero12_get h12 hr
      rw [List.getElem?_eq_getElem hz, List.getElem?_eq_getElem hq] at this
      exact Option.some.inj this
    rw [← hg]
    exact Ne.symm (Crc.more_burst 0 _ (zero12 y) (8 * q) x.toNat (by decide) (by simp) (by omega) hx0 (by omega) (Crc.num_set x (zero12 y) q hz))
  · have e1 : (y.set q (y[q] ^^^ x)).take 8 = y.take 8 := by
      apply List.ext_getElem?
      intro i
      rw [List.getElem?_take, List.getElem?_take]
      split
      · rw [List.getElem?_set_ne (by omega)]
      · rfl
    have e2 : (y.set q (y[q] ^^^ x)).drop 12 = y.drop 12 := by
      apply List.ext_getElem?
      intro i
      rw [List.getElem?_drop, List.getElem?_drop, List.getElem?_set_ne (by omega)]
    have e : headSum (y.set q (y[q] ^^^ x)) = headSum y := by rw [headSum_zero, headSum_zero, zero12, zero12, e1, e2]
    rw [e, ← hs]
    intro hb
    have hb' := beNum_inj (by simp) hb
    have e4 : ∀ z : List UInt8, z = z.take 8 ++ ((z.drop 8).take 4 ++ z.drop 12) := fun z => by
      have : z.drop 12 = (z.drop 8).drop 4 := by rw [List.drop_drop]
      rw [this, List.take_append_drop, List.take_append_drop]
    have hl : y.set q (y[q] ^^^ x) = y := by rw [e4 (y.set q (y[q] ^^^ x)), e1, e2, hb', ← e4 y]
    have hn := Crc.num_set x y q hq
    rw [hl] at hn
    have : x.toNat * 2 ^ (8 * q) = 0 := by
      have := congrArg (Crc.num y ^^^ ·) hn
      simp only [Nat.xor_self, Crc.xor_cancel] at this
      exact this.symm
    have hp : 0 < 2 ^ (8 * q) := Nat.two_pow_pos _
    rcases Nat.mul_eq_zero.1 this with h | h <;> omega
theorem take6_flip {f t g : Nat} {z : List UInt8} {q : Nat} {x : UInt8} (hf : f < 65536) (ht : t < 65536) (hg : g < 4294967296) (hl : z.length ≤ 1488) (h4 : z.length % 4 = 0) (hq : q < (hput f t g z).length) (hx : x ≠ 0) : take6 ((hput f t g z).set q ((hput f t g z)[q] ^^^ x)) = .error 31 := by
  obtain ⟨h1, h2, h3, h5, h6⟩ := hput_ok f t g z hf ht hg
  have hn := hput_len f t g z
  have := flip_ne (by omega) hq hx h5
  unfold take6 htk
  rw [List.length_set, if_neg (by omega), if_neg (by omega), if_neg (by omega), if_pos this]
def pszs (l : List CP) : Nat := (l.map fun x => psz x.1 x.2).sum
theorem psz_of {x : CP} {y : List UInt8} (h : cbytes x = .ok y) : psz x.1 x.2 = y.length := by
  unfold cbytes at h
  unfold psz
  split at h
  · rename_i hm
    rw [if_pos hm]
    split at h
    · rename_i v hv
      rw [hv]
      simp only
      split at h
      · rename_i hl
        cases h
        rw [if_pos hl]
      · cases h
    · cases h
  · cases h
theorem psz_le (c : Ck) (d : CD) : psz c d ≤ 65540 := by
  unfold psz
  split
  · split
    · split
      · rw [tlvB_length]; omega
      · omega
    · omega
  · omega
theorem pszs_of : ∀ {l : List CP} {z : List UInt8}, bodyP l = .ok z → pszs l = z.length
  | [], z, h => by simp only [bodyP] at h; cases h; rfl
  | x :: l, z, h => by
    simp only [bodyP] at h
    cases hx : cbytes x with
    | error e => rw [hx] at h; cases h
    | ok y =>
      cases hb : bodyP l with
      | error e => rw [hx, hb] at h; cases h
      | ok r =>
        rw [hx, hb] at h
        simp only at h
        cases h
        have := pszs_of hb
        rw [List.length_append, ← psz_of hx, ← this]
        rfl
theorem pszs_snoc (l : List CP) (x : CP) : pszs (l ++ [x]) = pszs l + psz x.1 x.2 := by simp [pszs]
def anyE (l : List CP) : Bool := l.any fun x => endsB x.1.k
theorem upTo_snoc (l : List CP) (x : CP) : upTo (l ++ [x]) = if anyE l = true then upTo l else if endsB x.1.k = true then upTo l else upTo l ++ [x] := by
  induction l with
  | nil => cases h : endsB x.1.k <;> simp [upTo, anyE, List.takeWhile, h]
  | cons y l ih =>
    cases h : endsB y.1.k
    · have e1 : upTo (y :: (l ++ [x])) = y :: upTo (l ++ [x]) := by simp [upTo, List.takeWhile, h]
      have e2 : upTo (y :: l) = y :: upTo l := by simp [upTo, List.takeWhile, h]
      have e3 : anyE (y :: l) = anyE l := by simp [anyE, h]
      rw [List.cons_append, e1, e2, e3, ih]
      split
      · rfl
      · split <;> rfl
    · have e1 : upTo (y :: (l ++ [x])) = [] := by simp [upTo, List.takeWhile, h]
      have e2 : upTo (y :: l) = [] := by simp [upTo, List.takeWhile, h]
      have e3 : anyE (y :: l) = true := by simp [anyE, h]
      rw [List.cons_append, e1, e2, e3]
      rfl
theorem anyE_snoc (l : List CP) (x : CP) : anyE (l ++ [x]) = (anyE l || endsB x.1.k) := by simp [anyE]
theorem body_pre {l : List CP} {z : List UInt8} (h : bodyP l = .ok z) : z.length % 4 = 0 := by
  induction l generalizing z with
  | nil => simp only [bodyP] at h; cases h; rfl
  | cons x l ih =>
    simp only [bodyP] at h
    cases hx : cbytes x with
    | error e => rw [hx] at h; cases h
    | ok y =>
      cases hb : bodyP l with
      | error e => rw [hx, hb] at h; cases h
      | ok r =>
        rw [hx, hb] at h
        simp only at h
        cases h
        have := (cbytes_len hx).2
        have := ih hb
        rw [List.length_append]; omega
theorem putP_cases {h h' : AHeap} {v : Value} {f t g : Nat} {l : List CP} (r : PktR h h' v f t g l) : ∃ (b : Option Addr) (m c e : Nat), v = .tuple #[.slice b m c, .int .i64 e] ∧ ((e = 0 ∧ pmay g l = true ∧ ∃ z, bodyP l = .ok z ∧ z.length ≤ 1488 ∧ m = 12 + z.length ∧ Sv h' 5 1 b m c ((hput f t g z).map bv) ∧ Own h.n b) ∨ (e ≠ 0 ∧ b = none ∧ m = 0 ∧ c = 0)) := by
  unfold PktR at r
  split at r
  · rename_i hm
    split at r
    · rename_i e he
      refine ⟨none, 0, 0, e, r, .inr ⟨?_, rfl, rfl, rfl⟩⟩
      clear r hm
      induction l with
      | nil => simp only [bodyP] at he; cases he
      | cons x l ih =>
        simp only [bodyP] at he
        cases hx : cbytes x with
        | error e' => rw [hx] at he; cases he; exact cbytes_err hx
        | ok y =>
          cases hb : bodyP l with
          | error e' => rw [hx, hb] at he; simp only at he; cases he; exact ih hb
          | ok r => rw [hx, hb] at he; cases he
    · rename_i z hz
      split at r
      · exact ⟨none, 0, 0, 3, r, .inr ⟨by decide, rfl, rfl, rfl⟩⟩
      · obtain ⟨b, c, rfl, sv, o⟩ := r
        have hn := hput_len f t g z
        rw [hn] at sv ⊢
        exact ⟨b, _, c, 0, rfl, .inl ⟨rfl, hm, z, hz, by omega, rfl, sv, o⟩⟩
  · exact ⟨none, 0, 0, 60, r, .inr ⟨by decide, rfl, rfl, rfl⟩⟩
end Go.Proofs.Ytjpegoigipbmiaa
namespace Go.Proofs.Ytjpegoigipbmiaa
theorem KS.nil (h : AHeap) : KS h none 0 0 [] := ⟨rfl, Rv.nil, fun x hx => by cases hx⟩
end Go.Proofs.Ytjpegoigipbmiaa
namespace Go.Proofs.Ytjpegoigipbmiaa
set_option maxRecDepth 100000
attribute [local irreducible] Go GoR GoL
end Go.Proofs.Ytjpegoigipbmiaa
namespace Go.Proofs.Ytjpegoigipbmiaa
set_option maxRecDepth 100000
attribute [local irreducible] Go GoR GoL
end Go.Proofs.Ytjpegoigipbmiaa
namespace Go.Proofs.Ytjpegoigipbmiaa
set_option maxRecDepth 100000
attribute [local irreducible] Go GoR GoL
structure VS (h0 h : AHeap) (zs : List UInt8) (b : Option Addr) (cap : Nat) : Prop where
  same : Same h0 h
  sv : Sv h 5 1 b zs.length cap (zs.map bv)
  own : Own h0.n b
theorem VS.append {h0 h1 h8 h9 : AHeap} {zs new : List UInt8} {len : Nat} {b1 b9 : Option Addr} {c1 c9 : Nat} (w : VS h0 h1 zs b1 c1) (s8 : Same h1 h8) (hs9 : Sv h9 5 1 b9 len c9 (zs.map bv ++ new.map bv)) (k9 : Keeps (blk b1) h8 h9) (o9 : ∀ i ∈ blk b9, i ∈ blk b1 ∨ h8.n ≤ i) (hlen : len = zs.length + new.length) : VS h0 h9 (zs ++ new) b9 c9 := by
  subst hlen
  have m8 := s8.1
  have m9 := k9.1
  have m0 := w.same.1
  refine ⟨(w.same.trans s8).ownO k9 w.own (Nat.le_refl _), ?_, w.own.app (by omega) o9⟩
  rw [List.length_append, List.map_append]
  exact hs9
theorem VS.to {h0 h h1 : AHeap} {zs : List UInt8} {b : Option Addr} {cap : Nat} (w : VS h0 h zs b cap) (s1 : Same h h1) : VS h0 h1 zs b cap := ⟨w.same.trans s1, w.sv.same s1, w.own⟩
theorem VS.wr {h0 h : AHeap} {zs : List UInt8} {n : Nat} {b : Option Addr} {cap : Nat} (w : VS h0 h zs b cap) (hle : n ≤ h0.n) : ∀ i ∈ blk b, i ∈ ([] : List Nat) ∨ n ≤ i := fun i hi => .inr (Nat.le_trans hle (w.own i hi))
theorem VS.of {h0 h h1 : AHeap} {v : Value} {zs : List UInt8} (s : Same h0 h) (o : OwnS h h1 v zs) (s1 : Same h h1) : ∃ b cap, v = .slice b zs.length cap ∧ VS h0 h1 zs b cap := by
  obtain ⟨b, cap, rfl, hb, ob⟩ := o
  exact ⟨b, cap, rfl, s.trans s1, hb, ob.mono s.1⟩
end Go.Proofs.Ytjpegoigipbmiaa
namespace Go.Proofs.Ytjpegoigipbmiaa
set_option maxRecDepth 100000
attribute [local irreducible] Go GoR GoL
end Go.Proofs.Ytjpegoigipbmiaa
namespace Go.Proofs.Ytjpegoigipbmiaa
set_option maxRecDepth 100000
attribute [local irreducible] Go GoR GoL
set_option maxHeartbeats 8000000 in
theorem great_spec (c : Ck) (d : CD) (h : AHeap) (ok : COk h c d) (hD : c.D.n ≤ 140737488355328) (hA : c.A.n ≤ 140737488355328) (hG : c.G.n ≤ 140737488355328) (hU : c.U.n ≤ 140737488355328) (hC : c.C.n ≤ 140737488355328) : CallS Try.prog [] 18 [c.v] h fun v h' => ∃ t : Bool, v = .bool t ∧ (t = false → c.D.n ≤ 100000 ∧ c.C.n ≤ 5000) := by
  unfold Ck.v
  (refine CallS.of1 Try.func18 rfl Try.ntmps18 Try.results18 rfl ?_)
  (iterate 4 (first|(refine Go.kk 0 rfl ?_;refine Go.seq ?_)|(refine Go.kk 1 rfl ?_;refine Go.region (by kernel_rfl) rfl ?_)|(refine GoR.kk 0 rfl ?_;first|refine GoR.move rfl rfl rfl rfl rfl ?_|refine GoR.assign rfl rfl rfl rfl rfl ?_)|(refine GoR.kk 8 rfl ?_;first|refine GoR.boxA rfl rfl rfl rfl rfl ?_|refine GoR.boxS rfl rfl rfl rfl rfl rfl ?_|refine GoR.alloc rfl rfl rfl rfl ?_)|refine GoR.end ?_))
  refine GoR.name ?_
  intro h3 e3
  have G0 : h3.get h.n = some (.cells c.cs 43) := by
    subst e3
    exact AHeap.get_push_same h _
  have n3 : h3.n = h.n + 1 := by subst e3; rfl
  have S3 : Same h h3 := by subst e3; exact (Same.refl h).push _
  clear e3
  unfold Ck.cs at G0
  (refine Go.run (g:=?_))
  refine Go.loop (α := Nat × Nat) (fun x => [(4, .int .i64 x.1), (3, .int .i64 x.2), (1, .pointer (some ⟨h.n, 0, none⟩))]) (fun _ => []) (fun x => h3)
    (fun x => x.1 ≤ c.C.n ∧ c.D.n / 16 + c.C.n ≤ x.2 ∧ x.2 ≤ 1000000000000000) (fun x => c.C.n - x.1) (0, c.D.n / 16 + c.A.n + c.G.n + c.U.n + c.C.n) ?_ ?_ rfl rfl ?_
  · exact ⟨Nat.zero_le _, by simp only; omega, by simp only; omega⟩
  · exact ⟨rfl, rfl, rfl, trivial⟩
  rintro ⟨i, s⟩ ⟨hi, h1, h2⟩
  simp only at hi h1 h2 ⊢
  have ok3 := ok.same S3
  rcases Nat.lt_or_ge 5000 s with g | g
  · rcases Nat.lt_or_ge i c.C.n with i0 | i0
    all_goals
      (refine Go.run (g:=?_))
      (first|refine Go.finT (by first|exact .inr rfl|exact .inl rfl) rfl ?_|refine Go.fin1 (by first|exact .inr rfl|exact .inl rfl) rfl (hq:=?_))
      exact ⟨true, by simp [retV]; omega, fun e => by cases e⟩
  rcases Nat.lt_or_ge i c.C.n with i0 | i0
  · have i1 : i < d.causes.length := by rw [ok.cl]; exact i0
    have c1 := ccs_1 i1
    obtain ⟨hx1, hx2, -⟩ := ok.cb _ (List.getElem_mem i1)
    have hbe' : i * 2 < (ccs d.causes).length := by rw [ccs_len]; omega
    have hA6 := ok3.cv
    generalize d.causes[i].z.length = xz at *
    generalize d.causes[i].a = xa at *
    generalize d.causes[i].cap = xc at *
    (refine Go.run (g:=?_))
    exact Go.again (i + 1, s + xz / 16) ⟨by simp only; omega, by simp only; omega, by simp only; omega⟩ (by simp only; omega) ⟨rfl, rfl, rfl, trivial⟩ rfl rfl
  · (refine Go.run (g:=?_))
    (first|refine Go.finT (by first|exact .inr rfl|exact .inl rfl) rfl ?_|refine Go.fin1 (by first|exact .inr rfl|exact .inl rfl) rfl (hq:=?_))
    exact ⟨false, by simp [retV]; omega, fun _ => by omega⟩
end Go.Proofs.Ytjpegoigipbmiaa
namespace Go.Proofs.Ytjpegoigipbmiaa
set_option maxRecDepth 100000
attribute [local irreducible] Go GoR GoL
end Go.Proofs.Ytjpegoigipbmiaa
namespace Go.Proofs.Ytjpegoigipbmiaa
set_option maxRecDepth 100000
attribute [local irreducible] Go GoR GoL
end Go.Proofs.Ytjpegoigipbmiaa
namespace Go.Proofs.Ytjpegoigipbmiaa
set_option maxRecDepth 100000
attribute [local irreducible] Go GoR GoL
def CB (c : Ck) : Prop := c.D.n ≤ 140737488355328 ∧ c.A.n ≤ 140737488355328 ∧ c.G.n ≤ 140737488355328 ∧ c.U.n ≤ 140737488355328 ∧ c.C.n ≤ 4398046511104
set_option maxHeartbeats 8000000 in
theorem great6_spec (f t g : Nat) (a : Option Addr) (n cap : Nat) (l : List CP) (h : AHeap) (k : KS h a n cap l) (hn : n ≤ 140737488355328) (hC : ∀ x ∈ l, CB x.1) : CallS Try.prog [] 9 [pkV f t g a n cap] h fun v h' => ∃ b : Bool, v = .bool b ∧ (b = false → n ≤ 300 ∧ ∀ x ∈ l, x.1.D.n ≤ 100000 ∧ x.1.C.n ≤ 5000) := by
  (refine CallS.of1 Try.func9 rfl Try.ntmps9 Try.results9 rfl ?_)
  (iterate 4 (first|(refine Go.kk 0 rfl ?_;refine Go.seq ?_)|(refine Go.kk 1 rfl ?_;refine Go.region (by kernel_rfl) rfl ?_)|(refine GoR.kk 0 rfl ?_;first|refine GoR.move rfl rfl rfl rfl rfl ?_|refine GoR.assign rfl rfl rfl rfl rfl ?_)|(refine GoR.kk 8 rfl ?_;first|refine GoR.boxA rfl rfl rfl rfl rfl ?_|refine GoR.boxS rfl rfl rfl rfl rfl rfl ?_|refine GoR.alloc rfl rfl rfl rfl ?_)|refine GoR.end ?_))
  refine GoR.name ?_
  intro h3 e3
  have G0 : h3.get h.n = some (.cells [.int .u16 f, .int .u16 t, .int .u32 g, .slice a n cap] 28) := by subst e3; exact AHeap.get_push_same h _
  have n3 : h3.n = h.n + 1 := by subst e3; rfl
  have S3 : Same h h3 := by subst e3; exact (Same.refl h).push _
  clear e3
  rcases Nat.lt_or_ge 300 n with q | q
  · (refine Go.run (g:=?_))
    (first|refine Go.finT (by first|exact .inr rfl|exact .inl rfl) rfl ?_|refine Go.fin1 (by first|exact .inr rfl|exact .inl rfl) rfl (hq:=?_))
    exact ⟨true, rfl, fun e => by cases e⟩
  (refine Go.run (g:=?_))
  refine Go.loop (α := Nat × Nat × AHeap) (fun x => [(4, .int .i64 x.1), (3, .int .i64 x.2.1), (1, .pointer (some ⟨h.n, 0, none⟩))]) (fun _ => []) (fun x => x.2.2) (fun x => Same h3 x.2.2 ∧ x.1 ≤ n ∧ x.2.1 ≤ x.1 * 600000000000000 ∧ ∀ y ∈ l.take x.1, y.1.D.n ≤ 100000 ∧ y.1.C.n ≤ 5000) (fun x => n - x.1) (0, 0, h3) ?_ ?_ rfl rfl ?_
  · exact ⟨Same.refl _, Nat.zero_le _, Nat.zero_le _, fun y hy => by cases hy⟩
  · exact ⟨rfl, rfl, rfl, trivial⟩
  rintro ⟨i, s, h5⟩ ⟨s5, hi, hl, hb⟩
  simp only at s5 hi hl hb ⊢
  have k5 := k.same (S3.trans s5)
  have n5 := s5.1
  have G5 := s5.get G0
  rcases Nat.lt_or_ge i n with i0 | i0
  · have i1 : i < l.length := by rw [k.len]; exact i0
    have c0 := kcs_get i1
    have c10 := kcs_at (j := 10) i1 (by decide)
    have c12 := kcs_at (j := 12) i1 (by decide)
    have hbe : i * 15 + 15 ≤ (kcs l).length := by rw [kcs_len]; omega
    have hbe' : i * 15 < (kcs l).length := by omega
    have hA5 := k5.rv
    have hmem : l[i] ∈ l := List.getElem_mem i1
    have hs : ∀ y ∈ l.take (i + 1), y ∈ l.take i ∨ y = l[i] := fun y hy => by
      rw [List.take_succ_eq_append_getElem i1, List.mem_append, List.mem_singleton] at hy
      exact hy
    generalize l[i] = x at *
    obtain ⟨c, d⟩ := x
    obtain ⟨h1, h2, h3', h4', h5'⟩ := hC _ hmem
    simp only at c0 c10 c12 h1 h2 h3' h4' h5'
    have c10' : (kcs l)[i * 15 + 10]? = some (.slice c.D.a c.D.n c.D.cap) := c10
    have c12' : (kcs l)[i * 15 + 12]? = some (.slice c.G.a c.G.n c.G.cap) := c12
    clear c10 c12
    unfold Ck.cs at c0
    (refine Go.run (g:=?_))
    refine GoR.call rfl rfl rfl rfl rfl rfl rfl (((great_spec c d _ (k5.ok _ hmem) h1 h2 h3' h4' (by omega)).argA).mono ?_)
    rintro _ h6 ⟨b, rfl, hbb⟩ s6
    have G6 := s6.get G5
    have n6 := s6.1
    have hA6 := hA5.same s6
    cases b
    case true =>
      (refine Go.run (g:=?_))
      (first|refine Go.finT (by first|exact .inr rfl|exact .inl rfl) rfl ?_|refine Go.fin1 (by first|exact .inr rfl|exact .inl rfl) rfl (hq:=?_))
      exact ⟨true, rfl, fun e => by cases e⟩
    obtain ⟨u1, u2⟩ := hbb rfl
    (refine Go.run (g:=?_))
    exact Go.again (i + 1, s + c.D.n + 4 * c.G.n, h6) ⟨s5.trans s6, by simp only; omega, by simp only; omega, fun y hy => (hs y hy).elim (hb y) (fun e => by subst e; exact ⟨u1, u2⟩)⟩ (by simp only; omega) ⟨rfl, rfl, rfl, trivial⟩ rfl rfl
  · have hie : i = n := by omega
    subst hie
    rw [← k.len, List.take_length] at hb
    rcases Nat.lt_or_ge 100000 s with z | z
    all_goals
      (refine Go.run (g:=?_))
      (first|refine Go.finT (by first|exact .inr rfl|exact .inl rfl) rfl ?_|refine Go.fin1 (by first|exact .inr rfl|exact .inl rfl) rfl (hq:=?_))
      exact ⟨_, rfl, fun _ => ⟨q, hb⟩⟩
end Go.Proofs.Ytjpegoigipbmiaa
namespace Go.Proofs.Ytjpegoigipbmiaa
set_option maxRecDepth 100000
attribute [local irreducible] Go GoR GoL
theorem htake_all (a : Option Addr) (n cap : Nat) (zs : List UInt8) (hlen : zs.length = n) (hn : n ≤ 1000000) (h : AHeap) (hz : Rv Try.prog h 1 a n cap (zs.map bv)) : CallS Try.prog [] 29 [.slice a n cap] h fun v h' => match htk zs with
    | .error e => v = .tuple #[hdV 0 0 0, .slice none 0 0, .int .i64 e]
    | .ok (f, t, g) => ∃ b c, v = .tuple #[hdV f t g, .slice b (n - 12) c, .int .i64 (0 : Nat)] ∧ Rv Try.prog h' 1 b (n - 12) c ((zs.drop 12).map bv) ∧ Own h.n b := by
  unfold htk
  rw [hlen]
  by_cases h1 : 1500 < n
  · rw [if_pos h1]; exact headTake_err a n cap hn h 3 (.inl ⟨h1, rfl⟩)
  rw [if_neg h1]
  by_cases h2 : n < 12
  · rw [if_pos h2]; exact headTake_err a n cap hn h 30 (.inr (.inl ⟨h2, rfl⟩))
  rw [if_neg h2]
  by_cases h3 : n % 4 ≠ 0
  · rw [if_pos h3]; exact headTake_err a n cap hn h 32 (.inr (.inr ⟨by omega, by omega, h3, rfl⟩))
  rw [if_neg h3]
  by_cases h4 : beNum ((zs.drop 8).take 4) ≠ headSum zs
  · rw [if_pos h4]; exact headTake_sum a n cap zs hlen (by omega) (by omega) (by omega) h hz h4
  · rw [if_neg h4]
    refine (headTake_ok a n cap zs hlen (by omega) (by omega) (by omega) h hz (Decidable.of_not_not h4)).mono ?_
    rintro v h' ⟨b, c, rfl, sv, o⟩
    exact ⟨b, c, rfl, sv.rv, o⟩
structure KInv6 (n0 : Nat) (tm : List Value) (ps : Array Tmp) (asg bo : Code) (l d pb r2 r3 f t g : Nat) (s : List CP × Option Addr × Nat) (h : AHeap) : Prop where
  loop : h.get l = some (.loop .ready none tm ps asg bo d)
  mark : h.get d = some (.deferred true)
  out : h.get pb = some (.cells (pkC f t g s.2.1 s.1.length s.2.2) 28)
  c2 : h.get r2 = some (.cells zPk 28)
  c3 : h.get r3 = some (.cells [.int .i64 (0 : Nat)] 32)
  row : KRow n0 h s.2.1 s.2.2 s.1
  n0 : n0 ≤ h.n
theorem Same.kps {wr : List Nat} {h h' : AHeap} (s : Same h h') : Keeps wr h h' := ⟨s.1, fun i hi _ => s.2 i hi⟩
set_option maxHeartbeats 16000000 in
theorem ptake_spec (a : Option Addr) (cap : Nat) (zs : List UInt8) (hl : zs.length ≤ 1000000) (h : AHeap) (hz : Rv Try.prog h 1 a zs.length cap (zs.map bv)) : CallS Try.prog [] 14 [.slice a zs.length cap] h fun v h' => TakeP h' v (take6 zs) := by
  unfold take6
  obtain ⟨n, hlen⟩ : ∃ n, n = zs.length := ⟨_, rfl⟩
  rw [← hlen] at hz ⊢
  (refine CallS.of1 Try.func14 rfl Try.ntmps14 Try.results14 rfl ?_)
  (iterate 4 (first|(refine Go.kk 0 rfl ?_;refine Go.seq ?_)|(refine Go.kk 1 rfl ?_;refine Go.region (by kernel_rfl) rfl ?_)|(refine GoR.kk 0 rfl ?_;first|refine GoR.move rfl rfl rfl rfl rfl ?_|refine GoR.assign rfl rfl rfl rfl rfl ?_)|(refine GoR.kk 8 rfl ?_;first|refine GoR.boxA rfl rfl rfl rfl rfl ?_|refine GoR.boxS rfl rfl rfl rfl rfl rfl ?_|refine GoR.alloc rfl rfl rfl rfl ?_)|refine GoR.end ?_))
  refine GoR.name ?_
  intro h0 e0
  have s0 : Same h h0 := by subst e0; exact ((Same.refl h).push _).push _
  have n0 : h0.n = h.n + 2 := by subst e0; rfl
  have g2 : h0.get h.n = some (.cells zPk 28) := by subst e0; exact get_push_lt (AHeap.get_push_same _ _)
  have g3 : h0.get (h.n + 1) = some (.cells [.int .i64 (0 : Nat)] 32) := by subst e0; exact AHeap.get_push_same (h.push _) _
  clear e0
  (refine Go.run (g:=?_))
  refine GoR.call rfl rfl rfl rfl rfl rfl rfl (((htake_all a n cap zs hlen.symm (by omega) _ (hz.same s0)).argA).mono ?_)
  intro v1 h1 hv1 s1
  have n1 := s1.1
  have g21 := s1.get g2
  have g31 := s1.get g3
  cases he : htk zs with
  | error e =>
    rw [he] at hv1
    simp only at hv1 ⊢
    subst hv1
    have e0 := htk_err he
    have e0' : ¬ (e : Int) = 0 := by omega
    (refine Go.run (g:=?_))
    refine Go.fin (.inr rfl) (.cellN (b := h.n) (off := 0) rfl inferInstance (by (first | assumption | exact AHeap.get_push_same _ _ | ((repeat first | exact AHeap.get_push_same _ _ | assumption | refine get_push_lt ?_ | exact AHeap.get_put_same _ (by first | omega | (simp only [AHeap.n_push, AHeap.n_put]; omega)) _ | exact get_put_self (by assumption) | apply get_put_self | refine get_put_other (by first | omega | (simp only [AHeap.n_push, AHeap.n_put]; omega)) ?_ | refine Same.get (by assumption) ?_ | refine Keeps.get (by assumption) ?_ (fun hi => by have hx := Own.out (by assumption) hi; omega)) ; fail_if_success focus skip) | fail)) (by first | exact Nat.le_refl _ | (simp [setL, cellsL]; fail_if_success focus skip) | (simp; omega)) rfl (.cell rfl inferInstance (by (first | assumption | exact AHeap.get_push_same _ _ | ((repeat first | exact AHeap.get_push_same _ _ | assumption | refine get_push_lt ?_ | exact AHeap.get_put_same _ (by first | omega | (simp only [AHeap.n_push, AHeap.n_put]; omega)) _ | exact get_put_self (by assumption) | apply get_put_self | refine get_put_other (by first | omega | (simp only [AHeap.n_push, AHeap.n_put]; omega)) ?_ | refine Same.get (by assumption) ?_ | refine Keeps.get (by assumption) ?_ (fun hi => by have hx := Own.out (by assumption) hi; omega)) ; fail_if_success focus skip) | fail)) rfl .nil)) ?_
    rfl
  | ok r =>
  obtain ⟨f, p, g⟩ := r
  rw [he] at hv1
  simp only at hv1 ⊢
  obtain ⟨hz1, hz2, hz3, -, -, -, -, hf, ht, hg⟩ := htk_ok he
  obtain ⟨b, c, rfl, rb, ob⟩ := hv1
  obtain ⟨body, hbody⟩ : ∃ y, y = zs.drop 12 := ⟨_, rfl⟩
  rw [← hbody] at rb ⊢
  have bl : body.length = n - 12 := by rw [hbody, List.length_drop, hlen]
  obtain ⟨m, hm⟩ : ∃ m, m = n - 12 := ⟨_, rfl⟩
  rw [← hm] at rb bl ⊢
  have hm1 : m ≤ 1488 := by omega
  clear hbody hm
  (refine Go.run (g:=?_))
  refine GoR.name ?_
  intro h2 e2
  have s2 : Same h1 h2 := by subst e2; exact ((((Same.refl h1).push _).put (Nat.le_refl _) _).push _).put (by simp) _
  have n2 : h2.n = h1.n + 2 := by subst e2; rfl
  have gp2 : h2.get (h1.n + 1) = some (.cells (pkC f p g none 0 0) 28) := by subst e2; exact AHeap.get_put_same _ (by simp) _
  clear e2
  refine GoR.call rfl rfl rfl rfl rfl rfl rfl (((allCall_spec true b m c _).argA).mono ?_)
  rintro _ _ ⟨rfl, rfl⟩ -
  (refine Go.run (g:=?_))
  refine Go.name ?_
  intro h3 e3
  have s3 : Same h2 h3 := by subst e3; exact ((Same.refl h2).push _).push _
  have n3 : h3.n = h2.n + 2 := by subst e3; rfl
  have gcb : h3.get h2.n = some (.cells [.bool true] 4) := by subst e3; exact get_push_lt (AHeap.get_push_same _ _)
  have gbb : h3.get (h2.n + 1) = some (.cells [.slice b m c] 31) := by subst e3; exact AHeap.get_push_same (h2.push _) _
  clear e3
  have rb3 := (rb.same s2).same s3
  have gp3 := s3.get gp2
  have g23 := s3.get (s2.get g21)
  have g33 := s3.get (s2.get g31)
  have S3 := (s1.trans s2).trans s3
  refine Go.rangeFunc' (wr := [h3.n + 1, h.n, h.n + 1, h1.n + 1, h3.n]) rfl (by rfl) (by kernel_rfl) ?_
  intro tm ps asg bo HH eps easg ebo eH hN hr
  have Hs : Same h3 HH := by subst eH; exact ((Same.refl h3).push _).push _
  have Hl : HH.get (h3.n + 1) = some (.loop .ready none tm ps asg bo h3.n) := by subst eH; exact AHeap.get_push_same (h3.push _) _
  have Hd : HH.get h3.n = some (.deferred true) := by subst eH; exact get_push_lt (AHeap.get_push_same _ _)
  have Hn : HH.n = h3.n + 2 := by subst eH; rfl
  clear eH
  have hpk := parse_kind _ body (Nat.le_refl _)
  have hpl := parse_len (chunk := true) body
  obtain ⟨its, hits⟩ : ∃ x, x = (parse true body).1 := ⟨_, rfl⟩
  obtain ⟨wl, hwl⟩ : ∃ x, x = (parse true body).2 := ⟨_, rfl⟩
  rw [← hits] at hpk hpl
  rw [← hits, ← hwl]
  refine ((all1_spec (l := h3.n + 1) (σ := List CP × Option Addr × Nat) (wrO := fun s => [h.n, h.n + 1, h1.n + 1, h3.n] ++ blk s.2.1) (inv := fun s i H => KInv6 HH.n tm ps asg bo (h3.n + 1) h3.n (h1.n + 1) h.n (h.n + 1) f p g s H ∧ goP its wl [] = goP (its.drop i) wl (pcs s.1) ∧ s.1.length ≤ i) (stop := fun s i H => (∃ e : Nat, goP its wl [] = .error e ∧ (∃ tm' ps' as' bo' df', H.get (h3.n + 1) = some (.loop .done (some .ret) tm' ps' as' bo' df')) ∧ H.get h3.n = some (.deferred true) ∧ H.get h.n = some (.cells zPk 28) ∧ H.get (h.n + 1) = some (.cells [.int .i64 e] 32)) ∨ (goP its wl [] = .ok (pcs s.1) ∧ (∃ tm' ps' as' bo' df', H.get (h3.n + 1) = some (.loop .done (some (.exit 0)) tm' ps' as' bo' df')) ∧ H.get h3.n = some (.deferred true) ∧ H.get (h1.n + 1) = some (.cells (pkC f p g s.2.1 s.1.length s.2.2) 28) ∧ H.get h.n = some (.cells zPk 28) ∧ H.get (h.n + 1) = some (.cells [.int .i64 (0 : Nat)] 32) ∧ KRow HH.n H s.2.1 s.2.2 s.1 ∧ HH.n ≤ H.n ∧ s.1.length ≤ its.length)) true (h2.n + 1) h2.n b m c body bl (by omega) _ ([], none, 0) ?Y ?i0 (Hs.get gbb) (Hs.get gcb) (rb3.same Hs) ?p1 ?p2 ?p3).args rfl).mono ?_
  case p1 => simp [blk]; omega
  case p2 => simp [blk]; omega
  case p3 => intro i hi; have := rb.lt i hi; have := ob i hi; simp [blk]; omega
  case i0 => exact ⟨⟨Hl, Hd, Hs.get gp3, Hs.get g23, Hs.get g33, KRow.nil _ _, Nat.le_refl _⟩, by simp [pcs], Nat.le_refl _⟩
  case Y =>
    rw [← hits, ← hwl]
    refine ⟨?_, ?_, ?_, ?_⟩
    · rintro s i H H' ⟨I, x1, x2⟩ sm
      exact ⟨⟨sm.get I.loop, sm.get I.mark, sm.get I.out, sm.get I.c2, sm.get I.c3, I.row.same sm, Nat.le_trans I.n0 sm.1⟩, x1, x2⟩
    · rintro s i H ⟨I, x1, x2⟩ b hb
      simp only [List.mem_cons, List.mem_append, List.not_mem_nil, or_false] at hb
      rcases hb with rfl | (rfl | rfl | rfl | rfl) | hb
      · exact AHeap.lt I.loop
      · exact AHeap.lt I.c2
      · exact AHeap.lt I.c3
      · exact AHeap.lt I.out
      · exact AHeap.lt I.mark
      · exact I.row.sv.lt _ hb
    · rintro ⟨ls, oa, oc⟩ i H t ⟨I, x1, x2⟩ hit hok hnw hto
      simp only at I x1 x2 hnw ⊢
      obtain ⟨hi1, hi2⟩ := List.getElem?_eq_some_iff.1 hit
      obtain ⟨k8, k9, k10⟩ := hpk t.thing (List.mem_of_getElem? hit)
      have k8 : t.k < 256 := k8
      have k9 : t.f < 256 := k9
      have k10 : t.z.length ≤ body.length := k10
      have hkm : t.k % 256 = t.k := Nat.mod_eq_of_lt k8
      have hgo : goP its wl [] = if endsB t.k = true then .ok (pcs ls) else match tkP t.k t.f t.z with | none => .error 50 | some p => goP (its.drop (i + 1)) wl (pcs ls ++ [p]) := by
        rw [x1, List.drop_eq_getElem_cons hi1, hi2]
        rfl
      have In0 := I.n0
      refine YieldS.of' I.loop hN hr eps easg ebo rfl (by rfl) rfl (List.mem_cons_self ..) ?_
      (refine Go.run (g:=?_))
      refine Go.name ?_
      intro h5 e5
      have s5 : Same H h5 := by subst e5; exact ((Same.refl H).push _).put (Nat.le_refl _) _
      have n5 : h5.n = H.n + 1 := by subst e5; rfl
      have g5 : h5.get H.n = some (.cells [.int .u16 t.k, .int .u8 t.f, .slice t.a t.z.length t.cap] 61) := by subst e5; exact AHeap.get_put_same _ (by simp) _
      clear e5
      refine Go.body (s5.get I.loop) ?_
      refine Go.name ?_
      intro h6 e6
      have k6 : Keeps [h3.n + 1] h5 h6 := by subst e6; exact (Keeps.rfl _ _).put (by simp) _
      have n6 : h6.n = h5.n := by subst e6; rfl
      have l6 : h6.get (h3.n + 1) = some (.loop .busy none tm ps asg bo h3.n) := by subst e6; exact get_put_self (s5.get I.loop)
      clear e6
      have Iout : H.get (h1.n + 1) = some (.cells (pkC f p g oa ls.length oc) 28) := I.out
      have go6 := k6.get (s5.get Iout) (by simp; omega)
      have gt6 := k6.get g5 (by simp; omega)
      have c26 := k6.get (s5.get I.c2) (by simp; omega)
      have c36 := k6.get (s5.get I.c3) (by simp; omega)
      have md6 := k6.get (s5.get I.mark) (by simp)
      have row6 : KRow HH.n h6 oa oc ls := (I.row.same s5).keeps k6 (fun i hi => .inl (by simp at hi; omega))
      have ok6 : Rv Try.prog h6 1 t.a t.z.length t.cap (t.z.map bv) := Rv.keeps (Rv.same hok s5) k6 (fun i hi hm => by simp only [List.mem_singleton] at hm; subst hm; exact hnw _ hi (by simp))
      (refine Go.run (g:=?_))
      try simp only [hkm]
      refine GoR.call rfl rfl rfl rfl rfl rfl rfl (((ends_spec t.k k8 _).argA).mono ?_)
      rintro _ h7 rfl s7
      have n7 := s7.1
      have go7 := s7.get go6
      have gt7 := s7.get gt6
      have c27 := s7.get c26
      have c37 := s7.get c36
      have md7 := s7.get md6
      have l7 := s7.get l6
      have row7 := row6.same s7
      clear go6 gt6 c26 c36 md6 l6 row6 Iout g5
      cases hE : endsB t.k
      case true =>
        rw [hE] at hgo
        simp only [if_true] at hgo
        (refine Go.run (g:=?_))
        refine Go.roundEnd (x := .exit 0) rfl l7 ?_
        exact ⟨(ls, oa, oc), fun b hb => .inl hb, (fun e => by cases e), fun _ => .inr ⟨hgo, ⟨_, _, _, _, _, AHeap.get_put_same _ (by first | omega | (simp only [AHeap.n_push, AHeap.n_put]; omega)) _⟩, get_put_other (by omega) md7, get_put_other (by omega) go7, get_put_other (by omega) c27, get_put_other (by omega) c37, row7.keeps ((Keeps.rfl [h3.n + 1] h7).put (by simp) _) (fun i hi => .inl (by simp at hi; omega)), by simp only [AHeap.n_put]; omega, by simp only; omega⟩⟩
      case false =>
        rw [hE] at hgo
        simp only [Bool.false_eq_true, if_false] at hgo
        (refine Go.run (g:=?_))
        refine GoR.call rfl rfl rfl rfl rfl rfl rfl (((ctake_own t.k t.f t.a t.cap t.z (by omega) k9 (by omega) _ (ok6.same s7)).argA).mono ?_)
        intro v8 h8 hv8 s8
        have n8 := s8.1
        have go8 := s8.get go7
        have c28 := s8.get c27
        have c38 := s8.get c37
        have md8 := s8.get md7
        have l8 := s8.get l7
        have row8 := row7.same s8
        clear go7 gt7 c27 c37 md7 l7 row7 ok6
        cases hT : tkP t.k t.f t.z with
        | none =>
          rw [hT] at hv8 hgo
          simp only [TakeO] at hv8 hgo
          subst hv8
          unfold Ck.none Sl.nil
          (refine Go.run (g:=?_))
          refine Go.name ?_
          intro h9 e9
          have k9' : Keeps [h.n, h.n + 1] h8 h9 := by subst e9; exact ((((Same.refl h8).push _).put (Nat.le_refl _) _).kps.put (by simp) _).put (by simp) _
          have r29 : h9.get h.n = some (.cells zPk 28) := by subst e9; exact get_put_other (by first | omega | (simp only [AHeap.n_push, AHeap.n_put]; omega)) (AHeap.get_put_same _ (by simp only [AHeap.n_put, AHeap.n_push]; omega) _)
          have r39 : h9.get (h.n + 1) = some (.cells [.int .i64 (50 : Nat)] 32) := by subst e9; exact AHeap.get_put_same _ (by simp only [AHeap.n_put, AHeap.n_push]; omega) _
          have n9 := k9'.1
          clear e9
          refine Go.roundEnd rfl (k9'.get l8 (by simp; omega)) ?_
          exact ⟨(ls, oa, oc), fun b hb => .inl hb, (fun e => by cases e), fun _ => .inl ⟨50, hgo, ⟨_, _, _, _, _, AHeap.get_put_same _ (by first | omega | (simp only [AHeap.n_push, AHeap.n_put]; omega)) _⟩, get_put_other (by omega) (k9'.get md8 (by simp; omega)), get_put_other (by omega) r29, get_put_other (by omega) r39⟩⟩
        | some q =>
          rw [hT] at hv8 hgo
          simp only [TakeO] at hv8 hgo
          obtain ⟨c', d', rfl, okc, apc, hq⟩ := hv8
          unfold Ck.v
          (refine Go.run (g:=?_))
          refine GoR.name ?_
          intro h9 e9
          have s9 : Same h8 h9 := by subst e9; exact ((Same.refl h8).push _).put (Nat.le_refl _) _
          have n9 := s9.1
          clear e9
          refine GoR.buildRo (c := c'.cs) rfl rfl rfl rfl rfl (by decide) (by rfl) (by rfl) ?_
          intro b10 h10 hb10 rb10 ob10 s10 n10
          have r10 := (row8.same s9).same s10
          have S10 := s9.trans s10
          refine GoR.appendV rfl rfl rfl rfl rfl rfl r10.sv hb10 (fun i hi => .inl (by simp [hi])) (by omega) (by omega) (by rfl) ?_
          intro b11 c11 h11 hs11 k11 o11
          have m11 := k11.1
          have r11 := r10.snoc (by omega) (okc.same S10) (fun i hi => apc.cnot (by have := I.row.sv.lt i hi; omega)) (apc.mono (by omega)) hs11 k11 o11
          have nob : ∀ i, i < HH.n → i ∉ blk oa := fun i hi hm => by have := I.row.own _ hm; omega
          have go11 := k11.get (S10.get go8) (nob _ (by omega))
          have c211 := k11.get (S10.get c28) (nob _ (by omega))
          have c311 := k11.get (S10.get c38) (nob _ (by omega))
          have md11 := k11.get (S10.get md8) (nob _ (by omega))
          have l11 := k11.get (S10.get l8) (nob _ (by omega))
          refine GoR.fieldAddr rfl rfl rfl rfl rfl ?_
          refine GoR.store (off := 0 + 3) (n := 1) (v := .slice b11 (ls.length + 1) c11) (l := [.slice b11 (ls.length + 1) c11]) rfl rfl rfl rfl rfl go11 rfl rfl (show 4 ≤ 4 from Nat.le_refl _) rfl rfl (.inl (by simp)) ?_
          (refine Go.run (g:=?_))
          refine Go.name ?_
          intro h12 e12
          have k12 : Keeps [h1.n + 1] h11 h12 := by subst e12; exact (Keeps.rfl _ _).put (by simp) _
          have go12 : h12.get (h1.n + 1) = some (.cells (pkC f p g b11 (ls.length + 1) c11) 28) := by subst e12; exact AHeap.get_put_same _ (by first | omega | (simp only [AHeap.n_push, AHeap.n_put]; omega)) _
          have n12 := k12.1
          clear e12
          refine Go.roundEnd rfl (k12.get l11 (by simp; omega)) ?_
          refine ⟨(ls ++ [(c', d')], b11, c11), fun b hb => ?_, fun _ => ⟨⟨AHeap.get_put_same _ (by first | omega | (simp only [AHeap.n_push, AHeap.n_put]; omega)) _, get_put_other (by omega) (k12.get md11 (by simp; omega)), get_put_other (by omega) (by simpa only [List.length_append, List.length_cons, List.length_nil] using go12), get_put_other (by omega) (k12.get c211 (by simp; omega)), get_put_other (by omega) (k12.get c311 (by simp; omega)), ?_, by simp only [AHeap.n_put]; omega⟩, ?_, ?_⟩, fun e => by cases e⟩
          · rcases List.mem_append.1 hb with x | x
            · exact .inl (List.mem_append_left _ x)
            · rcases o11 b x with y | y
              · exact .inl (List.mem_append_right _ y)
              · exact .inr (by omega)
          · exact (r11.keeps k12 (fun i hi => .inl (by simp at hi; omega))).keeps ((Keeps.rfl [h3.n + 1] h12).put (by simp) _) (fun i hi => .inl (by simp at hi; omega))
          · rw [hgo]
            simp [pcs, hq]
          · simp only [List.length_append, List.length_cons, List.length_nil]; omega
    · rintro ⟨ls, oa, oc⟩ H hbad ⟨I, x1, x2⟩
      simp only at I x1 x2 ⊢
      have hw : wl = false := by simpa using hbad
      have hgo : goP its wl [] = .error 40 := by rw [x1, List.drop_length, hw]; rfl
      have In0 := I.n0
      refine YieldS.of' I.loop hN hr eps easg ebo rfl (by rfl) rfl (List.mem_cons_self ..) ?_
      (refine Go.run (g:=?_))
      refine Go.name ?_
      intro h5 e5
      have s5 : Same H h5 := by subst e5; exact ((Same.refl H).push _).put (Nat.le_refl _) _
      have n5 : h5.n = H.n + 1 := by subst e5; rfl
      clear e5
      refine Go.body (s5.get I.loop) ?_
      refine Go.name ?_
      intro h6 e6
      have k6 : Keeps [h3.n + 1] h5 h6 := by subst e6; exact (Keeps.rfl _ _).put (by simp) _
      have n6 : h6.n = h5.n := by subst e6; rfl
      have l6 : h6.get (h3.n + 1) = some (.loop .busy none tm ps asg bo h3.n) := by subst e6; exact get_put_self (s5.get I.loop)
      clear e6
      have c26 := k6.get (s5.get I.c2) (by simp; omega)
      have c36 := k6.get (s5.get I.c3) (by simp; omega)
      have md6 := k6.get (s5.get I.mark) (by simp)
      (refine Go.run (g:=?_))
      refine Go.name ?_
      intro h9 e9
      have k9' : Keeps [h.n, h.n + 1] h6 h9 := by subst e9; exact ((Keeps.rfl _ _).put (by simp) _).put (by simp) _
      have r29 : h9.get h.n = some (.cells zPk 28) := by subst e9; exact get_put_other (by first | omega | (simp only [AHeap.n_push, AHeap.n_put]; omega)) (AHeap.get_put_same _ (by first | omega | (simp only [AHeap.n_push, AHeap.n_put]; omega)) _)
      have r39 : h9.get (h.n + 1) = some (.cells [.int .i64 (40 : Nat)] 32) := by subst e9; exact AHeap.get_put_same _ (by first | omega | (simp only [AHeap.n_push, AHeap.n_put]; omega)) _
      have n9 := k9'.1
      clear e9
      refine Go.roundEnd rfl (k9'.get l6 (by simp; omega)) ?_
      exact ⟨(ls, oa, oc), .inl ⟨40, hgo, ⟨_, _, _, _, _, AHeap.get_put_same _ (by first | omega | (simp only [AHeap.n_push, AHeap.n_put]; omega)) _⟩, get_put_other (by omega) (k9'.get md6 (by simp; omega)), get_put_other (by omega) r29, get_put_other (by omega) r39⟩⟩
  intro v H3 hres kp
  refine ⟨fun i hi => .inr (by simp only [List.mem_cons, List.not_mem_nil, or_false] at hi; omega), .inr (by omega), ?_⟩
  rw [← hits, ← hwl] at hres
  rcases hres with ⟨⟨ls, oa, oc⟩, hwell, I, x1, x2⟩ | ⟨⟨ls, oa, oc⟩, i, ⟨e, hgo, ⟨tm', ps', as', bo', df', hl⟩, hd, hr2, hr3⟩ | ⟨hgo, ⟨tm', ps', as', bo', df', hl⟩, hd, hout, hr2, hr3, row, hn3, hlen3⟩⟩
  · have hgo : goP its wl [] = .ok (pcs ls) := by rw [x1, List.drop_length, hwell]; rfl
    have hd := I.mark
    have hout := I.out
    have hr2 := I.c2
    have hr3 := I.c3
    have row := I.row
    have hn3 := I.n0
    simp only at hout row x2
    have hlen3 : ls.length ≤ its.length := x2
    refine ⟨_, _, _, _, _, _, _, .normal, I.loop, by rfl, rfl, ?_⟩
    rw [hgo]
    refine Go.name ?_
    intro h9 e9
    have k9 : Keeps [h3.n + 1] H3 h9 := by subst e9; exact (Keeps.rfl _ _).put (by simp) _
    have n9 : h9.n = H3.n := by subst e9; rfl
    clear e9
    have go9 := k9.get hout (by simp; omega)
    have g29 := k9.get hr2 (by simp; omega)
    have g39 := k9.get hr3 (by simp; omega)
    have gd9 := k9.get hd (by simp)
    have row9 := row.keeps k9 (fun i hi => .inl (by simp at hi; omega))
    (refine Go.run (g:=?_))
    refine GoR.call rfl rfl rfl rfl rfl rfl rfl (((pmay_spec f p g oa ls.length oc ls _ row9.ks (by omega)).argA).mono ?_)
    rintro _ h10 rfl s10
    have n10 := s10.1
    have go10 := s10.get go9
    have g210 := s10.get g29
    have g310 := s10.get g39
    have gd10 := s10.get gd9
    have row10 := row9.same s10
    rw [pmay_k]
    cases hP : pmayK g ((pcs ls).map (·.k))
    case false =>
      (refine Go.run (g:=?_))
      refine Go.fin_marks (.inr rfl) (by intro d hd; simp only [List.mem_singleton] at hd; omega) (takeAll_one (by (first | assumption | exact AHeap.get_push_same _ _ | ((repeat first | exact AHeap.get_push_same _ _ | assumption | refine get_push_lt ?_ | exact AHeap.get_put_same _ (by first | omega | (simp only [AHeap.n_push, AHeap.n_put]; omega)) _ | exact get_put_self (by assumption) | apply get_put_self | refine get_put_other (by first | omega | (simp only [AHeap.n_push, AHeap.n_put]; omega)) ?_ | refine Same.get (by assumption) ?_ | refine Keeps.get (by assumption) ?_ (fun hi => by have hx := Own.out (by assumption) hi; omega)) ; fail_if_success focus skip) | fail))) (.cellN (b := h.n) (off := 0) rfl inferInstance (by (first | assumption | exact AHeap.get_push_same _ _ | ((repeat first | exact AHeap.get_push_same _ _ | assumption | refine get_push_lt ?_ | exact AHeap.get_put_same _ (by first | omega | (simp only [AHeap.n_push, AHeap.n_put]; omega)) _ | exact get_put_self (by assumption) | apply get_put_self | refine get_put_other (by first | omega | (simp only [AHeap.n_push, AHeap.n_put]; omega)) ?_ | refine Same.get (by assumption) ?_ | refine Keeps.get (by assumption) ?_ (fun hi => by have hx := Own.out (by assumption) hi; omega)) ; fail_if_success focus skip) | fail)) (by first | exact Nat.le_refl _ | (simp [setL, cellsL]; fail_if_success focus skip) | (simp; omega)) rfl (.cell rfl inferInstance (by (first | assumption | exact AHeap.get_push_same _ _ | ((repeat first | exact AHeap.get_push_same _ _ | assumption | refine get_push_lt ?_ | exact AHeap.get_put_same _ (by first | omega | (simp only [AHeap.n_push, AHeap.n_put]; omega)) _ | exact get_put_self (by assumption) | apply get_put_self | refine get_put_other (by first | omega | (simp only [AHeap.n_push, AHeap.n_put]; omega)) ?_ | refine Same.get (by assumption) ?_ | refine Keeps.get (by assumption) ?_ (fun hi => by have hx := Own.out (by assumption) hi; omega)) ; fail_if_success focus skip) | fail)) rfl .nil)) ?_
      simp only [hP, Bool.false_eq_true, if_false]
      rfl
    case true =>
      (refine Go.run (g:=?_))
      refine Go.fin_marks (.inr rfl) (by intro d hd; simp only [List.mem_singleton] at hd; omega) (takeAll_one (by (first | assumption | exact AHeap.get_push_same _ _ | ((repeat first | exact AHeap.get_push_same _ _ | assumption | refine get_push_lt ?_ | exact AHeap.get_put_same _ (by first | omega | (simp only [AHeap.n_push, AHeap.n_put]; omega)) _ | exact get_put_self (by assumption) | apply get_put_self | refine get_put_other (by first | omega | (simp only [AHeap.n_push, AHeap.n_put]; omega)) ?_ | refine Same.get (by assumption) ?_ | refine Keeps.get (by assumption) ?_ (fun hi => by have hx := Own.out (by assumption) hi; omega)) ; fail_if_success focus skip) | fail))) (.cellN (b := h.n) (off := 0) rfl inferInstance (by (first | assumption | exact AHeap.get_push_same _ _ | ((repeat first | exact AHeap.get_push_same _ _ | assumption | refine get_push_lt ?_ | exact AHeap.get_put_same _ (by first | omega | (simp only [AHeap.n_push, AHeap.n_put]; omega)) _ | exact get_put_self (by assumption) | apply get_put_self | refine get_put_other (by first | omega | (simp only [AHeap.n_push, AHeap.n_put]; omega)) ?_ | refine Same.get (by assumption) ?_ | refine Keeps.get (by assumption) ?_ (fun hi => by have hx := Own.out (by assumption) hi; omega)) ; fail_if_success focus skip) | fail)) (by first | exact Nat.le_refl _ | (simp [setL, cellsL]; fail_if_success focus skip) | (simp; omega)) rfl (.cell rfl inferInstance (by (first | assumption | exact AHeap.get_push_same _ _ | ((repeat first | exact AHeap.get_push_same _ _ | assumption | refine get_push_lt ?_ | exact AHeap.get_put_same _ (by first | omega | (simp only [AHeap.n_push, AHeap.n_put]; omega)) _ | exact get_put_self (by assumption) | apply get_put_self | refine get_put_other (by first | omega | (simp only [AHeap.n_push, AHeap.n_put]; omega)) ?_ | refine Same.get (by assumption) ?_ | refine Keeps.get (by assumption) ?_ (fun hi => by have hx := Own.out (by assumption) hi; omega)) ; fail_if_success focus skip) | fail)) rfl .nil)) ?_
      simp only [hP, if_true]
      refine ⟨oa, ls.length, oc, ls, rfl, ?_, rfl⟩
      exact (row10.keeps ((((Keeps.rfl [h.n, h.n + 1, h3.n] h10).put (b := h.n) (by simp) _).put (b := h.n + 1) (by simp) _).put (b := h3.n) (by simp) _) (fun i hi => .inl (by simp at hi; omega))).ks
  · refine ⟨_, _, _, _, _, _, _, .ret, hl, by rfl, rfl, ?_⟩
    rw [hgo]
    have lt := AHeap.lt hl
    refine Go.name ?_
    intro h9 e9
    have k9 : Keeps [h3.n + 1] H3 h9 := by subst e9; exact (Keeps.rfl _ _).put (by simp) _
    have n9 : h9.n = H3.n := by subst e9; rfl
    clear e9
    have g29 := k9.get hr2 (by simp; omega)
    have g39 := k9.get hr3 (by simp; omega)
    have gd9 := k9.get hd (by simp)
    (refine Go.run (g:=?_))
    refine Go.fin_marks (.inr rfl) (by intro d hd; simp only [List.mem_singleton] at hd; omega) (takeAll_one (by (first | assumption | exact AHeap.get_push_same _ _ | ((repeat first | exact AHeap.get_push_same _ _ | assumption | refine get_push_lt ?_ | exact AHeap.get_put_same _ (by first | omega | (simp only [AHeap.n_push, AHeap.n_put]; omega)) _ | exact get_put_self (by assumption) | apply get_put_self | refine get_put_other (by first | omega | (simp only [AHeap.n_push, AHeap.n_put]; omega)) ?_ | refine Same.get (by assumption) ?_ | refine Keeps.get (by assumption) ?_ (fun hi => by have hx := Own.out (by assumption) hi; omega)) ; fail_if_success focus skip) | fail))) (.cellN (b := h.n) (off := 0) rfl inferInstance (by (first | assumption | exact AHeap.get_push_same _ _ | ((repeat first | exact AHeap.get_push_same _ _ | assumption | refine get_push_lt ?_ | exact AHeap.get_put_same _ (by first | omega | (simp only [AHeap.n_push, AHeap.n_put]; omega)) _ | exact get_put_self (by assumption) | apply get_put_self | refine get_put_other (by first | omega | (simp only [AHeap.n_push, AHeap.n_put]; omega)) ?_ | refine Same.get (by assumption) ?_ | refine Keeps.get (by assumption) ?_ (fun hi => by have hx := Own.out (by assumption) hi; omega)) ; fail_if_success focus skip) | fail)) (by first | exact Nat.le_refl _ | (simp [setL, cellsL]; fail_if_success focus skip) | (simp; omega)) rfl (.cell rfl inferInstance (by (first | assumption | exact AHeap.get_push_same _ _ | ((repeat first | exact AHeap.get_push_same _ _ | assumption | refine get_push_lt ?_ | exact AHeap.get_put_same _ (by first | omega | (simp only [AHeap.n_push, AHeap.n_put]; omega)) _ | exact get_put_self (by assumption) | apply get_put_self | refine get_put_other (by first | omega | (simp only [AHeap.n_push, AHeap.n_put]; omega)) ?_ | refine Same.get (by assumption) ?_ | refine Keeps.get (by assumption) ?_ (fun hi => by have hx := Own.out (by assumption) hi; omega)) ; fail_if_success focus skip) | fail)) rfl .nil)) ?_
    rfl
  · simp only at hgo hout row hlen3
    refine ⟨_, _, _, _, _, _, _, .exit 0, hl, by rfl, rfl, ?_⟩
    rw [hgo]
    refine Go.name ?_
    intro h9 e9
    have k9 : Keeps [h3.n + 1] H3 h9 := by subst e9; exact (Keeps.rfl _ _).put (by simp) _
    have n9 : h9.n = H3.n := by subst e9; rfl
    clear e9
    have go9 := k9.get hout (by simp; omega)
    have g29 := k9.get hr2 (by simp; omega)
    have g39 := k9.get hr3 (by simp; omega)
    have gd9 := k9.get hd (by simp)
    have row9 := row.keeps k9 (fun i hi => .inl (by simp at hi; omega))
    (refine Go.run (g:=?_))
    refine GoR.call rfl rfl rfl rfl rfl rfl rfl (((pmay_spec f p g oa ls.length oc ls _ row9.ks (by omega)).argA).mono ?_)
    rintro _ h10 rfl s10
    have n10 := s10.1
    have go10 := s10.get go9
    have g210 := s10.get g29
    have g310 := s10.get g39
    have gd10 := s10.get gd9
    have row10 := row9.same s10
    rw [pmay_k]
    cases hP : pmayK g ((pcs ls).map (·.k))
    case false =>
      (refine Go.run (g:=?_))
      refine Go.fin_marks (.inr rfl) (by intro d hd; simp only [List.mem_singleton] at hd; omega) (takeAll_one (by (first | assumption | exact AHeap.get_push_same _ _ | ((repeat first | exact AHeap.get_push_same _ _ | assumption | refine get_push_lt ?_ | exact AHeap.get_put_same _ (by first | omega | (simp only [AHeap.n_push, AHeap.n_put]; omega)) _ | exact get_put_self (by assumption) | apply get_put_self | refine get_put_other (by first | omega | (simp only [AHeap.n_push, AHeap.n_put]; omega)) ?_ | refine Same.get (by assumption) ?_ | refine Keeps.get (by assumption) ?_ (fun hi => by have hx := Own.out (by assumption) hi; omega)) ; fail_if_success focus skip) | fail))) (.cellN (b := h.n) (off := 0) rfl inferInstance (by (first | assumption | exact AHeap.get_push_same _ _ | ((repeat first | exact AHeap.get_push_same _ _ | assumption | refine get_push_lt ?_ | exact AHeap.get_put_same _ (by first | omega | (simp only [AHeap.n_push, AHeap.n_put]; omega)) _ | exact get_put_self (by assumption) | apply get_put_self | refine get_put_other (by first | omega | (simp only [AHeap.n_push, AHeap.n_put]; omega)) ?_ | refine Same.get (by assumption) ?_ | refine Keeps.get (by assumption) ?_ (fun hi => by have hx := Own.out (by assumption) hi; omega)) ; fail_if_success focus skip) | fail)) (by first | exact Nat.le_refl _ | (simp [setL, cellsL]; fail_if_success focus skip) | (simp; omega)) rfl (.cell rfl inferInstance (by (first | assumption | exact AHeap.get_push_same _ _ | ((repeat first | exact AHeap.get_push_same _ _ | assumption | refine get_push_lt ?_ | exact AHeap.get_put_same _ (by first | omega | (simp only [AHeap.n_push, AHeap.n_put]; omega)) _ | exact get_put_self (by assumption) | apply get_put_self | refine get_put_other (by first | omega | (simp only [AHeap.n_push, AHeap.n_put]; omega)) ?_ | refine Same.get (by assumption) ?_ | refine Keeps.get (by assumption) ?_ (fun hi => by have hx := Own.out (by assumption) hi; omega)) ; fail_if_success focus skip) | fail)) rfl .nil)) ?_
      simp only [hP, Bool.false_eq_true, if_false]
      rfl
    case true =>
      (refine Go.run (g:=?_))
      refine Go.fin_marks (.inr rfl) (by intro d hd; simp only [List.mem_singleton] at hd; omega) (takeAll_one (by (first | assumption | exact AHeap.get_push_same _ _ | ((repeat first | exact AHeap.get_push_same _ _ | assumption | refine get_push_lt ?_ | exact AHeap.get_put_same _ (by first | omega | (simp only [AHeap.n_push, AHeap.n_put]; omega)) _ | exact get_put_self (by assumption) | apply get_put_self | refine get_put_other (by first | omega | (simp only [AHeap.n_push, AHeap.n_put]; omega)) ?_ | refine Same.get (by assumption) ?_ | refine Keeps.get (by assumption) ?_ (fun hi => by have hx := Own.out (by assumption) hi; omega)) ; fail_if_success focus skip) | fail))) (.cellN (b := h.n) (off := 0) rfl inferInstance (by (first | assumption | exact AHeap.get_push_same _ _ | ((repeat first | exact AHeap.get_push_same _ _ | assumption | refine get_push_lt ?_ | exact AHeap.get_put_same _ (by first | omega | (simp only [AHeap.n_push, AHeap.n_put]; omega)) _ | exact get_put_self (by assumption) | apply get_put_self | refine get_put_other (by first | omega | (simp only [AHeap.n_push, AHeap.n_put]; omega)) ?_ | refine Same.get (by assumption) ?_ | refine Keeps.get (by assumption) ?_ (fun hi => by have hx := Own.out (by assumption) hi; omega)) ; fail_if_success focus skip) | fail)) (by first | exact Nat.le_refl _ | (simp [setL, cellsL]; fail_if_success focus skip) | (simp; omega)) rfl (.cell rfl inferInstance (by (first | assumption | exact AHeap.get_push_same _ _ | ((repeat first | exact AHeap.get_push_same _ _ | assumption | refine get_push_lt ?_ | exact AHeap.get_put_same _ (by first | omega | (simp only [AHeap.n_push, AHeap.n_put]; omega)) _ | exact get_put_self (by assumption) | apply get_put_self | refine get_put_other (by first | omega | (simp only [AHeap.n_push, AHeap.n_put]; omega)) ?_ | refine Same.get (by assumption) ?_ | refine Keeps.get (by assumption) ?_ (fun hi => by have hx := Own.out (by assumption) hi; omega)) ; fail_if_success focus skip) | fail)) rfl .nil)) ?_
      simp only [hP, if_true]
      refine ⟨oa, ls.length, oc, ls, rfl, ?_, rfl⟩
      exact (row10.keeps ((((Keeps.rfl [h.n, h.n + 1, h3.n] h10).put (b := h.n) (by simp) _).put (b := h.n + 1) (by simp) _).put (b := h3.n) (by simp) _) (fun i hi => .inl (by simp at hi; omega))).ks
end Go.Proofs.Ytjpegoigipbmiaa
namespace Go.Proofs.Ytjpegoigipbmiaa
set_option maxRecDepth 100000
attribute [local irreducible] Go GoR GoL
structure BInv (h0 : AHeap) (pw : Nat) (f t g : Nat) (b : Option Addr) (m c : Nat) (y : List UInt8) (n0 : Nat) (ls : List CP) (oa : Option Addr) (oc : Nat) (H : AHeap) : Prop where
  same : Same h0 H
  n : n0 ≤ H.n
  out : H.get pw = some (.cells [.int .u16 f, .int .u16 t, .int .u32 g, .slice oa ls.length oc] 28)
  bs : Sv H 5 1 b m c (y.map bv)
  sv : Sv H 43 15 oa ls.length oc (kcs ls)
  own : Own n0 oa
theorem BInv.to {h0 : AHeap} {pw f t g : Nat} {b : Option Addr} {m c : Nat} {y : List UInt8} {n0 : Nat} {ls : List CP} {oa : Option Addr} {oc : Nat} {H H' : AHeap} (I : BInv h0 pw f t g b m c y n0 ls oa oc H) (s : Same H H') : BInv h0 pw f t g b m c y n0 ls oa oc H' :=
  ⟨I.same.trans s, Nat.le_trans I.n s.1, s.get I.out, I.bs.same s, I.sv.same s, I.own⟩
set_option maxHeartbeats 16000000 in
theorem pktBack_spec (f t g : Nat) (hf : f < 65536) (ht : t < 65536) (hg : g < 4294967296) (a : Option Addr) (n cap : Nat) (l : List CP) (at_ : Int) (hat : -9223372036854775808 ≤ at_ ∧ at_ ≤ 9223372036854775807) (tn : Nat) (htn : tn < 256) (h : AHeap) (k : KS h a n cap l) (hn : n ≤ 140737488355328) (hC : ∀ x ∈ l, CB x.1) : CallS Try.prog [] 6 [pkV f t g a n cap, .int .i64 at_, .int .u8 tn] h fun v h' => v = .bool true := by
  (refine CallS.of3 Try.func6 rfl Try.ntmps6 Try.results6 rfl ?_)
  (iterate 4 (first|(refine Go.kk 0 rfl ?_;refine Go.seq ?_)|(refine Go.kk 1 rfl ?_;refine Go.region (by kernel_rfl) rfl ?_)|(refine GoR.kk 0 rfl ?_;first|refine GoR.move rfl rfl rfl rfl rfl ?_|refine GoR.assign rfl rfl rfl rfl rfl ?_)|(refine GoR.kk 8 rfl ?_;first|refine GoR.boxA rfl rfl rfl rfl rfl ?_|refine GoR.boxS rfl rfl rfl rfl rfl rfl ?_|refine GoR.alloc rfl rfl rfl rfl ?_)|refine GoR.end ?_))
  refine GoR.name ?_
  intro h3 e3
  have G0 : h3.get h.n = some (.cells [.int .u16 f, .int .u16 t, .int .u32 g, .slice a n cap] 28) := by subst e3; exact AHeap.get_push_same h _
  have n3 : h3.n = h.n + 1 := by subst e3; rfl
  have S3 : Same h h3 := by subst e3; exact (Same.refl h).push _
  clear e3
  (refine Go.run (g:=?_))
  refine GoR.call rfl rfl rfl rfl rfl rfl rfl (((known06 _).argA).mono ?_)
  rintro _ h3' ⟨rfl, rfl⟩ -
  (refine Go.run (g:=?_))
  refine GoR.call rfl rfl rfl rfl rfl rfl rfl (((great6_spec f t g a n cap l _ (k.same S3) hn hC).argA).mono ?_)
  rintro _ h5 ⟨b5, rfl, hb⟩ s5
  have n5 := s5.1
  have G5 := s5.get G0
  have S5 := S3.trans s5
  cases b5
  case true =>
    (refine Go.run (g:=?_))
    (first|refine Go.finT (by first|exact .inr rfl|exact .inl rfl) rfl ?_|refine Go.fin1 (by first|exact .inr rfl|exact .inl rfl) rfl (hq:=?_))
    rfl
  obtain ⟨hn3, hD⟩ := hb rfl
  have hD2 : ∀ x ∈ l, x.1.D.n ≤ 1000000000 ∧ x.1.C.n ≤ 2000000 := fun x hx => by obtain ⟨u1, u2⟩ := hD x hx; omega
  clear hb G0
  (refine Go.run (g:=?_))
  refine GoR.call rfl rfl rfl rfl rfl rfl rfl (((pput_spec f t g hf ht hg a n cap l _ (k.same S5) (by omega) hD2).argA).mono ?_)
  intro v6 h6 hv6 s6
  have n6 := s6.1
  have G6 := s6.get G5
  have S6 := S5.trans s6
  obtain ⟨b, m, c, e, rfl, hcase⟩ := putP_cases hv6
  clear hv6
  rcases hcase with ⟨rfl, hm, z, hz, hzl, rfl, bs6, ob⟩ | ⟨he, rfl, rfl, rfl⟩
  case inr =>
    have he' : ¬ (e : Int) = 0 := by omega
    (refine Go.run (g:=?_))
    (first|refine Go.finT (by first|exact .inr rfl|exact .inl rfl) rfl ?_|refine Go.fin1 (by first|exact .inr rfl|exact .inl rfl) rfl (hq:=?_))
    simp [retV]
  have h4 := body_pre hz
  have hsz := pszs_of hz
  have ltb0 : ∀ i ∈ blk b, i < h6.n := bs6.lt
  have yl := hput_len f t g z
  (refine Go.run (g:=?_))
  refine Go.name ?_
  intro h7 e7
  have s7 : Same h6 h7 := by subst e7; exact (((Same.refl h6).push _).put (Nat.le_refl _) _).put (Nat.le_refl _) _
  have n7 : h7.n = h6.n + 1 := by subst e7; rfl
  have g7 : h7.get h6.n = some (.cells [.int .u16 f, .int .u16 t, .int .u32 g, .slice none 0 0] 28) := by subst e7; exact AHeap.get_put_same _ (by simp) _
  clear e7
  obtain ⟨y, hy⟩ : ∃ y, y = hput f t g z := ⟨_, rfl⟩
  obtain ⟨pw, hpw⟩ : ∃ pw, pw = h6.n := ⟨_, rfl⟩
  obtain ⟨n0, hn0⟩ : ∃ n0, n0 = h7.n := ⟨_, rfl⟩
  rw [← hy] at bs6 yl
  rw [← yl] at bs6
  rw [← hpw] at g7
  rw [← yl, ← hpw]
  have ltb : ∀ i ∈ blk b, i < pw := fun i hi => by have := ltb0 i hi; omega
  refine Go.loop (α := Nat × Nat × Bool × List CP × Option Addr × Nat × AHeap) (fun x => [(34, .int .i64 x.1), (9, .int .i64 x.2.1), (11, .bool x.2.2.1), (33, .int .i64 n), (32, .slice a n cap), (10, .pointer (some ⟨pw, 0, none⟩)), (7, .slice b y.length c), (1, .int .i64 at_), (2, .int .u8 tn)]) (fun _ => []) (fun x => x.2.2.2.2.2.2) (fun x => x.1 ≤ n ∧ x.2.1 = 12 + pszs (l.take x.1) ∧ x.2.1 ≤ 12 + x.1 * 65540 ∧ x.2.2.1 = anyE (l.take x.1) ∧ x.2.2.2.1 = upTo (l.take x.1) ∧ BInv h pw f t g b y.length c y n0 x.2.2.2.1 x.2.2.2.2.1 x.2.2.2.2.2.1 x.2.2.2.2.2.2) (fun x => n - x.1) (0, 12, false, [], none, 0, h7) ?_ ?_ rfl rfl ?_
  · exact ⟨Nat.zero_le _, rfl, by simp, rfl, rfl, S6.trans s7, Nat.le_of_eq hn0, g7, bs6.same s7, .nil, Own.nil _⟩
  · exact ⟨rfl, rfl, rfl, rfl, rfl, rfl, rfl, rfl, rfl, trivial⟩
  rintro ⟨i, sz, en, ls, oa, oc, h8⟩ ⟨hi, hsz1, hsz2, hen, hls, J⟩
  simp only at hi hsz1 hsz2 hen hls J ⊢
  have n8 := J.n
  have S8 := J.same
  have nS8 := S8.1
  rcases Nat.lt_or_ge i n with i0 | i0
  · have i1 : i < l.length := by rw [k.len]; exact i0
    have c0 := kcs_get i1
    have hbe : i * 15 + 15 ≤ (kcs l).length := by rw [kcs_len]; omega
    have k8 := k.same S8
    have hA8 := k8.rv
    have hmem : l[i] ∈ l := List.getElem_mem i1
    have hs1 : pszs (l.take (i + 1)) = pszs (l.take i) + psz l[i].1 l[i].2 := by rw [List.take_succ_eq_append_getElem i1, pszs_snoc]
    have hs2 : anyE (l.take (i + 1)) = (anyE (l.take i) || endsB l[i].1.k) := by rw [List.take_succ_eq_append_getElem i1, anyE_snoc]
    have hs3 : upTo (l.take (i + 1)) = if anyE (l.take i) = true then upTo (l.take i) else if endsB l[i].1.k = true then upTo (l.take i) else upTo (l.take i) ++ [l[i]] := by rw [List.take_succ_eq_append_getElem i1, upTo_snoc]
    have hlen8 : ls.length ≤ i := by
      have := (List.takeWhile_sublist (fun x : CP => !endsB x.1.k) (l := l.take i)).length_le
      rw [hls]
      unfold upTo
      rw [List.length_take] at this
      omega
    generalize l[i] = x at *
    rw [← hen, ← hls] at hs3
    rw [← hen] at hs2
    obtain ⟨hD1, hD2'⟩ := hD2 _ hmem
    have hpz := psz_le x.1 x.2
    unfold Ck.cs at c0
    (refine Go.run (g:=?_))
    refine GoR.name ?_
    intro h9 e9
    have s9 : Same h8 h9 := by subst e9; exact ((Same.refl h8).push _).put (Nat.le_refl _) _
    have n9 : h9.n = h8.n + 1 := by subst e9; rfl
    have g9 : h9.get h8.n = some (.cells x.1.cs 43) := by subst e9; exact AHeap.get_put_same _ (by simp) _
    clear e9
    unfold Ck.cs at g9
    (refine Go.run (g:=?_))
    refine GoR.call rfl rfl rfl rfl rfl rfl rfl (((psize_spec x.1 x.2 _ ((k8.ok _ hmem).same s9) hD1 hD2').argA).mono ?_)
    rintro _ hA rfl sA
    have nA := sA.1
    have gA := sA.get g9
    have JA := (J.to s9).to sA
    have JO := JA.out
    cases en
    case true =>
      (refine Go.run (g:=?_))
      exact Go.again (i + 1, sz + psz x.1 x.2, true, ls, oa, oc, _) ⟨by simp only; omega, by simp only; rw [hs1]; omega, by simp only; omega, by simp only [hs2]; rfl, by simp only [hs3]; rfl, JA⟩ (by simp only; omega) ⟨rfl, rfl, rfl, rfl, rfl, rfl, rfl, rfl, rfl, trivial⟩ rfl rfl
    case false =>
      have hk8 : x.1.k < 256 := (k.ok _ hmem).k
      (refine Go.run (g:=?_))
      refine GoR.call rfl rfl rfl rfl rfl rfl rfl (((kknown_spec x.1.k _).argA).mono ?_)
      rintro _ hA' ⟨rfl, rfl⟩ -
      cases hkn : kn x.1.k
      case true =>
        have hE : endsB x.1.k = false := by simp [endsB, hkn]
        (refine Go.run (g:=?_))
        refine GoR.buildRo (c := x.1.cs) rfl rfl rfl rfl rfl (by decide) (by rfl) (by rfl) ?_
        intro b10 h10 hb10 rb10 ob10 s10 n10
        have J10 := JA.to s10
        refine GoR.appendV rfl rfl rfl rfl rfl rfl J10.sv hb10 (fun i hi => .inr (by have := JA.own i hi; omega)) (by omega) (by omega) (by rfl) ?_
        intro b11 c11 h11 hs11 k11 o11
        have m11 := k11.1
        have nob : ∀ i, i < n0 → i ∉ blk oa := fun i hi hm => by have := JA.own _ hm; omega
        have go11 := k11.get J10.out (nob _ (by omega))
        have bs11 := J10.bs.keeps k11 (fun i hi => nob _ (by have := ltb i hi; omega))
        have S11 := J10.same.ownO k11 (JA.own.mono (by omega)) (Nat.le_refl _)
        refine GoR.fieldAddr rfl rfl rfl rfl rfl ?_
        refine GoR.store (off := 0 + 3) (n := 1) (v := .slice b11 (ls.length + 1) c11) (l := [.slice b11 (ls.length + 1) c11]) rfl rfl rfl rfl rfl go11 rfl rfl (show 4 ≤ 4 from Nat.le_refl _) rfl rfl (.inr (by omega)) ?_
        (refine Go.run (g:=?_))
        refine Go.name ?_
        intro h12 e12
        have k12 : Keeps [pw] h11 h12 := by subst e12; exact (Keeps.rfl _ _).put (by simp) _
        have go12 : h12.get pw = some (.cells [.int .u16 f, .int .u16 t, .int .u32 g, .slice b11 (ls.length + 1) c11] 28) := by subst e12; exact AHeap.get_put_same _ (by omega) _
        have S12 : Same h h12 := by subst e12; exact S11.put (by omega) _
        have n12 := k12.1
        clear e12
        have own11 := JA.own.app (by omega) o11
        have J12 : BInv h pw f t g b y.length c y n0 (ls ++ [x]) b11 c11 h12 := ⟨S12, by omega, by simpa only [List.length_append, List.length_cons, List.length_nil] using go12, bs11.keeps k12 (fun i hi hm => by simp only [List.mem_singleton] at hm; have := ltb i hi; omega), by rw [kcs_snoc, List.length_append]; exact hs11.keeps k12 (fun i hi hm => by simp only [List.mem_singleton] at hm; have := own11 i hi; omega), own11⟩
        exact Go.again (i + 1, sz + psz x.1 x.2, false, ls ++ [x], b11, c11, h12) ⟨by simp only; omega, by simp only; rw [hs1]; omega, by simp only; omega, by simp only [hs2, hE]; try rfl, by rw [hs3, hls]; simp [hE], J12⟩ (by simp only; omega) ⟨rfl, rfl, rfl, rfl, rfl, rfl, rfl, rfl, rfl, trivial⟩ rfl rfl
      case false =>
        (refine Go.run (g:=?_))
        refine GoR.call rfl rfl rfl rfl rfl rfl rfl (((skips_spec x.1.k hk8 _).argA).mono ?_)
        rintro _ hA' ⟨rfl, rfl⟩ -
        rw [hkn]
        by_cases c8 : 128 ≤ x.1.k
        case pos =>
          have hE : endsB x.1.k = false := by simp [endsB, hkn]; omega
          rw [show (!false && decide (128 ≤ x.1.k)) = true from by simp [c8]]
          (refine Go.run (g:=?_))
          refine GoR.buildRo (c := x.1.cs) rfl rfl rfl rfl rfl (by decide) (by rfl) (by rfl) ?_
          intro b10 h10 hb10 rb10 ob10 s10 n10
          have J10 := JA.to s10
          refine GoR.appendV rfl rfl rfl rfl rfl rfl J10.sv hb10 (fun i hi => .inr (by have := JA.own i hi; omega)) (by omega) (by omega) (by rfl) ?_
          intro b11 c11 h11 hs11 k11 o11
          have m11 := k11.1
          have nob : ∀ i, i < n0 → i ∉ blk oa := fun i hi hm => by have := JA.own _ hm; omega
          have go11 := k11.get J10.out (nob _ (by omega))
          have bs11 := J10.bs.keeps k11 (fun i hi => nob _ (by have := ltb i hi; omega))
          have S11 := J10.same.ownO k11 (JA.own.mono (by omega)) (Nat.le_refl _)
          refine GoR.fieldAddr rfl rfl rfl rfl rfl ?_
          refine GoR.store (off := 0 + 3) (n := 1) (v := .slice b11 (ls.length + 1) c11) (l := [.slice b11 (ls.length + 1) c11]) rfl rfl rfl rfl rfl go11 rfl rfl (show 4 ≤ 4 from Nat.le_refl _) rfl rfl (.inr (by omega)) ?_
          (refine Go.run (g:=?_))
          refine Go.name ?_
          intro h12 e12
          have k12 : Keeps [pw] h11 h12 := by subst e12; exact (Keeps.rfl _ _).put (by simp) _
          have go12 : h12.get pw = some (.cells [.int .u16 f, .int .u16 t, .int .u32 g, .slice b11 (ls.length + 1) c11] 28) := by subst e12; exact AHeap.get_put_same _ (by omega) _
          have S12 : Same h h12 := by subst e12; exact S11.put (by omega) _
          have n12 := k12.1
          clear e12
          have own11 := JA.own.app (by omega) o11
          have J12 : BInv h pw f t g b y.length c y n0 (ls ++ [x]) b11 c11 h12 := ⟨S12, by omega, by simpa only [List.length_append, List.length_cons, List.length_nil] using go12, bs11.keeps k12 (fun i hi hm => by simp only [List.mem_singleton] at hm; have := ltb i hi; omega), by rw [kcs_snoc, List.length_append]; exact hs11.keeps k12 (fun i hi hm => by simp only [List.mem_singleton] at hm; have := own11 i hi; omega), own11⟩
          exact Go.again (i + 1, sz + psz x.1 x.2, false, ls ++ [x], b11, c11, h12) ⟨by simp only; omega, by simp only; rw [hs1]; omega, by simp only; omega, by simp only [hs2, hE]; try rfl, by rw [hs3, hls]; simp [hE], J12⟩ (by simp only; omega) ⟨rfl, rfl, rfl, rfl, rfl, rfl, rfl, rfl, rfl, trivial⟩ rfl rfl
        case neg =>
          have hE : endsB x.1.k = true := by simp [endsB, hkn]; omega
          rw [show (!false && decide (128 ≤ x.1.k)) = false from by simp [c8]]
          (refine Go.run (g:=?_))
          exact Go.again (i + 1, sz + psz x.1 x.2, true, ls, oa, oc, _) ⟨by simp only; omega, by simp only; rw [hs1]; omega, by simp only; omega, by simp only [hs2, hE]; rfl, by simp only [hs3, hE]; rfl, JA⟩ (by simp only; omega) ⟨rfl, rfl, rfl, rfl, rfl, rfl, rfl, rfl, rfl, trivial⟩ rfl rfl
  · have hie : i = n := by omega
    subst hie
    rw [← k.len, List.take_length] at hsz1 hen hls
    have esz : sz = y.length := by omega
    subst esz
    have hk8 := take6_of hf ht hg k.ok hz hzl h4 hm
    rw [← hy] at hk8
    have hlsl : ls.length ≤ 300 := by
      have := (List.takeWhile_sublist (fun x : CP => !endsB x.1.k) (l := l)).length_le
      rw [hls]
      unfold upTo
      have := k.len
      omega
    have JO := J.out
    have r8 := J.bs.rv (P := Try.prog)
    (refine Go.run (g:=?_))
    refine GoR.call rfl rfl rfl rfl rfl rfl rfl (((ptake_spec b c y (by omega) _ r8).argA).mono ?_)
    intro v9 h9 hv9 s9
    have n9 := s9.1
    have g9 := s9.get JO
    have J9 := J.to s9
    rw [← hls] at hk8
    by_cases hne : ls = []
    · rw [if_pos hne] at hk8
      rw [hk8] at hv9
      simp only [TakeP] at hv9
      subst hv9
      have hl0 : ((ls.length : Nat) : Int) = 0 := by rw [hne]; rfl
      (refine Go.run (g:=?_))
      (first|refine Go.finT (by first|exact .inr rfl|exact .inl rfl) rfl ?_|refine Go.fin1 (by first|exact .inr rfl|exact .inl rfl) rfl (hq:=?_))
      simp [retV]
    · rw [if_neg hne] at hk8
      rw [hk8] at hv9
      obtain ⟨a', n', cap', l', rfl, ks', hpc⟩ := hv9
      have hl0 : ¬ ((ls.length : Nat) : Int) = 0 := by have := List.length_pos_iff.2 hne; omega
      have hsb := take6_sb hk8 (by omega) ks'.ok hpc
      have hn' : n' ≤ 300 := by have := congrArg List.length hpc; rw [pcs_len, pcs_len, ks'.len] at this; omega
      (refine Go.run (g:=?_))
      refine GoR.name ?_
      intro h10 e10
      have s10 : Same h9 h10 := by subst e10; exact ((Same.refl h9).push _).put (Nat.le_refl _) _
      have J10 := J9.to s10
      clear e10
      have n10 := s10.1
      have ksw : KS h10 oa ls.length oc ls := ⟨rfl, J10.sv.rv, fun x hx => (k.ok x (by rw [hls] at hx; exact List.takeWhile_subset _ hx)).same J10.same⟩
      refine GoR.call rfl rfl rfl rfl rfl rfl rfl (((same6_spec f t g a' oa n' cap' ls.length oc l' ls _ (ks'.same s10) ksw hpc (by omega) (fun x hx => (hsb x hx).1)).argA).mono ?_)
      rintro _ h11 rfl s11
      have n11 := s11.1
      have J11 := J10.to s11
      by_cases q0 : tn = 0
      · have q0' : (tn : Int) = 0 := by omega
        (refine Go.run (g:=?_))
        (first|refine Go.finT (by first|exact .inr rfl|exact .inl rfl) rfl ?_|refine Go.fin1 (by first|exact .inr rfl|exact .inl rfl) rfl (hq:=?_))
        simp [retV]
      have q0' : ¬ (tn : Int) = 0 := by omega
      by_cases q1 : at_ < 0
      · (refine Go.run (g:=?_))
        (first|refine Go.finT (by first|exact .inr rfl|exact .inl rfl) rfl ?_|refine Go.fin1 (by first|exact .inr rfl|exact .inl rfl) rfl (hq:=?_))
        simp [retV]
      obtain ⟨q, rfl⟩ : ∃ q : Nat, at_ = q := ⟨at_.toNat, by omega⟩
      rcases Nat.lt_or_ge q y.length with hq | hq
      case inr =>
        have hq' : (y.length : Int) ≤ q := by omega
        (refine Go.run (g:=?_))
        (first|refine Go.finT (by first|exact .inr rfl|exact .inl rfl) rfl ?_|refine Go.fin1 (by first|exact .inr rfl|exact .inl rfl) rfl (hq:=?_))
        simp [retV]
      have r11 := J11.bs.rv (P := Try.prog)
      have hb8 := J11.bs
      have vq := byte_at hq
      have xq : y[q].toNat < 256 := UInt8.toNat_lt _
      (refine Go.run (g:=?_))
      refine GoR.xorN rfl rfl rfl rfl rfl rfl xq htn ?_
      (refine Go.run (g:=?_))
      refine GoR.store1' rfl rfl rfl rfl rfl rfl (g:=?_)
      intro h12 sv12 k12 n12
      have e12 : (y.map bv).set q (.int .u8 ((y[q].toNat ^^^ tn : Nat) : Int)) = (y.set q (y[q] ^^^ UInt8.ofNat tn)).map bv := by
        have ex : (y[q] ^^^ UInt8.ofNat tn).toNat = y[q].toNat ^^^ tn := by rw [UInt8.toNat_xor, UInt8.toNat_ofNat', Nat.mod_eq_of_lt (by omega)]
        rw [List.map_set]
        unfold bv
        rw [ex]
      rw [e12] at sv12
      have hx0 : UInt8.ofNat tn ≠ 0 := fun e => q0 (by have := congrArg UInt8.toNat e; rw [UInt8.toNat_ofNat', Nat.mod_eq_of_lt (by omega)] at this; exact this)
      have hfl : take6 (y.set q (y[q] ^^^ UInt8.ofNat tn)) = .error 31 := by subst hy; exact take6_flip hf ht hg hzl h4 hq hx0
      have yl' : (y.set q (y[q] ^^^ UInt8.ofNat tn)).length = y.length := List.length_set
      generalize y.set q (y[q] ^^^ UInt8.ofNat tn) = y' at *
      have pt := ptake_spec b c y' (by omega) h12 (by rw [yl']; exact sv12.rv)
      rw [yl'] at pt
      (refine Go.run (g:=?_))
      refine GoR.call rfl rfl rfl rfl rfl rfl rfl (((pt).argA).mono ?_)
      intro v13 h13 hv13 s13
      rw [hfl] at hv13
      simp only [TakeP] at hv13
      subst hv13
      (refine Go.run (g:=?_))
      (first|refine Go.finT (by first|exact .inr rfl|exact .inl rfl) rfl ?_|refine Go.fin1 (by first|exact .inr rfl|exact .inl rfl) rfl (hq:=?_))
      simp [retV]
end Go.Proofs.Ytjpegoigipbmiaa
namespace Go.Proofs.Ytjpegoigipbmiaa
theorem u8b : Try.prog.underlying 5 = some (.int .u8) := by kernel_rfl
theorem u16b : Try.prog.underlying 22 = some (.int .u16) := by kernel_rfl
theorem bytesB : Try.prog.underlying 31 = some (.slice 5) := by kernel_rfl
end Go.Proofs.Ytjpegoigipbmiaa
namespace Go.Proofs.Ytjpegoigipbmiaa
set_option maxRecDepth 100000
open Go.ChangeShapes Go.WideShapes Go.ChangeAt Go.RowKit
theorem u8W5 : Try.prog.bytesOf 5 = 1 := by kernel_rfl
theorem u32b : Try.prog.underlying 23 = some (.int .u32) := by kernel_rfl
theorem u32sB : Try.prog.underlying 39 = some (.slice 23) := by kernel_rfl
theorem gapsB' : Try.prog.underlying 40 = some (.slice 78) := by kernel_rfl
theorem causesB' : Try.prog.underlying 41 = some (.slice 69) := by kernel_rfl
theorem cells_of {α : Type} {f : α → List Value} {sz : Nat} : ∀ (len : Nat) (c : List Value), c.length = len * sz → (∀ i, i < len → ∃ x, (c.drop (i * sz)).take sz = f x) → ∃ l : List α, l.length = len ∧ c = (l.map f).flatten
  | 0, c, hl, _ => ⟨[], rfl, by simpa using hl⟩
  | n + 1, c, hl, each => by
    obtain ⟨x, e⟩ := each 0 (by omega)
    rw [Nat.zero_mul, List.drop_zero] at e
    obtain ⟨l, i1, i2⟩ := cells_of (f := f) (sz := sz) n (c.drop sz) (by rw [List.length_drop, hl, Nat.add_mul]; omega) fun i hi => by
      have := each (i + 1) (by omega)
      rwa [Nat.add_mul, Nat.one_mul, Nat.add_comm, ← List.drop_drop] at this
    exact ⟨x :: l, by simp [i1], by rw [List.map_cons, List.flatten_cons, ← e, ← i2, List.take_append_drop]⟩
theorem gap_of {h : AHeap} {H : Type} {cs : List Value} {d : DataW H} (r : ARd Try.prog h 78 cs d) : ∃ x : Nat × Nat, cs = gC x ∧ x.1 < 65536 ∧ x.2 < 65536 := by
  obtain ⟨hl, hf⟩ := r.field Try.underlying78
  rw [show Try.prog.cellsOf 78 = 2 from by kernel_rfl] at hl
  match cs, hl with
  | [c0, c1], _ =>
    obtain ⟨d0, r0⟩ := hf 0 22 0 1 rfl (by kernel_rfl)
    obtain ⟨d1, r1⟩ := hf 1 22 1 1 rfl (by kernel_rfl)
    obtain ⟨n, e0, b0⟩ := r0.u_inv rfl u16b
    obtain ⟨k, e1, b1⟩ := r1.u_inv rfl u16b
    simp at e0 e1
    subst e0 e1
    exact ⟨(n, k), rfl, b0, b1⟩
theorem cause_of {h : AHeap} {H : Type} {cs : List Value} {d : DataW H} (r : ARd Try.prog h 69 cs d) (z : Sized Try.prog 69 d) : ∃ x : CV, cs = cvC x ∧ x.k < 65536 ∧ x.z.length ≤ 140737488355328 ∧ Rv Try.prog h 1 x.a x.z.length x.cap (x.z.map bv) := by
  obtain ⟨hl, hf⟩ := r.fieldZ z Try.underlying69
  rw [show Try.prog.cellsOf 69 = 2 from by kernel_rfl] at hl
  match cs, hl with
  | [c0, c1], _ =>
    obtain ⟨d0, r0, -⟩ := hf 0 22 0 1 rfl (by kernel_rfl)
    obtain ⟨d1, r1, z1⟩ := hf 1 31 1 1 rfl (by kernel_rfl)
    obtain ⟨n, e0, b0⟩ := r0.u_inv rfl u16b
    obtain ⟨a, cap, zs, e1, hR, hm, hZ⟩ := r1.bytesZ z1 bytesB u8b (by kernel_rfl) u8W5
    simp at e0 e1
    subst e0 e1
    exact ⟨⟨n, a, cap, zs⟩, rfl, b0, hZ, hR⟩
theorem cells_of' {α : Type} {f : α → List Value} {p : α → Prop} {sz : Nat} (len : Nat) (c : List Value) (hl : c.length = len * sz) (each : ∀ i, i < len → ∃ x, (c.drop (i * sz)).take sz = f x ∧ p x) : ∃ l : List α, l.length = len ∧ c = (l.map f).flatten ∧ ∀ x ∈ l, p x := by
  obtain ⟨l, h1, h2⟩ := cells_of (f := fun x : {x : α // p x} => f x.1) len c hl fun i hi => let ⟨x, a, b⟩ := each i hi; ⟨⟨x, b⟩, a⟩
  refine ⟨l.map (·.1), by simpa using h1, by rw [h2, List.map_map]; rfl, fun x hx => ?_⟩
  obtain ⟨y, hy, rfl⟩ := List.mem_map.1 hx
  exact y.2
theorem w32_of {h : AHeap} {H : Type} {cs : List Value} {d : DataW H} (r : ARd Try.prog h 39 cs d) (z : Sized Try.prog 39 d) : ∃ (s : Sl) (l : List Nat), cs = [.slice s.a s.n s.cap] ∧ l.length = s.n ∧ Rv Try.prog h 1 s.a s.n s.cap (w32s l) ∧ (∀ x ∈ l, x < 4294967296) ∧ s.n ≤ 140737488355328 ∧ s.cap ≤ maxLen := by
  obtain ⟨a, len, cap, c, rfl, hR, hm, hb, hel⟩ := r.slice_invZ z u32sB
  rw [show Try.prog.cellsOf 23 = 1 from by kernel_rfl] at hR hel
  rw [show Try.prog.bytesOf 23 = 4 from by kernel_rfl] at hb
  obtain ⟨l, rfl, rfl, hp⟩ := cells_of' (f := fun n : Nat => [Value.int .u32 (n : Int)]) (p := fun n => n < 4294967296) len c hR.length fun i hi => by
    obtain ⟨d', r, -⟩ := hel i hi
    obtain ⟨n, e0, hn⟩ := r.u_inv rfl u32b
    exact ⟨n, e0, hn⟩
  have e : ((l.map fun n : Nat => [Value.int .u32 (n : Int)]).flatten) = w32s l := by
    clear hR hel hp hb hm r z
    induction l with
    | nil => rfl
    | cons x l ih => simp only [w32s, List.map_cons, List.flatten_cons, List.cons_append, List.nil_append] at ih ⊢; rw [ih]
  rw [e] at hR
  exact ⟨⟨a, l.length, cap⟩, l, rfl, rfl, hR, hp, Nat.le_trans (Nat.le_mul_of_pos_right _ (by decide)) (Nat.le_trans hb (by have := reachBytes_lt; omega)), hm⟩
theorem gaps_of {h : AHeap} {H : Type} {cs : List Value} {d : DataW H} (r : ARd Try.prog h 40 cs d) (z : Sized Try.prog 40 d) : ∃ (s : Sl) (l : List (Nat × Nat)), cs = [.slice s.a s.n s.cap] ∧ l.length = s.n ∧ Rv Try.prog h 2 s.a s.n s.cap (gcs l) ∧ (∀ x ∈ l, x.1 < 65536 ∧ x.2 < 65536) ∧ s.n ≤ 140737488355328 ∧ s.cap ≤ maxLen := by
  obtain ⟨a, len, cap, c, rfl, hR, hm, hb, hel⟩ := r.slice_invZ z gapsB'
  rw [show Try.prog.cellsOf 78 = 2 from by kernel_rfl] at hR hel
  rw [show Try.prog.bytesOf 78 = 4 from by kernel_rfl] at hb
  obtain ⟨l, rfl, rfl, hp⟩ := cells_of' (f := gC) (p := fun x => x.1 < 65536 ∧ x.2 < 65536) len c hR.length fun i hi => by
    obtain ⟨d', r, -⟩ := hel i hi
    exact gap_of r
  exact ⟨⟨a, l.length, cap⟩, l, rfl, rfl, hR, hp, Nat.le_trans (Nat.le_mul_of_pos_right _ (by decide)) (Nat.le_trans hb (by have := reachBytes_lt; omega)), hm⟩
theorem causes_of {h : AHeap} {H : Type} {cs : List Value} {d : DataW H} (r : ARd Try.prog h 41 cs d) (z : Sized Try.prog 41 d) : ∃ (s : Sl) (l : List CV), cs = [.slice s.a s.n s.cap] ∧ l.length = s.n ∧ Rv Try.prog h 2 s.a s.n s.cap (ccs l) ∧ (∀ x ∈ l, x.k < 65536 ∧ x.z.length ≤ 140737488355328 ∧ Rv Try.prog h 1 x.a x.z.length x.cap (x.z.map bv)) ∧ s.n ≤ 4398046511104 ∧ s.cap ≤ maxLen := by
  obtain ⟨a, len, cap, c, rfl, hR, hm, hb, hel⟩ := r.slice_invZ z causesB'
  rw [show Try.prog.cellsOf 69 = 2 from by kernel_rfl] at hR hel
  rw [show Try.prog.bytesOf 69 = 32 from by kernel_rfl] at hb
  obtain ⟨l, rfl, rfl, hp⟩ := cells_of' (f := cvC) (p := fun x => x.k < 65536 ∧ x.z.length ≤ 140737488355328 ∧ Rv Try.prog h 1 x.a x.z.length x.cap (x.z.map bv)) len c hR.length fun i hi => by
    obtain ⟨d', r, z'⟩ := hel i hi
    exact cause_of r z'
  exact ⟨⟨a, l.length, cap⟩, l, rfl, rfl, hR, hp, (by have := reachBytes_lt; show l.length ≤ _; omega), hm⟩
set_option maxHeartbeats 4000000 in
theorem chunk_of {h : AHeap} {H : Type} {cs : List Value} {d : DataW H} (r : ARd Try.prog h 43 cs d) (z : Sized Try.prog 43 d) : ∃ (c : Ck) (x : CD), cs = c.cs ∧ COk h c x ∧ c.D.n ≤ 140737488355328 ∧ c.A.n ≤ 140737488355328 ∧ c.G.n ≤ 140737488355328 ∧ c.U.n ≤ 140737488355328 ∧ c.C.n ≤ 4398046511104 := by
  obtain ⟨hl, hf⟩ := r.fieldZ z Try.underlying43
  rw [show Try.prog.cellsOf 43 = 15 from by kernel_rfl] at hl
  match cs, hl with
  | [c0, c1, c2, c3, c4, c5, c6, c7, c8, c9, c10, c11, c12, c13, c14], _ =>
    obtain ⟨d0, r0, -⟩ := hf 0 5 0 1 rfl (by kernel_rfl)
    obtain ⟨n0, e0, b0⟩ := r0.u_inv rfl u8b
    obtain ⟨d1, r1, -⟩ := hf 1 5 1 1 rfl (by kernel_rfl)
    obtain ⟨n1, e1, b1⟩ := r1.u_inv rfl u8b
    obtain ⟨d2, r2, -⟩ := hf 2 23 2 1 rfl (by kernel_rfl)
    obtain ⟨n2, e2, b2⟩ := r2.u_inv rfl u32b
    obtain ⟨d3, r3, -⟩ := hf 3 23 3 1 rfl (by kernel_rfl)
    obtain ⟨n3, e3, b3⟩ := r3.u_inv rfl u32b
    obtain ⟨d4, r4, -⟩ := hf 4 23 4 1 rfl (by kernel_rfl)
    obtain ⟨n4, e4, b4⟩ := r4.u_inv rfl u32b
    obtain ⟨d5, r5, -⟩ := hf 5 22 5 1 rfl (by kernel_rfl)
    obtain ⟨n5, e5, b5⟩ := r5.u_inv rfl u16b
    obtain ⟨d6, r6, -⟩ := hf 6 22 6 1 rfl (by kernel_rfl)
    obtain ⟨n6, e6, b6⟩ := r6.u_inv rfl u16b
    obtain ⟨d7, r7, -⟩ := hf 7 22 7 1 rfl (by kernel_rfl)
    obtain ⟨n7, e7, b7⟩ := r7.u_inv rfl u16b
    obtain ⟨d8, r8, -⟩ := hf 8 22 8 1 rfl (by kernel_rfl)
    obtain ⟨n8, e8, b8⟩ := r8.u_inv rfl u16b
    obtain ⟨d9, r9, -⟩ := hf 9 23 9 1 rfl (by kernel_rfl)
    obtain ⟨n9, e9, b9⟩ := r9.u_inv rfl u32b
    obtain ⟨d10, r10, z10⟩ := hf 10 31 10 1 rfl (by kernel_rfl)
    obtain ⟨a, cap, zs, e10, hR, hm, hZ⟩ := r10.bytesZ z10 bytesB u8b (by kernel_rfl) u8W5
    obtain ⟨d11, r11, z11⟩ := hf 11 39 11 1 rfl (by kernel_rfl)
    obtain ⟨sA, lA, e11, l11, v11, b11, n11, m11⟩ := w32_of r11 z11
    obtain ⟨d12, r12, z12⟩ := hf 12 40 12 1 rfl (by kernel_rfl)
    obtain ⟨sG, lG, e12, l12, v12, b12, n12, m12⟩ := gaps_of r12 z12
    obtain ⟨d13, r13, z13⟩ := hf 13 39 13 1 rfl (by kernel_rfl)
    obtain ⟨sU, lU, e13, l13, v13, b13, n13, m13⟩ := w32_of r13 z13
    obtain ⟨d14, r14, z14⟩ := hf 14 41 14 1 rfl (by kernel_rfl)
    obtain ⟨sC, lC, e14, l14, v14, b14, n14, m14⟩ := causes_of r14 z14
    simp at e0 e1 e2 e3 e4 e5 e6 e7 e8 e9 e10 e11 e12 e13 e14
    subst e0 e1 e2 e3 e4 e5 e6 e7 e8 e9 e10 e11 e12 e13 e14
    exact ⟨⟨n0, n1, n2, n3, n4, n5, n6, n7, n8, n9, ⟨a, zs.length, cap⟩, sA, sG, sU, sC⟩, ⟨zs, lA, lG, lU, lC⟩, rfl, ⟨b0, b1, b2, b3, b4, b5, b6, b7, b8, b9, rfl, hR, l11, v11, b11, l12, v12, b12, l13, v13, b13, l14, v14, b14⟩, hZ, n11, n12, n13, n14⟩
end Go.Proofs.Ytjpegoigipbmiaa
namespace Go.Proofs.Ytjpegoigipbmiaa
set_option maxRecDepth 100000
theorem hu16 : Try.prog.underlying 22 = some (.int .u16) := by kernel_rfl
theorem hu32 : Try.prog.underlying 23 = some (.int .u32) := by kernel_rfl
theorem head_of {h : AHeap} {H : Type} {cs : List Value} {d : DataW H} (r : ARd Try.prog h 25 cs d) : ∃ f t g : Nat, cs = [.int .u16 f, .int .u16 t, .int .u32 g] ∧ f < 65536 ∧ t < 65536 ∧ g < 4294967296 := by
  obtain ⟨hl, hf⟩ := r.field Try.underlying25
  rw [show Try.prog.cellsOf 25 = 3 from by kernel_rfl] at hl
  match cs, hl with
  | [c0, c1, c2], _ =>
    obtain ⟨d0, r0⟩ := hf 0 22 0 1 rfl (by kernel_rfl)
    obtain ⟨d1, r1⟩ := hf 1 22 1 1 rfl (by kernel_rfl)
    obtain ⟨d2, r2⟩ := hf 2 23 2 1 rfl (by kernel_rfl)
    obtain ⟨f, e0, h0⟩ := r0.u_inv rfl hu16
    obtain ⟨t, e1, h1⟩ := r1.u_inv rfl hu16
    obtain ⟨g, e2, h2⟩ := r2.u_inv rfl hu32
    simp at e0 e1 e2
    subst e0 e1 e2
    exact ⟨f, t, g, rfl, h0, h1, h2⟩
end Go.Proofs.Ytjpegoigipbmiaa
namespace Go.Proofs.Ytjpegoigipbmiaa
set_option maxRecDepth 100000
theorem chunksB' : Try.prog.underlying 26 = some (.slice 43) := by kernel_rfl
theorem chunks_of {h : AHeap} {H : Type} {cs : List Value} {d : DataW H} (r : ARd Try.prog h 26 cs d) (z : Sized Try.prog 26 d) : ∃ (a : Option Addr) (n cap : Nat) (l : List CP), cs = [.slice a n cap] ∧ KS h a n cap l ∧ (∀ x ∈ l, CB x.1) ∧ n ≤ 140737488355328 := by
  obtain ⟨a, len, cap, c, rfl, hR, hm, hb, hel⟩ := r.slice_invZ z chunksB'
  rw [show Try.prog.cellsOf 43 = 15 from by kernel_rfl] at hR hel
  obtain ⟨l, rfl, rfl, hp⟩ := cells_of' (f := fun x : CP => x.1.cs) (p := fun x => COk h x.1 x.2 ∧ CB x.1) len c hR.length fun i hi => by
    obtain ⟨d', r, z'⟩ := hel i hi
    obtain ⟨c, x, e, ok, b⟩ := chunk_of r z'
    exact ⟨(c, x), e, ok, b⟩
  exact ⟨a, l.length, cap, l, rfl, ⟨rfl, hR, fun x hx => (hp x hx).1⟩, fun x hx => (hp x hx).2, Nat.le_trans (Nat.le_mul_of_pos_right _ (of_decide_eq_true (by kernel_rfl))) (Nat.le_trans hb (by have := reachBytes_lt; omega))⟩
theorem packet_of {h : AHeap} {H : Type} {cs : List Value} {d : DataW H} (r : ARd Try.prog h 28 cs d) (z : Sized Try.prog 28 d) : ∃ (f t g : Nat) (a : Option Addr) (n cap : Nat) (l : List CP), cs = [.int .u16 f, .int .u16 t, .int .u32 g, .slice a n cap] ∧ f < 65536 ∧ t < 65536 ∧ g < 4294967296 ∧ KS h a n cap l ∧ (∀ x ∈ l, CB x.1) ∧ n ≤ 140737488355328 := by
  obtain ⟨hl, hf⟩ := r.fieldZ z Try.underlying28
  rw [show Try.prog.cellsOf 28 = 4 from by kernel_rfl] at hl
  match cs, hl with
  | [c0, c1, c2, c3], _ =>
    obtain ⟨d0, r0, -⟩ := hf 0 25 0 3 rfl (by kernel_rfl)
    obtain ⟨f, t, g, e0, b1, b2, b3⟩ := head_of r0
    obtain ⟨d1, r1, z1⟩ := hf 1 26 3 1 rfl (by kernel_rfl)
    obtain ⟨a, n, cap, l, e1, ks, hb, hn⟩ := chunks_of r1 z1
    simp at e0 e1
    obtain ⟨rfl, rfl, rfl⟩ := e0
    subst e1
    exact ⟨f, t, g, a, n, cap, l, rfl, b1, b2, b3, ks, hb, hn⟩
theorem plainPacket : plainB Try.prog 9 28 = true := by kernel_rfl
end Go.Proofs.Ytjpegoigipbmiaa
namespace Go.Proofs.Ytjpegoigipbmiaa
open Go.ChangeShapes Go.WideShapes Go.ChangeAt Go.RowKit
set_option maxRecDepth 100000
theorem pktBackWalk {H : Type} {enc : TypeId × Value → H} {base : Nat} {d0 : DataW H} {p0 : List MemPlace} (v0 : Value) (a1 a2 : Int) (W : World) (o0 : Value.okWide Try.prog W .any base 28 v0) (h0 : DataW.Trod enc Try.prog W 0 (fun _ => true) true 28 v0 d0 p0) (z0 : Sized Try.prog 28 d0) (w1 : (Lit.int .i64 a1).wf = true) (w2 : (Lit.int .u8 a2).wf = true) : Calls Try.prog 6 #[v0, .int .i64 a1, .int .u8 a2] W fun e w' => e = .returned (.bool true) ∧ Below W.heap.size W w' := by
  obtain ⟨c1, rfl, hsz⟩ := okWide_struct Try.underlying28 o0
  obtain ⟨m, h, cs, I, _, _, hA, hR, hl⟩ := imp_val plainPacket h0 (Im.empty Try.prog W)
  have hv := vrel_agg hA
  obtain ⟨f, t, g, a, n, cap, l, rfl, b1, b2, b3, ks, hb, hn⟩ := packet_of hR z0
  simp [Lit.wf, IntKind.wrap, IntKind.bits, IntKind.signed, IntKind.min, IntKind.max] at w1 w2
  obtain ⟨tn, rfl⟩ : ∃ n : Nat, a2 = n := ⟨a2.toNat, by omega⟩
  exact calls_imp noGlobals I rfl (pktBack_spec f t g b1 b2 b3 a n cap l a1 (by omega) tn (by omega) h ks hn hb) (((ARel.single hv).push (.int _ _)).push (.int _ _))
end Go.Proofs.Ytjpegoigipbmiaa