/- What the law leans on, part 6. No conditions. -/
import Derived.ProofKit
import Derived.OpenShut
import Derived.ChangeOld
import Derived.Test.YtmelgnpogdilgaaChunkPutsPart5
/- head and its definition: contracts on the abstract heap (1). No conditions. -/
namespace Go.Proofs.Ytmelgnpogdilgaa
set_option linter.unusedVariables false
set_option maxRecDepth 100000
attribute [local irreducible] Go GoR GoL
set_option maxHeartbeats 4000000 in
theorem number_spec (a : Option Addr) (cap : Nat) (zs : List UInt8) (hl : zs.length ≤ 4) (h : AHeap) (hz : Rv Try.prog h 1 a zs.length cap (zs.map bv)) : CallS Try.prog [] 51 [.slice a zs.length cap] h fun v h' => v = .int .u32 (beNum zs : Nat) := by
  generalize hlen : zs.length = len at *
  (refine CallS.of1 Try.func51 rfl Try.ntmps51 Try.results51 rfl ?_)
  (refine Go.run (g:=?_))
  refine Go.loop (α := Nat) (fun k => [(8, .int .i64 k), (3, .int .u32 (beNum (zs.take k) : Nat)), (7, .int .i64 len), (6, .slice a len cap)]) (fun _ => []) (fun _ => h) (fun k => k ≤ len) (fun k => len - k) 0 (Nat.zero_le _) ⟨rfl, rfl, rfl, rfl, trivial⟩ rfl rfl ?_
  rintro k hk
  rcases Nat.lt_or_ge k len with hlt | hge
  · have hcell := byte_at (zs := zs) (k := k) (by omega)
    have hst := beNum_snoc (zs.take k) (zs[k]'(by omega))
    rw [← List.take_succ_eq_append_getElem (by omega)] at hst
    have hr : beNum (zs.take k) < 16777216 := beNum_lt_of (k := 3) (by simp; omega) rfl
    have hcb := (zs[k]'(by omega)).toNat_lt
    generalize beNum (zs.take k) = r at *
    generalize (zs[k]'(by omega)).toNat = c at *
    (refine Go.run (g:=?_))
    refine Go.again (k + 1) hlt (by omega) ⟨rfl, ?_, rfl, rfl, trivial⟩ rfl rfl
    rw [hst, ← or_byte r c hcb]
    rfl
  · obtain rfl : k = len := by omega
    have ht : zs.take k = zs := List.take_of_length_le (by omega)
    rw [ht]
    (refine Go.run (g:=?_))
    (first|refine Go.finT (by first|exact .inr rfl|exact .inl rfl) rfl ?_|refine Go.fin1 (by first|exact .inr rfl|exact .inl rfl) rfl (hq:=?_))
    rfl
theorem refNumber_spec (a : Option Addr) (cap : Nat) (zs : List UInt8) (hl : zs.length ≤ 4) (h : AHeap) (hz : Rv Try.prog h 1 a zs.length cap (zs.map bv)) : CallS Try.prog [] 52 [.slice a zs.length cap] h fun v h' => v = .int .u64 (beNum zs : Nat) := by
  generalize hlen : zs.length = len at *
  (refine CallS.of1 Try.func52 rfl Try.ntmps52 Try.results52 rfl ?_)
  (refine Go.run (g:=?_))
  refine Go.loop (α := Nat) (fun k => [(4, .int .i64 k), (3, .int .u64 (beNum (zs.take k) : Nat)), (0, .slice a len cap)]) (fun _ => []) (fun _ => h) (fun k => k ≤ len) (fun k => len - k) 0 (Nat.zero_le _) ⟨rfl, rfl, rfl, trivial⟩ rfl rfl ?_
  rintro k hk
  rcases Nat.lt_or_ge k len with hlt | hge
  · have hcell := byte_at (zs := zs) (k := k) (by omega)
    have hst := beNum_snoc (zs.take k) (zs[k]'(by omega))
    rw [← List.take_succ_eq_append_getElem (by omega)] at hst
    have hr : beNum (zs.take k) < 16777216 := beNum_lt_of (k := 3) (by simp; omega) rfl
    have hcb := (zs[k]'(by omega)).toNat_lt
    generalize beNum (zs.take k) = r at *
    generalize (zs[k]'(by omega)).toNat = c at *
    (refine Go.run (g:=?_))
    refine Go.again (k + 1) hlt (by omega) ⟨rfl, ?_, rfl, trivial⟩ rfl rfl
    rw [hst, Nat.mul_comm r 256]
    rfl
  · obtain rfl : k = len := by omega
    have ht : zs.take k = zs := List.take_of_length_le (by omega)
    rw [ht]
    (refine Go.run (g:=?_))
    (first|refine Go.finT (by first|exact .inr rfl|exact .inl rfl) rfl ?_|refine Go.fin1 (by first|exact .inr rfl|exact .inl rfl) rfl (hq:=?_))
    rfl
theorem four_spec (x : Nat) (hx : x < 4294967296) (h : AHeap) : CallS Try.prog [] 47 [.int .u32 x] h fun v h' => OwnS h h' v (beB 4 x) := by
  (refine CallS.of1 Try.func47 rfl Try.ntmps47 Try.results47 rfl ?_)
  (refine Go.run (g:=?_))
  refine GoR.buildO (c := (beB 4 x).map bv) rfl rfl rfl rfl rfl (by decide) ?_ (by rfl) ?_
  · rw [beB4]
    simp only [List.map_cons, List.map_nil, bv_ofNat]
    rfl
  intro b h1 hb ob s1 n1
  (refine Go.run (g:=?_))
  (first|refine Go.finT (by first|exact .inr rfl|exact .inl rfl) rfl ?_|refine Go.fin1 (by first|exact .inr rfl|exact .inl rfl) rfl (hq:=?_))
  exact ⟨b, 4, rfl, hb, ob⟩
theorem aEq_nil {P : Program} {h : AHeap} {t e : TypeId} (hu : P.underlying t = some (.slice e)) (a : Option Addr) (len cap : Nat) : aEq P h t (.slice a len cap) (.slice none 0 0) = some (a.isNone, []) := by
  unfold aEq
  rw [hu]
  cases a <;> rfl
theorem bytesU : Try.prog.underlying 23 = some (.slice 5) := by kernel_rfl
theorem Own.app1 {h : AHeap} {a₂ : Option Addr} {b n : Nat} (hb : n ≤ b) {h₁ : AHeap} (hn : n ≤ h₁.n) (k : ∀ i ∈ blk a₂, i ∈ blk (some ⟨b, 0, none⟩) ∨ h₁.n ≤ i) : Own n a₂ := (Own.mk hb).app hn k
theorem clone_spec (a : Option Addr) (cap : Nat) (zs : List UInt8) (hl : zs.length ≤ 1000000000) (h : AHeap) (hz : Rv Try.prog h 1 a zs.length cap (zs.map bv)) : CallS Try.prog [] 45 [.slice a zs.length cap] h fun v h' => OwnS h h' v zs := by
  have hone : (zs.map bv).all Value.oneCell' = true := by simp [bv, Value.oneCell']
  generalize hlen : zs.length = len at *
  cases a with
  | none =>
    obtain ⟨rfl, rfl⟩ : len = 0 ∧ cap = 0 := by
      generalize zs.map bv = cs at hz
      cases hz
      exact ⟨rfl, rfl⟩
    obtain rfl : zs = [] := List.eq_nil_of_length_eq_zero hlen
    (refine CallS.of1 Try.func45 rfl Try.ntmps45 Try.results45 rfl ?_)
    (refine Go.run (g:=?_))
    refine GoR.eqRef rfl rfl rfl rfl (.inl rfl) rfl rfl (aEq_nil bytesU _ _ _) ?_
    (refine Go.run (g:=?_))
    (first|refine Go.finT (by first|exact .inr rfl|exact .inl rfl) rfl ?_|refine Go.fin1 (by first|exact .inr rfl|exact .inl rfl) rfl (hq:=?_))
    exact ⟨none, 0, rfl, .nil, Own.nil _⟩
  | some a =>
    (refine CallS.of1 Try.func45 rfl Try.ntmps45 Try.results45 rfl ?_)
    (refine Go.run (g:=?_))
    refine GoR.eqRef rfl rfl rfl rfl (.inl rfl) rfl rfl (aEq_nil bytesU _ _ _) ?_
    (refine Go.run (g:=?_))
    refine GoR.buildO (c := []) rfl rfl rfl rfl rfl (by decide) (by rfl) (by rfl) ?_
    intro b h1 hb ob s1 n1
    (refine Go.run (g:=?_))
    refine GoR.appendV rfl rfl rfl rfl rfl rfl hb (hz.same s1) (Own.ok ob (by omega)) (by omega) (by omega) hone ?_
    intro b2 c2 h2 hb2 k2 o2
    (refine Go.run (g:=?_))
    (first|refine Go.finT (by first|exact .inr rfl|exact .inl rfl) rfl ?_|refine Go.fin1 (by first|exact .inr rfl|exact .inl rfl) rfl (hq:=?_))
    subst hlen
    rw [Nat.zero_add] at hb2 ⊢
    exact ⟨b2, c2, rfl, hb2, ob.app (by omega) o2⟩
/-- A slice of bytes of the call's own, with room. -/
def OwnC (h h' : AHeap) (v : Value) (n : Nat) : Prop := ∃ b cap, v = .slice b 0 cap ∧ Sv h' 5 1 b 0 cap [] ∧ Own h.n b
theorem intU : Try.prog.underlying 3 = some (.int .i64) := by kernel_rfl
theorem aAppend_zeros {P : Program} {h : AHeap} {t t₂ e : TypeId} {bytes sz by2 : Nat} {z : Value} [hM : MK P t e bytes z] [hA : AP P t t e sz by2] {kd : IntKind} (hu2 : P.underlying t₂ = some (.int kd)) {n : Nat} (h0 : 0 < n) (h1 : n ≤ 1000000000) (h2 : n * bytes ≤ 140737488355328) : aAppend P h t t₂ (.slice none 0 0) (.int kd n) = some (.slice (some ⟨h.n, 0, none⟩) n n, h.push (.cells (List.replicate n z) e), [], []) := by
  obtain ⟨inf, hi, hs, rfl⟩ := hM.i
  obtain ⟨inf', z', hi', _, _, hz, hsz, hzf, hzl⟩ := hA.i
  rw [hi] at hi'
  cases hi'
  have hzl' : z.cells.toList = [z] := by rw [cellsL_eq]; exact hM.f.2
  have hzer : aZeros P e inf.size n = some (List.replicate n z) := by
    unfold aZeros
    rw [if_neg (by rw [hs]; omega)]
    simp only [hM.hz]
    rw [if_pos ⟨hM.f.1, by rw [hzl', hs]; rfl⟩, hzl', zeros_one]
  simp only [aAppend, hM.u, hi, hz]
  rw [if_pos ⟨by omega, hzf, by omega⟩]
  have hnew : aNew P h e inf t₂ (.int kd n) = some (n, List.replicate n z, []) := by
    simp only [aNew, hu2]
    rw [if_pos ⟨by omega, by omega, by have : (n : Int) * inf.bytes = ((n * inf.bytes : Nat) : Int) := (by simp); omega⟩, Int.toNat_natCast, hzer]
    rfl
  simp only [hnew, aGrow]
  rw [if_neg (by omega), if_pos ⟨by omega, h2⟩]
theorem grow_spec (n : Nat) (hn : n ≤ 1000000000) (h : AHeap) : CallS Try.prog [] 68 [.slice none 0 0, .int .i64 n] h fun v h' => OwnC h h' v n := by
  rcases Nat.eq_zero_or_pos n with h0 | h0
  · subst h0
    (refine CallS.of2 Try.func68 rfl Try.ntmps68 Try.results68 rfl ?_)
    (refine Go.run (g:=?_))
    (first|refine Go.finT (by first|exact .inr rfl|exact .inl rfl) rfl ?_|refine Go.fin1 (by first|exact .inr rfl|exact .inl rfl) rfl (hq:=?_))
    exact ⟨none, 0, rfl, .nil, Own.nil _⟩
  · (refine CallS.of2 Try.func68 rfl Try.ntmps68 Try.results68 rfl ?_)
    (refine Go.run (g:=?_))
    simp only [Nat.sub_zero]
    refine GoR.sliceV (lo' := none) (hi' := some (.int .i64 (0 : Nat))) (l := 0) (r := 0) rfl rfl rfl rfl rfl rfl rfl Rv.nil rfl rfl (by omega) (by omega) ?_
    (refine Go.run (g:=?_))
    refine GoR.append rfl rfl rfl rfl rfl rfl (aAppend_zeros intU (by omega) (by omega) (by omega)) (fun i hi => by cases hi) ?_
    have hb := Sv.new h (List.replicate n (Value.int .u8 0)) 5 (sz := 1) (len := n) (by simp)
    (refine Go.run (g:=?_))
    refine GoR.sliceV (lo' := none) (hi' := some (.int .i64 (0 : Nat))) (l := 0) (r := 0) rfl rfl rfl rfl rfl rfl rfl (Sv.rv hb) rfl rfl (by omega) (by omega) ?_
    (refine Go.run (g:=?_))
    (first|refine Go.finT (by first|exact .inr rfl|exact .inl rfl) rfl ?_|refine Go.fin1 (by first|exact .inr rfl|exact .inl rfl) rfl (hq:=?_))
    exact ⟨some ⟨h.n, 0, none⟩, n, rfl, hb.sub (l := 0) (r := 0) (by omega) (by omega), Own.mk (Nat.le_refl _)⟩
/-- Slices of bytes that read so. -/
def SlAll (P : Program) (h : AHeap) (vs : List Value) (ls : List (List UInt8)) : Prop := vs.length = ls.length ∧ ∀ (i : Nat) (zs : List UInt8), ls[i]? = some zs → ∃ a cap, vs[i]? = some (Value.slice a zs.length cap) ∧ Rv P h 1 a zs.length cap (zs.map bv)
theorem flat_take {ls : List (List UInt8)} {k : Nat} {zs : List UInt8} (e : ls[k]? = some zs) : (ls.take (k + 1)).flatten = (ls.take k).flatten ++ zs := by
  rw [List.take_add_one, e]
  simp
theorem flat_le (ls : List (List UInt8)) (k : Nat) : (ls.take k).flatten.length ≤ ls.flatten.length := by
  have e : ls.flatten = (ls.take k).flatten ++ (ls.drop k).flatten := by rw [← List.flatten_append, List.take_append_drop]
  rw [e, List.length_append]
  omega
set_option maxHeartbeats 4000000 in
theorem concat_spec (a : Option Addr) (cap : Nat) (vs : List Value) (ls : List (List UInt8)) (hsm : vs.length ≤ 1000) (htot : ls.flatten.length ≤ 1000000) (h : AHeap) (hA : SlAll Try.prog h vs ls) (hv : Rv Try.prog h 1 a vs.length cap vs) : CallS Try.prog [] 46 [.slice a vs.length cap] h fun v h' => OwnS h h' v ls.flatten := by
  have hone : ∀ l : List UInt8, (l.map bv).all Value.oneCell' = true := fun l => by simp [bv, Value.oneCell']
  obtain ⟨hll, hA⟩ := hA
  generalize hlen : vs.length = len at *
  (refine CallS.of1 Try.func46 rfl Try.ntmps46 Try.results46 rfl ?_)
  (refine Go.run (g:=?_))
  refine Go.loop (α := Nat) (fun k => [(11, .int .i64 k), (3, .int .i64 ((ls.take k).flatten.length : Nat)), (10, .int .i64 len), (9, .slice a len cap), (0, .slice a len cap)]) (fun _ => []) (fun _ => h) (fun k => k ≤ len) (fun k => len - k) 0 (Nat.zero_le _) ⟨rfl, rfl, rfl, rfl, rfl, trivial⟩ rfl rfl ?_
  rintro k hk
  rcases Nat.lt_or_ge k len with hlt | hge
  · obtain ⟨zs, hzs⟩ : ∃ zs, ls[k]? = some zs := ⟨_, List.getElem?_eq_getElem (by omega)⟩
    obtain ⟨a1, c1, hcell, hz⟩ := hA k zs hzs
    have hst := congrArg List.length (flat_take hzs)
    rw [List.length_append] at hst
    have hle := flat_le ls (k + 1)
    generalize (ls.take k).flatten.length = r at *
    (refine Go.run (g:=?_))
    refine Go.again (k + 1) hlt (by omega) ⟨rfl, ?_, rfl, rfl, rfl, trivial⟩ rfl rfl
    rw [hst]
    rfl
  · obtain rfl : k = len := by omega
    have ht : ls.take k = ls := List.take_of_length_le (by omega)
    rw [ht]
    (refine Go.run (g:=?_))
    refine GoR.call rfl rfl rfl rfl rfl rfl rfl (((grow_spec ls.flatten.length (by omega) _).args (by first | rfl | (simp; fail_if_success focus skip) | (simp; omega) | (congr 2; omega))).mono ?_)
    rintro _ h1 ⟨b, c1, rfl, hb, ob⟩ s1
    (refine Go.run (g:=?_))
    refine Go.loop (α := Nat × Option Addr × Nat × AHeap) (fun x => [(27, .int .i64 x.1), (6, .slice x.2.1 (ls.take x.1).flatten.length x.2.2.1), (26, .int .i64 k), (25, .slice a k cap)]) (fun _ => []) (fun x => x.2.2.2)
      (fun x => x.1 ≤ k ∧ Same h x.2.2.2 ∧ Own h.n x.2.1 ∧ Sv x.2.2.2 5 1 x.2.1 (ls.take x.1).flatten.length x.2.2.1 ((ls.take x.1).flatten.map bv)) (fun x => k - x.1) (0, b, c1, h1) ?_ ?_ rfl rfl ?_
    · exact ⟨Nat.zero_le _, s1, ob, hb⟩
    · exact ⟨rfl, rfl, rfl, rfl, trivial⟩
    · clear hb ob s1
      rintro ⟨j, b, c2, h2⟩ ⟨hj, s2, ob, hb⟩
      simp only at hj s2 ob hb ⊢
      rcases Nat.lt_or_ge j k with hlt | hge2
      · obtain ⟨zs, hzs⟩ : ∃ zs, ls[j]? = some zs := ⟨_, List.getElem?_eq_getElem (by omega)⟩
        obtain ⟨a1, c1, hcell, hz⟩ := hA j zs hzs
        have hst := flat_take hzs
        have hle := flat_le ls (j + 1)
        have hv2 := hv.same s2
        have hz2 := hz.same s2
        rw [hst, List.length_append] at hle
        (refine Go.run (g:=?_))
        refine GoR.appendV rfl rfl rfl rfl rfl rfl hb hz2 (Own.ok ob (by omega)) (by omega) (by omega) (hone _) ?_
        intro b3 c3 h3 hb3 k3 o3
        (refine Go.run (g:=?_))
        refine Go.again (j + 1, b3, c3, h3) ⟨hlt, s2.ownO k3 ob (by omega), ob.app s2.1 o3, ?_⟩ (by simp only; omega) ⟨rfl, ?_, rfl, rfl, trivial⟩ rfl rfl
        · simp only [hst, List.length_append, List.map_append]
          exact hb3
        · simp only [hst, List.length_append]
          rfl
      · obtain rfl : j = k := by omega
        rw [ht] at hb ⊢
        (refine Go.run (g:=?_))
        (first|refine Go.finT (by first|exact .inr rfl|exact .inl rfl) rfl ?_|refine Go.fin1 (by first|exact .inr rfl|exact .inl rfl) rfl (hq:=?_))
        exact ⟨b, c2, rfl, hb, ob⟩
end Go.Proofs.Ytmelgnpogdilgaa

/- head and its definition: contracts on the abstract heap (2). No conditions. -/
namespace Go.Proofs.Ytmelgnpogdilgaa
set_option linter.unusedVariables false
set_option maxRecDepth 100000
attribute [local irreducible] Go GoR GoL
theorem crcSum_n (a : Option Addr) (cap : Nat) (zs : List UInt8) (n : Nat) (hn : zs.length = n) (hl : n ≤ 1000000000) (h : AHeap) (hz : Rv Try.prog h 1 a n cap (zs.map bv)) : CallS Try.prog [] 70 [.slice a n cap] h fun v h' => v = .int .u32 (Crc.sum zs : Nat) := by
  subst hn
  exact crcSum_spec a cap zs hl h hz
theorem refSum_n (a : Option Addr) (cap : Nat) (zs : List UInt8) (n : Nat) (hn : zs.length = n) (hl : n ≤ 1000000000) (h : AHeap) (hz : Rv Try.prog h 1 a n cap (zs.map bv)) : CallS Try.prog [] 50 [.slice a n cap] h fun v h' => v = .int .u32 (Crc.sum zs : Nat) := by
  subst hn
  exact refSum_spec a cap zs hl h hz
theorem crcMore_n (s : Nat) (hs : s < 4294967296) (a : Option Addr) (cap : Nat) (zs : List UInt8) (n : Nat) (hn : zs.length = n) (hl : n ≤ 1000000000) (h : AHeap) (hz : Rv Try.prog h 1 a n cap (zs.map bv)) : CallS Try.prog [] 69 [.int .u32 s, .slice a n cap] h fun v h' => v = .int .u32 (Crc.more s zs : Nat) := by
  subst hn
  exact crcMore_spec s hs a cap zs hl h hz
theorem number_n (a : Option Addr) (cap : Nat) (zs : List UInt8) (n : Nat) (hn : zs.length = n) (hl : n ≤ 4) (h : AHeap) (hz : Rv Try.prog h 1 a n cap (zs.map bv)) : CallS Try.prog [] 51 [.slice a n cap] h fun v h' => v = .int .u32 (beNum zs : Nat) := by
  subst hn
  exact number_spec a cap zs hl h hz
theorem refNumber_n (a : Option Addr) (cap : Nat) (zs : List UInt8) (n : Nat) (hn : zs.length = n) (hl : n ≤ 4) (h : AHeap) (hz : Rv Try.prog h 1 a n cap (zs.map bv)) : CallS Try.prog [] 52 [.slice a n cap] h fun v h' => v = .int .u64 (beNum zs : Nat) := by
  subst hn
  exact refNumber_spec a cap zs hl h hz
theorem clone_n (a : Option Addr) (cap : Nat) (zs : List UInt8) (n : Nat) (hn : zs.length = n) (hl : n ≤ 1000000000) (h : AHeap) (hz : Rv Try.prog h 1 a n cap (zs.map bv)) : CallS Try.prog [] 45 [.slice a n cap] h fun v h' => OwnS h h' v zs := by
  subst hn
  exact clone_spec a cap zs hl h hz
theorem zeros4 : (List.replicate 4 (Value.int .u8 0)) = (([0, 0, 0, 0] : List UInt8).map bv) := rfl
set_option maxHeartbeats 4000000 in
theorem sum_spec (a : Option Addr) (cap : Nat) (zs : List UInt8) (h12 : 12 ≤ zs.length) (hl : zs.length ≤ 1000000) (h : AHeap) (hz : Rv Try.prog h 1 a zs.length cap (zs.map bv)) : CallS Try.prog [] 48 [.slice a zs.length cap] h fun v h' => v = .int .u32 (headSum zs : Nat) := by
  generalize hlen : zs.length = len at *
  (refine CallS.of1 Try.func48 rfl Try.ntmps48 Try.results48 rfl ?_)
  (refine Go.run (g:=?_))
  refine GoR.bHi (r := 8) rfl rfl rfl rfl rfl rfl hz (by omega) ?_
  intro a1 hz1 _
  (refine Go.run (g:=?_))
  refine GoR.call rfl rfl rfl rfl rfl rfl rfl (((crcSum_n a1 cap (zs.take 8) 8 (by simp; omega) (by omega) _ hz1).args (by first | rfl | (simp; fail_if_success focus skip) | (simp; omega) | (congr 2; omega))).mono ?_)
  rintro _ h1 rfl s1
  (refine Go.run (g:=?_))
  refine GoR.makeO (l := 4) (c := 4) rfl rfl rfl rfl rfl rfl rfl (by decide) (by decide) ?_
  intro b h2 hb ob s2 n2
  (refine Go.run (g:=?_))
  refine GoR.call rfl rfl rfl rfl rfl rfl rfl (((crcMore_n (Crc.sum (zs.take 8)) (Crc.more_lt _ _) b 4 [0, 0, 0, 0] 4 rfl (by omega) _ (Sv.rv hb)).args (by first | rfl | (simp; fail_if_success focus skip) | (simp; omega) | (congr 2; omega))).mono ?_)
  rintro _ h3 rfl s3
  (refine Go.run (g:=?_))
  have hz3 := ((hz.same s1).same s2).same s3
  refine GoR.bLo (l := 12) rfl rfl rfl rfl rfl rfl hz3 (by omega) ?_
  intro a4 hz4 _
  (refine Go.run (g:=?_))
  have e4 : ((zs.drop 12).take (len - 12)) = zs.drop 12 := List.take_of_length_le (by simp; omega)
  rw [e4] at hz4
  refine GoR.call rfl rfl rfl rfl rfl rfl rfl (((crcMore_n (Crc.more (Crc.sum (zs.take 8)) [0, 0, 0, 0]) (Crc.more_lt _ _) a4 (cap - 12) (zs.drop 12) (len - 12) (by simp; omega) (by omega) _ hz4).args (by first | rfl | (simp; fail_if_success focus skip) | (simp; omega) | (congr 2; omega))).mono ?_)
  rintro _ h5 rfl s5
  (refine Go.run (g:=?_))
  (first|refine Go.finT (by first|exact .inr rfl|exact .inl rfl) rfl ?_|refine Go.fin1 (by first|exact .inr rfl|exact .inl rfl) rfl (hq:=?_))
  rw [← headSum_eq]
  rfl
theorem GoL.callS {P : Program} {W : Nat → Prop} {q : Bool} {N : Nat} {k : List It} {ov : Ov} {df : List Nat} {h : AHeap} {Q : PQ} {ops : Array Oper} {os : List Oper} {o : Oper} {d : Nat} {tr : List (Option LE)} {f : Operand} {xs : Array Operand} {ts : Array TypeId} {g : FuncId} {first cap : Array Value} {us : List Value} (ho : o.op = .call ⟨.value f, xs, ts⟩) (hd : o.dst = some d) (hN : dOk d N = true) (hgd : o.guard = none) (hf : evO ov f = some (.func (.func g) first cap)) (hx : evOs ov xs.toList = some us) (hc : calls P g = true)
    (hk : CallS P [] g (first.toList ++ us ++ cap.toList) h fun v h' => Same h h' → GoL P W q N ops (tr ++ [some ⟨h.n, h'.n, [], [], true, false⟩]) os k ((d, v) :: ov) df h' Q) : GoL P W q N ops tr (o :: os) k ov df h Q :=
  GoL.call (wr := []) ho hd hN hgd hf hx hc (hk.mono fun v h' g kp => ⟨fun i hi => absurd hi List.not_mem_nil, g ⟨kp.1, fun i hi => kp.2 i hi List.not_mem_nil⟩⟩)
/-- A header, by value. -/
abbrev hdV (f t g : Nat) : Value := .agg #[.int .u16 f, .int .u16 t, .int .u32 g]
theorem headPut_err1 (f t g : Nat) (a : Option Addr) (n cap : Nat) (hb : n % 4 ≠ 0) (h : AHeap) : CallS Try.prog [] 24 [hdV f t g, .slice a n cap] h fun v h' => v = .tuple #[.slice none 0 0, .int .i64 32] := by
  (refine CallS.of2 Try.func24 rfl Try.ntmps24 Try.results24 rfl ?_)
  (refine Go.run (g:=?_))
  (first|refine Go.finT (by first|exact .inr rfl|exact .inl rfl) rfl ?_|refine Go.fin1 (by first|exact .inr rfl|exact .inl rfl) rfl (hq:=?_))
  rfl
theorem headPut_err2 (f t g : Nat) (a : Option Addr) (n cap : Nat) (hb : n % 4 = 0) (hn : 1488 < n) (h : AHeap) : CallS Try.prog [] 24 [hdV f t g, .slice a n cap] h fun v h' => v = .tuple #[.slice none 0 0, .int .i64 3] := by
  (refine CallS.of2 Try.func24 rfl Try.ntmps24 Try.results24 rfl ?_)
  (refine Go.run (g:=?_))
  (first|refine Go.finT (by first|exact .inr rfl|exact .inl rfl) rfl ?_|refine Go.fin1 (by first|exact .inr rfl|exact .inl rfl) rfl (hq:=?_))
  rfl
theorem hbytes_take (f t g s : Nat) (v : List UInt8) : (hbytes f t g s v).take 8 = beB 2 f ++ beB 2 t ++ beB 4 g := by
  unfold hbytes
  rw [List.append_assoc (beB 2 f ++ beB 2 t ++ beB 4 g), List.take_append_of_le_length (by simp [beB_length]), List.take_of_length_le (by simp [beB_length])]
theorem hbytes_drop (f t g s : Nat) (v : List UInt8) : (hbytes f t g s v).drop 12 = v := by
  unfold hbytes
  rw [List.drop_append]
  simp [beB_length]
theorem headSum_hbytes (f t g s : Nat) (v : List UInt8) : headSum (hbytes f t g s v) = Crc.sum (hbytes f t g 0 v) := by
  unfold headSum
  rw [hbytes_take, hbytes_drop]
  rfl
theorem hbytes_set (f t g s : Nat) (v : List UInt8) : setL ((hbytes f t g 0 v).map bv) (8 * 1) (((beB 4 s).map bv).take (min 4 (12 - 8))) = (hbytes f t g s v).map bv := by
  unfold hbytes
  rw [List.append_assoc (beB 2 f ++ beB 2 t ++ beB 4 g), List.map_append, setL_tail _ _ _ (by simp [beB_length]), List.take_of_length_le (by simp [beB_length]), List.map_append (l₁ := beB 4 0), List.drop_append_of_le_length (by simp [beB_length]), List.drop_of_length_le (by simp [beB_length])]
  simp
set_option maxHeartbeats 4000000 in
theorem headPut_ok (f t g : Nat) (hf : f < 65536) (ht : t < 65536) (hg : g < 4294967296) (a : Option Addr) (n cap : Nat) (zs : List UInt8) (hlen : zs.length = n) (hb : n % 4 = 0) (hn : n ≤ 1488) (h : AHeap) (hz : Rv Try.prog h 1 a n cap (zs.map bv)) : CallS Try.prog [] 24 [hdV f t g, .slice a n cap] h fun v h' => OwnE h h' v (hput f t g zs) := by
  have e := or_of_lt (a := f) (n := 16) ht
  (refine CallS.of2 Try.func24 rfl Try.ntmps24 Try.results24 rfl ?_)
  (refine Go.run (g:=?_))
  rw [e]
  refine GoR.call rfl rfl rfl rfl rfl rfl rfl (((four_spec (f * 2 ^ 16 + t) (by omega) _).args (by first | rfl | (simp; fail_if_success focus skip) | (simp; omega) | (congr 2; omega))).mono ?_)
  rintro _ h1 ⟨b1, c1, rfl, hb1, ob1⟩ s1
  simp only [beB_length] at hb1 ⊢
  (refine Go.run (g:=?_))
  refine GoR.call rfl rfl rfl rfl rfl rfl rfl (((four_spec g hg _).args (by first | rfl | (simp; fail_if_success focus skip) | (simp; omega) | (congr 2; omega))).mono ?_)
  rintro _ h2 ⟨b2, c2, rfl, hb2, ob2⟩ s2
  simp only [beB_length] at hb2 ⊢
  (refine Go.run (g:=?_))
  refine GoR.makeO (l := 4) (c := 4) rfl rfl rfl rfl rfl rfl rfl (by decide) (by decide) ?_
  intro b3 h3 hb3 ob3 s3 n3
  (refine Go.run (g:=?_))
  refine GoR.buildO (c := [.slice b1 4 c1, .slice b2 4 c2, .slice b3 4 4, .slice a n cap]) rfl rfl rfl rfl rfl (by decide) (by rfl) (by rfl) ?_
  intro b4 h4 hb4 ob4 s4 n4
  have S4 : True → Same h h4 := fun _ => (((((Same.refl h).push _).trans s1).trans s2).trans s3).trans s4
  have hA : SlAll Try.prog h4 [.slice b1 4 c1, .slice b2 4 c2, .slice b3 4 4, .slice a n cap] [beB 4 (f * 2 ^ 16 + t), beB 4 g, [0, 0, 0, 0], zs] := by
    refine ⟨rfl, fun i l hi => ?_⟩
    match i, hi with
    | 0, hi => cases hi; exact ⟨b1, c1, rfl, (((hb1.same s2).same s3).same s4).rv⟩
    | 1, hi => cases hi; exact ⟨b2, c2, rfl, ((hb2.same s3).same s4).rv⟩
    | 2, hi => cases hi; exact ⟨b3, 4, rfl, (hb3.same s4).rv⟩
    | 3, hi => cases hi; exact ⟨a, cap, by rw [hlen]; rfl, by rw [hlen]; exact hz.same (S4 trivial)⟩
  have hfl : [beB 4 (f * 2 ^ 16 + t), beB 4 g, [0, 0, 0, 0], zs].flatten = hbytes f t g 0 zs := by
    have e0 : beB 4 0 = [0, 0, 0, 0] := rfl
    have e1 := beB4_split f t ht
    rw [show f * 2 ^ 16 = f * 65536 from rfl, e1]
    simp [hbytes, e0]
  refine GoR.call rfl rfl rfl rfl rfl rfl rfl (((concat_spec b4 4 [.slice b1 4 c1, .slice b2 4 c2, .slice b3 4 4, .slice a n cap] _ (show 4 ≤ 1000 by decide) (by rw [hfl, hbytes_length]; omega) _ hA (Sv.rv hb4)).args (by first | rfl | (simp; fail_if_success focus skip) | (simp; omega) | (congr 2; omega))).mono ?_)
  rintro _ h5 ⟨b6, c6, rfl, hb6, ob6⟩ s5
  rw [hfl, hbytes_length, hlen] at hb6 ⊢
  clear hA hb1 hb2 hb3 hb4 ob1 ob2 ob3 ob4
  have S5 : True → Same h h5 := fun _ => (S4 trivial).trans s5
  have hn4 := (S4 trivial).1
  have hn5 := s5.1
  clear s1 s2 s3 s4 s5 S4 n3 n4
  (refine Go.run (g:=?_))
  refine Go.loud (by kernel_rfl) rfl ?_
  (refine Go.runL (g:=?_))
  refine GoL.sliceV (lo' := some (.int .i64 8)) (hi' := some (.int .i64 12)) (l := 8) (r := 12) rfl rfl rfl rfl rfl rfl rfl (Sv.rv hb6) rfl rfl (by omega) (by have := hb6.le; omega) ?_
  (refine Go.runL (g:=?_))
  have hbl := hbytes_length f t g 0 zs
  have hsum := sum_spec b6 c6 (hbytes f t g 0 zs) (by omega) (by omega) h5 (by rw [hbl, hlen]; exact Sv.rv hb6)
  rw [hbl, hlen] at hsum
  refine GoL.callS rfl rfl rfl rfl rfl rfl rfl (((hsum).args (by first | rfl | (simp; fail_if_success focus skip) | (simp; omega) | (congr 2; omega))).mono ?_)
  rintro _ h7 rfl s7
  (refine Go.runL (g:=?_))
  rw [headSum_hbytes]
  have hsl : Crc.sum (hbytes f t g 0 zs) < 4294967296 := Crc.more_lt _ _
  refine GoL.callS rfl rfl rfl rfl rfl rfl rfl (((four_spec (Crc.sum (hbytes f t g 0 zs)) hsl _).args (by first | rfl | (simp; fail_if_success focus skip) | (simp; omega) | (congr 2; omega))).mono ?_)
  rintro _ h8 ⟨b8, c8, rfl, hb8, ob8⟩ s8
  simp only [beB_length] at hb8 ⊢
  (refine Go.runL (g:=?_))
  have hb6' := (hb6.same s7).same s8
  have hn7 := s7.1
  have hn8 := s8.1
  refine GoL.copySub (kk := 8 * 1) (len' := 12 - 8) (cap₂ := c6 - 8) rfl rfl rfl rfl rfl rfl hb6' (by omega) (Sv.rv hb8) (Own.ok ob6 (by omega)) (by simp [bv, Value.oneCell']) ?_
  intro h9 rd wr hwr hrd hb9 k9 n9
  clear hb6 hsum
  (refine GoL.end_ (g:=?_))
  (refine Go.run (g:=?_))
  (first|refine Go.finT (by first|exact .inr rfl|exact .inl rfl) rfl ?_|refine Go.fin1 (by first|exact .inr rfl|exact .inl rfl) rfl (hq:=?_))
  have hL : (hput f t g zs).length = 12 + n := by rw [hput, hbytes_length, hlen]
  refine ⟨b6, c6, by rw [hL]; rfl, ?_, ob6.mono (by omega)⟩
  rw [hL]
  rw [hbytes_set] at hb9
  exact hb9
end Go.Proofs.Ytmelgnpogdilgaa

/- lanyardref05.value: its contract on the abstract heap. No conditions. -/
namespace Go.Proofs.Ytmelgnpogdilgaa
set_option linter.unusedVariables false
set_option maxRecDepth 100000
attribute [local irreducible] Go GoR GoL
theorem allShort_take {l : List CV} {i : Nat} (h : allShort (l.take i) = false) : allShort l = false := by
  have e := List.take_append_drop i l
  rw [← e]
  unfold allShort at h ⊢
  rw [List.all_append, h, Bool.false_and]
set_option maxHeartbeats 8000000 in
theorem rvalue_spec (c : Ck) (d : CD) (h : AHeap) (ok : COk h c d) (hmf : MayF c) (hD : c.D.n ≤ 1000000000) (hC : c.C.n ≤ 1000000) : CallS Try.prog [] 56 [c.v] h fun v h' => ∃ b cap x e, v = .tuple #[.slice b x.length cap, .int .i64 (e : Nat)] ∧ Sv h' 5 1 b x.length cap (x.map bv) ∧ Own h.n b ∧ ((e = 0 ∧ cval c d = some x) ∨ (e = 3 ∧ cval c d = none)) ∧ x.length ≤ 140737488355328 := by
  obtain ⟨-, mA, mG, mU, -⟩ := hmf
  have tsn := ok.tsn
  have tag := ok.tag
  have rwnd := ok.rwnd
  have ppid := ok.ppid
  have hout := ok.out
  have hinn := ok.inn
  have hsid := ok.sid
  have hssn := ok.ssn
  unfold Ck.v
  (refine CallS.of1 Try.func56 rfl Try.ntmps56 Try.results56 rfl ?_)
  (iterate 5 (first|refine GoR.end ?_|(refine GoR.gd rfl ?_;first|refine GoR.wanted' rfl rfl rfl rfl (g:=?_)|refine GoR.unwanted' rfl rfl rfl rfl (hd:=rfl) (hN:=rfl) (g:=?_)|refine GoR.unwantedU rfl rfl rfl rfl rfl rfl ?_)|(refine GoR.kk 0 rfl ?_;first|refine GoR.move rfl rfl rfl rfl rfl ?_|refine GoR.assign rfl rfl rfl rfl rfl ?_)|(refine GoR.kk 1 rfl ?_;first|refine GoR.load' rfl rfl rfl rfl rfl (g:=?_)|refine GoR.loadA' rfl rfl rfl rfl rfl (hv:=rfl) (g:=?_)|refine GoR.loadV' rfl rfl rfl rfl rfl (g:=?_)|refine GoR.loadVN' rfl rfl rfl rfl rfl (g:=?_))|(refine GoR.kk 2 rfl ?_;first|refine GoR.store' rfl rfl rfl rfl rfl (hl:=rfl) (h1:=rfl) (h3:=rfl) (g:=?_))|(refine GoR.kk 3 rfl ?_;first|refine GoR.fieldAddr rfl rfl rfl rfl rfl ?_|refine GoR.indexN' rfl rfl rfl rfl rfl rfl (g:=?_)|refine GoR.indexNs' rfl rfl rfl rfl rfl rfl (g:=?_)|refine GoR.indexV' rfl rfl rfl rfl rfl rfl (g:=?_)|refine GoR.indexA' rfl rfl rfl rfl rfl rfl (g:=?_)|refine GoR.fieldV' rfl rfl rfl rfl rfl (g:=?_))|(refine GoR.kk 4 rfl ?_;first|refine GoR.eq rfl rfl rfl rfl rfl rfl ?_|refine GoR.ne rfl rfl rfl rfl rfl rfl ?_|refine GoR.lt rfl rfl rfl rfl rfl rfl ?_|refine GoR.le rfl rfl rfl rfl rfl rfl ?_|refine GoR.gt rfl rfl rfl rfl rfl rfl ?_|refine GoR.ge rfl rfl rfl rfl rfl rfl ?_|refine GoR.addN' rfl rfl rfl rfl rfl rfl (g:=?_)|refine GoR.subN' rfl rfl rfl rfl rfl rfl (g:=?_)|refine GoR.add' rfl rfl rfl rfl rfl rfl (g:=?_)|refine GoR.sub' rfl rfl rfl rfl rfl rfl (g:=?_)|refine GoR.addM' rfl rfl rfl rfl rfl rfl (g:=?_)|refine GoR.subM' rfl rfl rfl rfl rfl rfl (g:=?_)|refine GoR.mulM' rfl rfl rfl rfl rfl rfl (g:=?_)|refine GoR.shrN rfl rfl rfl rfl rfl rfl rfl ?_|refine GoR.structEq rfl rfl rfl rfl rfl rfl (by rfl) (by rfl) ?_|refine GoR.structNe rfl rfl rfl rfl rfl rfl (by rfl) (by rfl) ?_|refine GoR.strEq rfl rfl rfl rfl rfl rfl ?_|refine GoR.strNe rfl rfl rfl rfl rfl rfl ?_|refine GoR.remN' rfl rfl rfl rfl rfl rfl (g:=?_)|refine GoR.quoN' rfl rfl rfl rfl rfl rfl (g:=?_)|refine GoR.shlN' rfl rfl rfl rfl rfl rfl rfl (g:=?_)|refine GoR.orN' rfl rfl rfl rfl rfl rfl (g:=?_))|(refine GoR.kk 5 rfl ?_;first|refine GoR.len rfl rfl rfl rfl rfl ?_|refine GoR.lenStr rfl rfl rfl rfl rfl ?_|refine GoR.capB rfl rfl rfl rfl rfl ?_)|(refine GoR.kk 7 rfl ?_;first|refine GoR.pickE' rfl rfl rfl rfl rfl (hx:=rfl) (hy:=rfl) (g:=?_)|refine GoR.pickN' rfl rfl rfl rfl rfl (hx:=rfl) (hy:=rfl) (g:=?_)|refine GoR.pickB rfl rfl rfl rfl rfl rfl rfl ?_)|(refine GoR.kk 8 rfl ?_;first|refine GoR.boxA rfl rfl rfl rfl rfl ?_|refine GoR.boxS rfl rfl rfl rfl rfl rfl ?_|refine GoR.alloc rfl rfl rfl rfl ?_)|(refine GoR.kk 9 rfl ?_;first|refine GoR.strV' rfl rfl rfl rfl rfl (g:=?_)|refine GoR.conv_u8 rfl rfl rfl rfl rfl ?_|refine GoR.convW' rfl rfl rfl rfl rfl (g:=?_)|refine GoR.conv_u16 rfl rfl rfl rfl rfl ?_|refine GoR.conv_u32 rfl rfl rfl rfl rfl ?_)|(refine GoR.kk 10 rfl ?_;first|refine GoR.build' rfl rfl rfl rfl rfl rfl (g:=?_))|(refine GoR.kk 11 rfl ?_;first|refine GoR.extract rfl rfl rfl rfl rfl rfl ?_|refine GoR.not rfl rfl rfl rfl rfl ?_|refine GoR.nilCheck rfl rfl rfl rfl rfl ?_|refine GoR.nilCheckF rfl rfl rfl rfl rfl ?_|refine GoR.makeFunc rfl rfl rfl rfl rfl rfl ?_)|(refine Go.kk 0 rfl ?_;refine Go.seq ?_)|(refine Go.kk 1 rfl ?_;refine Go.region (by kernel_rfl) rfl ?_)|(refine Go.kk 2 rfl ?_;refine Go.drawnQ rfl (by kernel_rfl) rfl ?_)|(refine Go.kk 3 rfl ?_;first|refine Go.cond_t' rfl (g:=?_)|refine Go.cond_f' rfl (g:=?_))|(refine Go.kk 4 rfl ?_;refine Go.block ?_)|(refine Go.kk 5 rfl ?_;first|refine Go.skip ?_|refine Go.ret ?_|refine Go.exit ?_|refine Go.scope ?_)|refine Go.leave_normal ?_|refine Go.leave_same ?_|refine Go.leave_ret ?_|refine Go.ret_code ?_|refine Go.exit_code ?_|refine Go.leave_other rfl ?_|refine Go.sc_normal ?_|refine Go.sc_ret ?_|refine Go.sc_exit ?_|refine Go.exit_back ?_|refine Go.ret_back ?_))
  refine GoR.name ?_
  intro h3 e3
  have G3 : h3.get h.n = some (.cells c.cs 57) := by
    subst e3
    exact AHeap.get_push_same h _
  have n3 : h3.n = h.n + 1 := by subst e3; rfl
  have S3 : Same h h3 := by subst e3; exact (Same.refl h).push _
  clear e3
  unfold Ck.cs at G3
  have ok3 := ok.same S3
  have w0 : VS h3 h3 [] none 0 := ⟨Same.refl _, .nil, Own.nil _⟩
  rcases (show c.k = 0 ∨ c.k = 1 ∨ c.k = 2 ∨ c.k = 3 ∨ c.k = 6 ∨ c.k = 9 ∨ c.k = 7 ∨ (c.k ≠ 0 ∧ c.k ≠ 1 ∧ c.k ≠ 2 ∧ c.k ≠ 3 ∧ c.k ≠ 6 ∧ c.k ≠ 9 ∧ c.k ≠ 7) by omega) with hk | hk | hk | hk | hk | hk | hk | ⟨k0, k1, k2, k3, k6, k9, k7⟩
  · have hcv : cval c d = some (beB 4 c.tsn ++ beB 2 c.sid ++ beB 2 c.ssn ++ beB 4 c.ppid ++ d.data) := by unfold cval; rw [hk]; rfl
    (refine Go.run (g:=?_))
    refine Go.loud (by kernel_rfl) rfl ?_
    (refine Go.runL (g:=?_))
    refine GoL.callS rfl rfl rfl rfl rfl rfl rfl (((rb_spec c.tsn 4 (by omega) (by decide) _).args (by first | rfl | (simp; fail_if_success focus skip) | (simp; omega) | (congr 2; omega))).mono ?_)
    rintro _ ha1 va1 sa1
    obtain ⟨ba1, ca1, rfl, wa1⟩ := VS.of (Same.refl h3) va1 sa1
    have na1 := sa1.1
    have Ga1 := sa1.get G3
    (refine Go.runL (g:=?_))
    refine GoL.callS rfl rfl rfl rfl rfl rfl rfl (((rb_spec c.sid 2 (by omega) (by decide) _).args (by first | rfl | (simp; fail_if_success focus skip) | (simp; omega) | (congr 2; omega))).mono ?_)
    rintro _ hb1 ⟨bb1, cb1, rfl, vb1, ob1⟩ sb1
    have nb1 := sb1.1
    (refine Go.runL (g:=?_))
    refine GoL.appendV rfl rfl rfl rfl rfl rfl (wa1.sv.same sb1) (Sv.rv vb1) (wa1.wr (by omega)) (by simp [beB_length]) (by simp [beB_length]) (by simp [bv, Value.oneCell']) ?_
    intro bc1 cc1 hc1 rd1 wr1 hwr1 hrd1 vc1 kc1 oc1
    have nc1 := kc1.1
    have w1 := wa1.append sb1 vc1 kc1 oc1 rfl
    (refine Go.runL (g:=?_))
    refine GoL.end_ (hl := by (simp only [List.nil_append, List.cons_append]); repeat (first | exact loudP.nil | refine loudP.none ?_ | refine loudP.new (fun _ hb => absurd hb List.not_mem_nil) ?_ | refine loudP.row (by repeat (first | exact loudRowP.nil | refine loudRowP.none ?_ | refine loudRowP.bef (by decide +kernel) ?_)) ?_)) ?_
    rw [← List.length_append]
    have G1 := w1.same.get G3
    have nn1 := w1.same.1
    (refine Go.run (g:=?_))
    refine GoR.call rfl rfl rfl rfl rfl rfl rfl (((rb_spec c.ssn 2 (by omega) (by decide) _).args (by first | rfl | (simp; fail_if_success focus skip) | (simp; omega) | (congr 2; omega))).mono ?_)
    rintro _ hb2 ⟨bb2, cb2, rfl, vb2, ob2⟩ sb2
    have nb2 := sb2.1
    (refine Go.run (g:=?_))
    refine GoR.appendV rfl rfl rfl rfl rfl rfl (w1.sv.same sb2) (Sv.rv vb2) (w1.wr (by omega)) (by simp [beB_length]) (by simp [beB_length]) (by simp [bv, Value.oneCell']) ?_
    intro bc2 cc2 hc2 vc2 kc2 oc2
    have nc2 := kc2.1
    have w2 := w1.append sb2 vc2 kc2 oc2 rfl
    rw [← List.length_append]
    have G2 := w2.same.get G3
    have nn2 := w2.same.1
    (refine Go.run (g:=?_))
    refine GoR.call rfl rfl rfl rfl rfl rfl rfl (((rb_spec c.ppid 4 (by omega) (by decide) _).args (by first | rfl | (simp; fail_if_success focus skip) | (simp; omega) | (congr 2; omega))).mono ?_)
    rintro _ hb3 ⟨bb3, cb3, rfl, vb3, ob3⟩ sb3
    have nb3 := sb3.1
    (refine Go.run (g:=?_))
    refine GoR.appendV rfl rfl rfl rfl rfl rfl (w2.sv.same sb3) (Sv.rv vb3) (w2.wr (by omega)) (by simp [beB_length]) (by simp [beB_length]) (by simp [bv, Value.oneCell']) ?_
    intro bc3 cc3 hc3 vc3 kc3 oc3
    have nc3 := kc3.1
    have w3 := w2.append sb3 vc3 kc3 oc3 rfl
    rw [← List.length_append]
    have Gq3 := w3.same.get G3
    have nn3 := w3.same.1
    (refine Go.run (g:=?_))
    refine GoR.appendV rfl rfl rfl rfl rfl rfl w3.sv (ok3.dv.same w3.same) (w3.wr (by omega)) (by simp [beB_length]; omega) (by simp [beB_length]; omega) (by simp [bv, Value.oneCell']) ?_
    intro bc4 cc4 hc4 vc4 kc4 oc4
    have nc4 := kc4.1
    have w4 := w3.append (Same.refl _) vc4 kc4 oc4 (by rw [ok.dl])
    (refine Go.run (g:=?_))
    (first|refine Go.finT (by first|exact .inr rfl|exact .inl rfl) rfl ?_|refine Go.fin1 (by first|exact .inr rfl|exact .inl rfl) rfl (hq:=?_))
    have hdl := ok.dl
    exact ⟨bc4, cc4, _, 0, by first | (simp only [List.length_append, ok.dl]; done) | (simp only [List.length_append, ok.dl]; rfl), w4.sv, w4.own.mono (by omega), .inl ⟨rfl, hcv⟩, by simp [beB_length]; omega⟩
  · (refine Go.run (g:=?_))
    refine Go.loud (by kernel_rfl) rfl ?_
    (refine Go.runL (g:=?_))
    refine GoL.callS rfl rfl rfl rfl rfl rfl rfl (((rb_spec c.tag 4 (by omega) (by decide) _).args (by first | rfl | (simp; fail_if_success focus skip) | (simp; omega) | (congr 2; omega))).mono ?_)
    rintro _ ha1 va1 sa1
    obtain ⟨ba1, ca1, rfl, wa1⟩ := VS.of (Same.refl h3) va1 sa1
    have na1 := sa1.1
    have Ga1 := sa1.get G3
    (refine Go.runL (g:=?_))
    refine GoL.callS rfl rfl rfl rfl rfl rfl rfl (((rb_spec c.rwnd 4 (by omega) (by decide) _).args (by first | rfl | (simp; fail_if_success focus skip) | (simp; omega) | (congr 2; omega))).mono ?_)
    rintro _ hb1 ⟨bb1, cb1, rfl, vb1, ob1⟩ sb1
    have nb1 := sb1.1
    (refine Go.runL (g:=?_))
    refine GoL.appendV rfl rfl rfl rfl rfl rfl (wa1.sv.same sb1) (Sv.rv vb1) (wa1.wr (by omega)) (by simp [beB_length]) (by simp [beB_length]) (by simp [bv, Value.oneCell']) ?_
    intro bc1 cc1 hc1 rd1 wr1 hwr1 hrd1 vc1 kc1 oc1
    have nc1 := kc1.1
    have w1 := wa1.append sb1 vc1 kc1 oc1 rfl
    (refine Go.runL (g:=?_))
    refine GoL.end_ (hl := by (simp only [List.nil_append, List.cons_append]); repeat (first | exact loudP.nil | refine loudP.none ?_ | refine loudP.new (fun _ hb => absurd hb List.not_mem_nil) ?_ | refine loudP.row (by repeat (first | exact loudRowP.nil | refine loudRowP.none ?_ | refine loudRowP.bef (by decide +kernel) ?_)) ?_)) ?_
    rw [← List.length_append]
    have G1 := w1.same.get G3
    have nn1 := w1.same.1
    (refine Go.run (g:=?_))
    refine GoR.call rfl rfl rfl rfl rfl rfl rfl (((rb_spec c.out 2 (by omega) (by decide) _).args (by first | rfl | (simp; fail_if_success focus skip) | (simp; omega) | (congr 2; omega))).mono ?_)
    rintro _ hb2 ⟨bb2, cb2, rfl, vb2, ob2⟩ sb2
    have nb2 := sb2.1
    (refine Go.run (g:=?_))
    refine GoR.appendV rfl rfl rfl rfl rfl rfl (w1.sv.same sb2) (Sv.rv vb2) (w1.wr (by omega)) (by simp [beB_length]) (by simp [beB_length]) (by simp [bv, Value.oneCell']) ?_
    intro bc2 cc2 hc2 vc2 kc2 oc2
    have nc2 := kc2.1
    have w2 := w1.append sb2 vc2 kc2 oc2 rfl
    rw [← List.length_append]
    have G2 := w2.same.get G3
    have nn2 := w2.same.1
    (refine Go.run (g:=?_))
    refine GoR.call rfl rfl rfl rfl rfl rfl rfl (((rb_spec c.inn 2 (by omega) (by decide) _).args (by first | rfl | (simp; fail_if_success focus skip) | (simp; omega) | (congr 2; omega))).mono ?_)
    rintro _ hb3 ⟨bb3, cb3, rfl, vb3, ob3⟩ sb3
    have nb3 := sb3.1
    (refine Go.run (g:=?_))
    refine GoR.appendV rfl rfl rfl rfl rfl rfl (w2.sv.same sb3) (Sv.rv vb3) (w2.wr (by omega)) (by simp [beB_length]) (by simp [beB_length]) (by simp [bv, Value.oneCell']) ?_
    intro bc3 cc3 hc3 vc3 kc3 oc3
    have nc3 := kc3.1
    have w3 := w2.append sb3 vc3 kc3 oc3 rfl
    rw [← List.length_append]
    have Gq3 := w3.same.get G3
    have nn3 := w3.same.1
    (refine Go.run (g:=?_))
    refine GoR.call rfl rfl rfl rfl rfl rfl rfl (((rb_spec c.tsn 4 (by omega) (by decide) _).args (by first | rfl | (simp; fail_if_success focus skip) | (simp; omega) | (congr 2; omega))).mono ?_)
    rintro _ hb4 ⟨bb4, cb4, rfl, vb4, ob4⟩ sb4
    have nb4 := sb4.1
    (refine Go.run (g:=?_))
    refine GoR.appendV rfl rfl rfl rfl rfl rfl (w3.sv.same sb4) (Sv.rv vb4) (w3.wr (by omega)) (by simp [beB_length]) (by simp [beB_length]) (by simp [bv, Value.oneCell']) ?_
    intro bc4 cc4 hc4 vc4 kc4 oc4
    have nc4 := kc4.1
    have w4 := w3.append sb4 vc4 kc4 oc4 rfl
    rw [← List.length_append]
    have G4 := w4.same.get G3
    have nn4 := w4.same.1
    have hz3l : (beB 4 c.tag ++ beB 4 c.rwnd ++ beB 2 c.out ++ beB 2 c.inn ++ beB 4 c.tsn).length = 16 := by simp [beB_length]
    have hib : initB c d = (beB 4 c.tag ++ beB 4 c.rwnd ++ beB 2 c.out ++ beB 2 c.inn ++ beB 4 c.tsn) ++ addrsB d.addrs := rfl
    generalize (beB 4 c.tag ++ beB 4 c.rwnd ++ beB 2 c.out ++ beB 2 c.inn ++ beB 4 c.tsn) = hdr at w4 hz3l hib ⊢
    (refine Go.run (g:=?_))
    refine Go.loop (α := Nat × Option Addr × Nat × AHeap) (fun x => [(6, .int .i64 x.1), (1, .pointer (some ⟨h.n, 0, none⟩)), (4, .slice x.2.1 (hdr ++ addrsB (d.addrs.take x.1)).length x.2.2.1), (5, .int .i64 0)]) (fun _ => []) (fun x => x.2.2.2)
      (fun x => x.1 ≤ c.A.n ∧ VS h3 x.2.2.2 (hdr ++ addrsB (d.addrs.take x.1)) x.2.1 x.2.2.1) (fun x => c.A.n - x.1) (0, bc4, cc4, hc4) ?_ ?_ rfl rfl ?_
    · exact ⟨Nat.zero_le _, by simpa [addrsB] using w4⟩
    · exact ⟨rfl, rfl, by simp [addrsB]; rfl, rfl, trivial⟩
    clear w0 w1 w2 w3 w4 G1 G2 G4
    rintro ⟨i, b6, c6, h6⟩ ⟨hi, w6⟩
    simp only at hi w6 ⊢
    have nn6 := w6.same.1
    have G6 := w6.same.get G3
    rcases Nat.lt_or_ge i c.A.n with i0 | i0
    · have i1 : i < d.addrs.length := by rw [ok.al]; exact i0
      have c0 := w32s_get i1
      have hx := ok.ab _ (List.getElem_mem i1)
      have hbe : i < (w32s d.addrs).length := by rw [w32s_len]; exact i1
      have hA6 := ok3.av.same w6.same
      have e1 : addrsB (d.addrs.take (i + 1)) = addrsB (d.addrs.take i) ++ pB 5 (beB 4 d.addrs[i]) := by
        unfold addrsB
        rw [flat_snoc _ i1, show pB 5 (beB 4 d.addrs[i]) = tlvB false 5 0 (beB 4 d.addrs[i]) from by unfold pB; rw [if_pos (by rw [beB_length]; decide)]]
      have hl6 : (hdr ++ addrsB (d.addrs.take i)).length ≤ 1000 := by rw [List.length_append, addrsB_len, hz3l, List.length_take]; omega
      generalize d.addrs[i] = x at *
      (refine Go.run (g:=?_))
      refine GoR.call rfl rfl rfl rfl rfl rfl rfl (((rb_spec x 4 (by omega) (by decide) _).args (by first | rfl | (simp; fail_if_success focus skip) | (simp; omega) | (congr 2; omega))).mono ?_)
      rintro _ hb7 ⟨bb7, cb7, rfl, vb7, ob7⟩ sb7
      have nb7 := sb7.1
      (refine Go.run (g:=?_))
      refine GoR.callW rfl rfl rfl rfl rfl rfl rfl (((rparam_spec _ _ _ _ _ (w6.to sb7) 5 (by decide) (beB 4 x) (by rw [beB_length]; decide) (by omega) _ _ (Sv.rv vb7)).args (by first | rfl | (simp; fail_if_success focus skip) | (simp; omega) | (congr 2; omega))).mono ?_)
      rintro _ hh9 ⟨bb9, cc9, rfl, w9⟩ -
      refine ⟨(w6.to sb7).wr (by omega), ?_⟩
      rw [if_pos (by rw [beB_length]; decide)]
      have nn9 := w9.same.1
      (refine Go.run (g:=?_))
      exact Go.again (i + 1, bb9, cc9, hh9) ⟨by simp only; omega, by simp only; rw [e1, ← List.append_assoc]; exact w9⟩ (by simp only; omega) ⟨rfl, rfl, by simp only; rw [e1, ← List.append_assoc]; rfl, rfl, trivial⟩ rfl rfl
    have hie : i = c.A.n := by omega
    subst hie
    rw [← ok.al, List.take_length, ← hib] at w6
    rw [show hdr ++ addrsB (d.addrs.take c.A.n) = initB c d by rw [← ok.al, List.take_length, hib]]
    have hil : (initB c d).length = 16 + c.A.n * 8 := by rw [hib, List.length_append, addrsB_len, hz3l, ok.al]
    have hcv : cval c d = some (initB c d) := by unfold cval; rw [hk]; rfl
    (refine Go.run (g:=?_))
    (first|refine Go.finT (by first|exact .inr rfl|exact .inl rfl) rfl ?_|refine Go.fin1 (by first|exact .inr rfl|exact .inl rfl) rfl (hq:=?_))
    exact ⟨b6, c6, _, 0, rfl, w6.sv, w6.own.mono (by omega), .inl ⟨rfl, hcv⟩, by show (initB c d).length ≤ _; omega⟩
  · (refine Go.run (g:=?_))
    refine Go.loud (by kernel_rfl) rfl ?_
    (refine Go.runL (g:=?_))
    refine GoL.callS rfl rfl rfl rfl rfl rfl rfl (((rb_spec c.tag 4 (by omega) (by decide) _).args (by first | rfl | (simp; fail_if_success focus skip) | (simp; omega) | (congr 2; omega))).mono ?_)
    rintro _ ha1 va1 sa1
    obtain ⟨ba1, ca1, rfl, wa1⟩ := VS.of (Same.refl h3) va1 sa1
    have na1 := sa1.1
    have Ga1 := sa1.get G3
    (refine Go.runL (g:=?_))
    refine GoL.callS rfl rfl rfl rfl rfl rfl rfl (((rb_spec c.rwnd 4 (by omega) (by decide) _).args (by first | rfl | (simp; fail_if_success focus skip) | (simp; omega) | (congr 2; omega))).mono ?_)
    rintro _ hb1 ⟨bb1, cb1, rfl, vb1, ob1⟩ sb1
    have nb1 := sb1.1
    (refine Go.runL (g:=?_))
    refine GoL.appendV rfl rfl rfl rfl rfl rfl (wa1.sv.same sb1) (Sv.rv vb1) (wa1.wr (by omega)) (by simp [beB_length]) (by simp [beB_length]) (by simp [bv, Value.oneCell']) ?_
    intro bc1 cc1 hc1 rd1 wr1 hwr1 hrd1 vc1 kc1 oc1
    have nc1 := kc1.1
    have w1 := wa1.append sb1 vc1 kc1 oc1 rfl
    (refine Go.runL (g:=?_))
    refine GoL.end_ (hl := by (simp only [List.nil_append, List.cons_append]); repeat (first | exact loudP.nil | refine loudP.none ?_ | refine loudP.new (fun _ hb => absurd hb List.not_mem_nil) ?_ | refine loudP.row (by repeat (first | exact loudRowP.nil | refine loudRowP.none ?_ | refine loudRowP.bef (by decide +kernel) ?_)) ?_)) ?_
    rw [← List.length_append]
    have G1 := w1.same.get G3
    have nn1 := w1.same.1
    (refine Go.run (g:=?_))
    refine GoR.call rfl rfl rfl rfl rfl rfl rfl (((rb_spec c.out 2 (by omega) (by decide) _).args (by first | rfl | (simp; fail_if_success focus skip) | (simp; omega) | (congr 2; omega))).mono ?_)
    rintro _ hb2 ⟨bb2, cb2, rfl, vb2, ob2⟩ sb2
    have nb2 := sb2.1
    (refine Go.run (g:=?_))
    refine GoR.appendV rfl rfl rfl rfl rfl rfl (w1.sv.same sb2) (Sv.rv vb2) (w1.wr (by omega)) (by simp [beB_length]) (by simp [beB_length]) (by simp [bv, Value.oneCell']) ?_
    intro bc2 cc2 hc2 vc2 kc2 oc2
    have nc2 := kc2.1
    have w2 := w1.append sb2 vc2 kc2 oc2 rfl
    rw [← List.length_append]
    have G2 := w2.same.get G3
    have nn2 := w2.same.1
    (refine Go.run (g:=?_))
    refine GoR.call rfl rfl rfl rfl rfl rfl rfl (((rb_spec c.inn 2 (by omega) (by decide) _).args (by first | rfl | (simp; fail_if_success focus skip) | (simp; omega) | (congr 2; omega))).mono ?_)
    rintro _ hb3 ⟨bb3, cb3, rfl, vb3, ob3⟩ sb3
    have nb3 := sb3.1
    (refine Go.run (g:=?_))
    refine GoR.appendV rfl rfl rfl rfl rfl rfl (w2.sv.same sb3) (Sv.rv vb3) (w2.wr (by omega)) (by simp [beB_length]) (by simp [beB_length]) (by simp [bv, Value.oneCell']) ?_
    intro bc3 cc3 hc3 vc3 kc3 oc3
    have nc3 := kc3.1
    have w3 := w2.append sb3 vc3 kc3 oc3 rfl
    rw [← List.length_append]
    have Gq3 := w3.same.get G3
    have nn3 := w3.same.1
    (refine Go.run (g:=?_))
    refine GoR.call rfl rfl rfl rfl rfl rfl rfl (((rb_spec c.tsn 4 (by omega) (by decide) _).args (by first | rfl | (simp; fail_if_success focus skip) | (simp; omega) | (congr 2; omega))).mono ?_)
    rintro _ hb4 ⟨bb4, cb4, rfl, vb4, ob4⟩ sb4
    have nb4 := sb4.1
    (refine Go.run (g:=?_))
    refine GoR.appendV rfl rfl rfl rfl rfl rfl (w3.sv.same sb4) (Sv.rv vb4) (w3.wr (by omega)) (by simp [beB_length]) (by simp [beB_length]) (by simp [bv, Value.oneCell']) ?_
    intro bc4 cc4 hc4 vc4 kc4 oc4
    have nc4 := kc4.1
    have w4 := w3.append sb4 vc4 kc4 oc4 rfl
    rw [← List.length_append]
    have G4 := w4.same.get G3
    have nn4 := w4.same.1
    have hz3l : (beB 4 c.tag ++ beB 4 c.rwnd ++ beB 2 c.out ++ beB 2 c.inn ++ beB 4 c.tsn).length = 16 := by simp [beB_length]
    have hib : initB c d = (beB 4 c.tag ++ beB 4 c.rwnd ++ beB 2 c.out ++ beB 2 c.inn ++ beB 4 c.tsn) ++ addrsB d.addrs := rfl
    generalize (beB 4 c.tag ++ beB 4 c.rwnd ++ beB 2 c.out ++ beB 2 c.inn ++ beB 4 c.tsn) = hdr at w4 hz3l hib ⊢
    (refine Go.run (g:=?_))
    refine Go.loop (α := Nat × Option Addr × Nat × AHeap) (fun x => [(6, .int .i64 x.1), (1, .pointer (some ⟨h.n, 0, none⟩)), (4, .slice x.2.1 (hdr ++ addrsB (d.addrs.take x.1)).length x.2.2.1), (5, .int .i64 0)]) (fun _ => []) (fun x => x.2.2.2)
      (fun x => x.1 ≤ c.A.n ∧ VS h3 x.2.2.2 (hdr ++ addrsB (d.addrs.take x.1)) x.2.1 x.2.2.1) (fun x => c.A.n - x.1) (0, bc4, cc4, hc4) ?_ ?_ rfl rfl ?_
    · exact ⟨Nat.zero_le _, by simpa [addrsB] using w4⟩
    · exact ⟨rfl, rfl, by simp [addrsB]; rfl, rfl, trivial⟩
    clear w0 w1 w2 w3 w4 G1 G2 G4
    rintro ⟨i, b6, c6, h6⟩ ⟨hi, w6⟩
    simp only at hi w6 ⊢
    have nn6 := w6.same.1
    have G6 := w6.same.get G3
    rcases Nat.lt_or_ge i c.A.n with i0 | i0
    · have i1 : i < d.addrs.length := by rw [ok.al]; exact i0
      have c0 := w32s_get i1
      have hx := ok.ab _ (List.getElem_mem i1)
      have hbe : i < (w32s d.addrs).length := by rw [w32s_len]; exact i1
      have hA6 := ok3.av.same w6.same
      have e1 : addrsB (d.addrs.take (i + 1)) = addrsB (d.addrs.take i) ++ pB 5 (beB 4 d.addrs[i]) := by
        unfold addrsB
        rw [flat_snoc _ i1, show pB 5 (beB 4 d.addrs[i]) = tlvB false 5 0 (beB 4 d.addrs[i]) from by unfold pB; rw [if_pos (by rw [beB_length]; decide)]]
      have hl6 : (hdr ++ addrsB (d.addrs.take i)).length ≤ 1000 := by rw [List.length_append, addrsB_len, hz3l, List.length_take]; omega
      generalize d.addrs[i] = x at *
      (refine Go.run (g:=?_))
      refine GoR.call rfl rfl rfl rfl rfl rfl rfl (((rb_spec x 4 (by omega) (by decide) _).args (by first | rfl | (simp; fail_if_success focus skip) | (simp; omega) | (congr 2; omega))).mono ?_)
      rintro _ hb7 ⟨bb7, cb7, rfl, vb7, ob7⟩ sb7
      have nb7 := sb7.1
      (refine Go.run (g:=?_))
      refine GoR.callW rfl rfl rfl rfl rfl rfl rfl (((rparam_spec _ _ _ _ _ (w6.to sb7) 5 (by decide) (beB 4 x) (by rw [beB_length]; decide) (by omega) _ _ (Sv.rv vb7)).args (by first | rfl | (simp; fail_if_success focus skip) | (simp; omega) | (congr 2; omega))).mono ?_)
      rintro _ hh9 ⟨bb9, cc9, rfl, w9⟩ -
      refine ⟨(w6.to sb7).wr (by omega), ?_⟩
      rw [if_pos (by rw [beB_length]; decide)]
      have nn9 := w9.same.1
      (refine Go.run (g:=?_))
      exact Go.again (i + 1, bb9, cc9, hh9) ⟨by simp only; omega, by simp only; rw [e1, ← List.append_assoc]; exact w9⟩ (by simp only; omega) ⟨rfl, rfl, by simp only; rw [e1, ← List.append_assoc]; rfl, rfl, trivial⟩ rfl rfl
    have hie : i = c.A.n := by omega
    subst hie
    rw [← ok.al, List.take_length, ← hib] at w6
    rw [show hdr ++ addrsB (d.addrs.take c.A.n) = initB c d by rw [← ok.al, List.take_length, hib]]
    have hil : (initB c d).length = 16 + c.A.n * 8 := by rw [hib, List.length_append, addrsB_len, hz3l, ok.al]
    (refine Go.run (g:=?_))
    refine GoR.callW rfl rfl rfl rfl rfl rfl rfl (((rparam_spec _ _ _ _ _ w6 7 (by decide) d.data (by rw [ok.dl]; omega) (by omega) c.D.a c.D.cap (by rw [ok.dl]; exact ok3.dv.same w6.same)).args (by first | (rw [ok.dl]; done) | (rw [ok.dl]; rfl))).mono ?_)
    rintro _ hh9 ⟨bb9, cc9, rfl, w9⟩ -
    refine ⟨w6.wr (by omega), ?_⟩
    have hpl := pB_le 7 d.data
    rcases Nat.lt_or_ge 65531 d.data.length with g | g
    · rw [if_neg (by omega)]
      have hcv : cval c d = none := by unfold cval; rw [hk]; exact if_neg (by omega)
      (refine Go.run (g:=?_))
      (first|refine Go.finT (by first|exact .inr rfl|exact .inl rfl) rfl ?_|refine Go.fin1 (by first|exact .inr rfl|exact .inl rfl) rfl (hq:=?_))
      exact ⟨bb9, cc9, _, 3, rfl, w9.sv, w9.own.mono (by omega), .inr ⟨rfl, hcv⟩, by simp only [List.length_append]; omega⟩
    · rw [if_pos g]
      have hcv : cval c d = some (initB c d ++ pB 7 d.data) := by unfold cval; rw [hk]; exact if_pos g
      (refine Go.run (g:=?_))
      (first|refine Go.finT (by first|exact .inr rfl|exact .inl rfl) rfl ?_|refine Go.fin1 (by first|exact .inr rfl|exact .inl rfl) rfl (hq:=?_))
      exact ⟨bb9, cc9, _, 0, rfl, w9.sv, w9.own.mono (by omega), .inl ⟨rfl, hcv⟩, by simp only [List.length_append]; omega⟩
  · (refine Go.run (g:=?_))
    refine Go.loud (by kernel_rfl) rfl ?_
    (refine Go.runL (g:=?_))
    refine GoL.callS rfl rfl rfl rfl rfl rfl rfl (((rb_spec c.tsn 4 (by omega) (by decide) _).args (by first | rfl | (simp; fail_if_success focus skip) | (simp; omega) | (congr 2; omega))).mono ?_)
    rintro _ ha1 va1 sa1
    obtain ⟨ba1, ca1, rfl, wa1⟩ := VS.of (Same.refl h3) va1 sa1
    have na1 := sa1.1
    have Ga1 := sa1.get G3
    (refine Go.runL (g:=?_))
    refine GoL.callS rfl rfl rfl rfl rfl rfl rfl (((rb_spec c.rwnd 4 (by omega) (by decide) _).args (by first | rfl | (simp; fail_if_success focus skip) | (simp; omega) | (congr 2; omega))).mono ?_)
    rintro _ hb1 ⟨bb1, cb1, rfl, vb1, ob1⟩ sb1
    have nb1 := sb1.1
    (refine Go.runL (g:=?_))
    refine GoL.appendV rfl rfl rfl rfl rfl rfl (wa1.sv.same sb1) (Sv.rv vb1) (wa1.wr (by omega)) (by simp [beB_length]) (by simp [beB_length]) (by simp [bv, Value.oneCell']) ?_
    intro bc1 cc1 hc1 rd1 wr1 hwr1 hrd1 vc1 kc1 oc1
    have nc1 := kc1.1
    have w1 := wa1.append sb1 vc1 kc1 oc1 rfl
    (refine Go.runL (g:=?_))
    refine GoL.end_ (hl := by (simp only [List.nil_append, List.cons_append]); repeat (first | exact loudP.nil | refine loudP.none ?_ | refine loudP.new (fun _ hb => absurd hb List.not_mem_nil) ?_ | refine loudP.row (by repeat (first | exact loudRowP.nil | refine loudRowP.none ?_ | refine loudRowP.bef (by decide +kernel) ?_)) ?_)) ?_
    rw [← List.length_append]
    have G1 := w1.same.get G3
    have nn1 := w1.same.1
    (refine Go.run (g:=?_))
    refine GoR.call rfl rfl rfl rfl rfl rfl rfl (((rb_spec c.G.n 2 (by omega) (by decide) _).args (by first | rfl | (simp; fail_if_success focus skip) | (simp; omega) | (congr 2; omega))).mono ?_)
    rintro _ hb2 ⟨bb2, cb2, rfl, vb2, ob2⟩ sb2
    have nb2 := sb2.1
    (refine Go.run (g:=?_))
    refine GoR.appendV rfl rfl rfl rfl rfl rfl (w1.sv.same sb2) (Sv.rv vb2) (w1.wr (by omega)) (by simp [beB_length]) (by simp [beB_length]) (by simp [bv, Value.oneCell']) ?_
    intro bc2 cc2 hc2 vc2 kc2 oc2
    have nc2 := kc2.1
    have w2 := w1.append sb2 vc2 kc2 oc2 rfl
    rw [← List.length_append]
    have G2 := w2.same.get G3
    have nn2 := w2.same.1
    (refine Go.run (g:=?_))
    refine GoR.call rfl rfl rfl rfl rfl rfl rfl (((rb_spec c.U.n 2 (by omega) (by decide) _).args (by first | rfl | (simp; fail_if_success focus skip) | (simp; omega) | (congr 2; omega))).mono ?_)
    rintro _ hb3 ⟨bb3, cb3, rfl, vb3, ob3⟩ sb3
    have nb3 := sb3.1
    (refine Go.run (g:=?_))
    refine GoR.appendV rfl rfl rfl rfl rfl rfl (w2.sv.same sb3) (Sv.rv vb3) (w2.wr (by omega)) (by simp [beB_length]) (by simp [beB_length]) (by simp [bv, Value.oneCell']) ?_
    intro bc3 cc3 hc3 vc3 kc3 oc3
    have nc3 := kc3.1
    have w3 := w2.append sb3 vc3 kc3 oc3 rfl
    rw [← List.length_append]
    have Gq3 := w3.same.get G3
    have nn3 := w3.same.1
    have hz2l : (beB 4 c.tsn ++ beB 4 c.rwnd ++ beB 2 c.G.n ++ beB 2 c.U.n).length = 12 := by simp [beB_length]
    have hcv : cval c d = some (beB 4 c.tsn ++ beB 4 c.rwnd ++ beB 2 c.G.n ++ beB 2 c.U.n ++ gapsBy d.gaps ++ be4s d.dups) := by unfold cval; rw [hk]; rfl
    generalize (beB 4 c.tsn ++ beB 4 c.rwnd ++ beB 2 c.G.n ++ beB 2 c.U.n) = hdr at w3 hz2l hcv ⊢
    (refine Go.run (g:=?_))
    refine Go.loop (α := Nat × Option Addr × Nat × AHeap) (fun x => [(7, .int .i64 x.1), (1, .pointer (some ⟨h.n, 0, none⟩)), (4, .slice x.2.1 (hdr ++ gapsBy (d.gaps.take x.1)).length x.2.2.1), (5, .int .i64 0)]) (fun _ => []) (fun x => x.2.2.2)
      (fun x => x.1 ≤ c.G.n ∧ VS h3 x.2.2.2 (hdr ++ gapsBy (d.gaps.take x.1)) x.2.1 x.2.2.1) (fun x => c.G.n - x.1) (0, bc3, cc3, hc3) ?_ ?_ rfl rfl ?_
    · exact ⟨Nat.zero_le _, by simpa [gapsBy] using w3⟩
    · exact ⟨rfl, rfl, by simp [gapsBy]; rfl, rfl, trivial⟩
    clear w0 w1 w2 w3 G1 G2
    rintro ⟨i, b6, c6, h6⟩ ⟨hi, w6⟩
    simp only at hi w6 ⊢
    have nn6 := w6.same.1
    have G6 := w6.same.get G3
    rcases Nat.lt_or_ge i c.G.n with i0 | i0
    · have i1 : i < d.gaps.length := by rw [ok.gl]; exact i0
      have c0 := gcs_0 i1
      have c1 := gcs_1 i1
      have hx := ok.gb _ (List.getElem_mem i1)
      have hbe : i * 2 + 2 ≤ (gcs d.gaps).length := by rw [gcs_len]; omega
      have hbe' : i * 2 < (gcs d.gaps).length := by rw [gcs_len]; omega
      have hA6 := ok3.gv.same w6.same
      have e1 : gapsBy (d.gaps.take (i + 1)) = gapsBy (d.gaps.take i) ++ (beB 2 d.gaps[i].1 ++ beB 2 d.gaps[i].2) := by
        unfold gapsBy
        rw [flat_snoc _ i1]
      have hl6 : hdr.length + (gapsBy (d.gaps.take i)).length ≤ 1000 := by rw [gapsBy_len, hz2l, List.length_take]; omega
      generalize d.gaps[i].1 = gs1 at *
      generalize d.gaps[i].2 = gs2 at *
      (refine Go.run (g:=?_))
      refine GoR.call rfl rfl rfl rfl rfl rfl rfl (((rb_spec gs1 2 (by omega) (by decide) _).args (by first | rfl | (simp; fail_if_success focus skip) | (simp; omega) | (congr 2; omega))).mono ?_)
      rintro _ hb7 ⟨bb7, cb7, rfl, vb7, ob7⟩ sb7
      have nb7 := sb7.1
      (refine Go.run (g:=?_))
      refine GoR.appendV rfl rfl rfl rfl rfl rfl (w6.sv.same sb7) (Sv.rv vb7) (w6.wr (by omega)) (by simp [beB_length]; omega) (by simp [beB_length]; omega) (by simp [bv, Value.oneCell']) ?_
      intro bc7 cc7 hc7 vc7 kc7 oc7
      have nc7 := kc7.1
      have w7 := w6.append sb7 vc7 kc7 oc7 rfl
      rw [← List.length_append]
      have G7 := w7.same.get G3
      have nn7 := w7.same.1
      have hA7 := ok3.gv.same w7.same
      (refine Go.run (g:=?_))
      refine GoR.call rfl rfl rfl rfl rfl rfl rfl (((rb_spec gs2 2 (by omega) (by decide) _).args (by first | rfl | (simp; fail_if_success focus skip) | (simp; omega) | (congr 2; omega))).mono ?_)
      rintro _ hb8 ⟨bb8, cb8, rfl, vb8, ob8⟩ sb8
      have nb8 := sb8.1
      (refine Go.run (g:=?_))
      refine GoR.appendV rfl rfl rfl rfl rfl rfl (w7.sv.same sb8) (Sv.rv vb8) (w7.wr (by omega)) (by simp [beB_length]; omega) (by simp [beB_length]; omega) (by simp [bv, Value.oneCell']) ?_
      intro bc8 cc8 hc8 vc8 kc8 oc8
      have nc8 := kc8.1
      have w8 := w7.append sb8 vc8 kc8 oc8 rfl
      rw [← List.length_append]
      have G8 := w8.same.get G3
      have nn8 := w8.same.1
      (refine Go.run (g:=?_))
      exact Go.again (i + 1, bc8, cc8, hc8) ⟨by simp only; omega, by simp only; rw [e1, ← List.append_assoc, ← List.append_assoc]; exact w8⟩ (by simp only; omega) ⟨rfl, rfl, by simp only; rw [e1, ← List.append_assoc, ← List.append_assoc]; rfl, rfl, trivial⟩ rfl rfl
    have hie : i = c.G.n := by omega
    subst hie
    rw [← ok.gl, List.take_length] at w6
    rw [show d.gaps.take c.G.n = d.gaps by rw [← ok.gl, List.take_length]]
    have hil : (hdr ++ gapsBy d.gaps).length = 12 + c.G.n * 4 := by rw [List.length_append, gapsBy_len, hz2l, ok.gl]
    generalize hdr ++ gapsBy d.gaps = hdr2 at w6 hil hcv ⊢
    (refine Go.run (g:=?_))
    refine Go.loop (α := Nat × Option Addr × Nat × AHeap) (fun x => [(8, .int .i64 x.1), (1, .pointer (some ⟨h.n, 0, none⟩)), (4, .slice x.2.1 (hdr2 ++ be4s (d.dups.take x.1)).length x.2.2.1), (5, .int .i64 0)]) (fun _ => []) (fun x => x.2.2.2)
      (fun x => x.1 ≤ c.U.n ∧ VS h3 x.2.2.2 (hdr2 ++ be4s (d.dups.take x.1)) x.2.1 x.2.2.1) (fun x => c.U.n - x.1) (0, b6, c6, h6) ?_ ?_ rfl rfl ?_
    · exact ⟨Nat.zero_le _, by simpa [be4s] using w6⟩
    · exact ⟨rfl, rfl, by simp [be4s]; rfl, rfl, trivial⟩
    clear w6 G6 nn6
    rintro ⟨i, b6, c6, h6⟩ ⟨hi, w6⟩
    simp only at hi w6 ⊢
    have nn6 := w6.same.1
    have G6 := w6.same.get G3
    rcases Nat.lt_or_ge i c.U.n with i0 | i0
    · have i1 : i < d.dups.length := by rw [ok.ul]; exact i0
      have c0 := w32s_get i1
      have hx := ok.ub _ (List.getElem_mem i1)
      have hbe : i < (w32s d.dups).length := by rw [w32s_len]; exact i1
      have hA6 := ok3.uv.same w6.same
      have e1 := be4s_take i1
      have hl6 : hdr2.length + (be4s (d.dups.take i)).length ≤ 1000 := by rw [be4s_len, hil, List.length_take]; omega
      generalize d.dups[i] = x at *
      (refine Go.run (g:=?_))
      refine GoR.call rfl rfl rfl rfl rfl rfl rfl (((rb_spec x 4 (by omega) (by decide) _).args (by first | rfl | (simp; fail_if_success focus skip) | (simp; omega) | (congr 2; omega))).mono ?_)
      rintro _ hb8 ⟨bb8, cb8, rfl, vb8, ob8⟩ sb8
      have nb8 := sb8.1
      (refine Go.run (g:=?_))
      refine GoR.appendV rfl rfl rfl rfl rfl rfl (w6.sv.same sb8) (Sv.rv vb8) (w6.wr (by omega)) (by simp [beB_length]; omega) (by simp [beB_length]; omega) (by simp [bv, Value.oneCell']) ?_
      intro bc8 cc8 hc8 vc8 kc8 oc8
      have nc8 := kc8.1
      have w8 := w6.append sb8 vc8 kc8 oc8 rfl
      rw [← List.length_append]
      have G8 := w8.same.get G3
      have nn8 := w8.same.1
      (refine Go.run (g:=?_))
      exact Go.again (i + 1, bc8, cc8, hc8) ⟨by simp only; omega, by simp only; rw [e1, ← List.append_assoc]; exact w8⟩ (by simp only; omega) ⟨rfl, rfl, by simp only; rw [e1, ← List.append_assoc]; rfl, rfl, trivial⟩ rfl rfl
    have hie : i = c.U.n := by omega
    subst hie
    rw [← ok.ul, List.take_length] at w6
    rw [show d.dups.take c.U.n = d.dups by rw [← ok.ul, List.take_length]]
    have hul := be4s_len d.dups
    have hull := ok.ul
    (refine Go.run (g:=?_))
    (first|refine Go.finT (by first|exact .inr rfl|exact .inl rfl) rfl ?_|refine Go.fin1 (by first|exact .inr rfl|exact .inl rfl) rfl (hq:=?_))
    exact ⟨b6, c6, _, 0, rfl, w6.sv, w6.own.mono (by omega), .inl ⟨rfl, hcv⟩, by simp only [List.length_append]; omega⟩
  · (refine Go.run (g:=?_))
    refine Go.loop (α := Nat × Option Addr × Nat × AHeap × Nat) (fun x => [(9, .int .i64 x.1), (1, .pointer (some ⟨h.n, 0, none⟩)), (4, .slice x.2.1 (causesB (d.causes.take x.1)).length x.2.2.1), (5, .int .i64 x.2.2.2.2)]) (fun _ => []) (fun x => x.2.2.2.1)
      (fun x => x.1 ≤ c.C.n ∧ VS h3 x.2.2.2.1 (causesB (d.causes.take x.1)) x.2.1 x.2.2.1 ∧ x.2.2.2.2 = if allShort (d.causes.take x.1) = true then 0 else 3) (fun x => c.C.n - x.1) (0, none, 0, h3, 0) ?_ ?_ rfl rfl ?_
    · exact ⟨Nat.zero_le _, by simpa [causesB] using w0, rfl⟩
    · exact ⟨rfl, rfl, rfl, rfl, trivial⟩
    clear w0
    rintro ⟨i, b6, c6, h6, e6⟩ ⟨hi, w6, he⟩
    simp only at hi w6 he ⊢
    have nn6 := w6.same.1
    have G6 := w6.same.get G3
    have hil := causesB_len (d.causes.take i)
    rw [List.length_take] at hil
    have hcl := ok.cl
    have hcv : cval c d = if allShort d.causes = true then some (causesB d.causes) else none := by unfold cval; rw [hk]; rfl
    by_cases sh : allShort (d.causes.take i) = true
    case neg =>
      rw [if_neg sh] at he
      subst he
      rw [allShort_take (by simpa using sh)] at hcv
      rcases Nat.lt_or_ge i c.C.n with i0 | i0
      all_goals
        (refine Go.run (g:=?_))
        (first|refine Go.finT (by first|exact .inr rfl|exact .inl rfl) rfl ?_|refine Go.fin1 (by first|exact .inr rfl|exact .inl rfl) rfl (hq:=?_))
        exact ⟨b6, c6, _, 3, rfl, w6.sv, w6.own.mono (by omega), .inr ⟨rfl, hcv⟩, by show (causesB (d.causes.take i)).length ≤ _; omega⟩
    rw [if_pos sh] at he
    subst he
    rcases Nat.lt_or_ge i c.C.n with i0 | i0
    · have i1 : i < d.causes.length := by rw [ok.cl]; exact i0
      have c0 := ccs_0 i1
      have c1 := ccs_1 i1
      obtain ⟨hx1, hx2, -⟩ := ok.cb _ (List.getElem_mem i1)
      obtain ⟨-, -, hx3⟩ := ok3.cb _ (List.getElem_mem i1)
      have hbe : i * 2 + 2 ≤ (ccs d.causes).length := by rw [ccs_len]; omega
      have hbe' : i * 2 < (ccs d.causes).length := by rw [ccs_len]; omega
      have hA6 := ok3.cv.same w6.same
      have e1 : causesB (d.causes.take (i + 1)) = causesB (d.causes.take i) ++ pB d.causes[i].k d.causes[i].z := by
        unfold causesB
        rw [flat_snoc _ i1]
      have e2 : (if d.causes[i].z.length ≤ 65531 then 0 else 3) = if allShort (d.causes.take (i + 1)) = true then 0 else 3 := by
        rw [allShort_snoc i1, sh, Bool.true_and]
        by_cases g2 : d.causes[i].z.length ≤ 65531
        · rw [if_pos g2, decide_eq_true g2, if_pos rfl]
        · rw [if_neg g2, decide_eq_false g2]; rfl
      generalize d.causes[i].k = xk at *
      generalize d.causes[i].z = xz at *
      generalize d.causes[i].a = xa at *
      generalize d.causes[i].cap = xc at *
      (iterate 19 (first|refine GoR.end ?_|(refine GoR.gd rfl ?_;first|refine GoR.wanted' rfl rfl rfl rfl (g:=?_)|refine GoR.unwanted' rfl rfl rfl rfl (hd:=rfl) (hN:=rfl) (g:=?_)|refine GoR.unwantedU rfl rfl rfl rfl rfl rfl ?_)|(refine GoR.kk 0 rfl ?_;first|refine GoR.move rfl rfl rfl rfl rfl ?_|refine GoR.assign rfl rfl rfl rfl rfl ?_)|(refine GoR.kk 1 rfl ?_;first|refine GoR.load' rfl rfl rfl rfl rfl (g:=?_)|refine GoR.loadA' rfl rfl rfl rfl rfl (hv:=rfl) (g:=?_)|refine GoR.loadV' rfl rfl rfl rfl rfl (g:=?_)|refine GoR.loadVN' rfl rfl rfl rfl rfl (g:=?_))|(refine GoR.kk 2 rfl ?_;first|refine GoR.store' rfl rfl rfl rfl rfl (hl:=rfl) (h1:=rfl) (h3:=rfl) (g:=?_))|(refine GoR.kk 3 rfl ?_;first|refine GoR.fieldAddr rfl rfl rfl rfl rfl ?_|refine GoR.indexN' rfl rfl rfl rfl rfl rfl (g:=?_)|refine GoR.indexNs' rfl rfl rfl rfl rfl rfl (g:=?_)|refine GoR.indexV' rfl rfl rfl rfl rfl rfl (g:=?_)|refine GoR.indexA' rfl rfl rfl rfl rfl rfl (g:=?_)|refine GoR.fieldV' rfl rfl rfl rfl rfl (g:=?_))|(refine GoR.kk 4 rfl ?_;first|refine GoR.eq rfl rfl rfl rfl rfl rfl ?_|refine GoR.ne rfl rfl rfl rfl rfl rfl ?_|refine GoR.lt rfl rfl rfl rfl rfl rfl ?_|refine GoR.le rfl rfl rfl rfl rfl rfl ?_|refine GoR.gt rfl rfl rfl rfl rfl rfl ?_|refine GoR.ge rfl rfl rfl rfl rfl rfl ?_|refine GoR.addN' rfl rfl rfl rfl rfl rfl (g:=?_)|refine GoR.subN' rfl rfl rfl rfl rfl rfl (g:=?_)|refine GoR.add' rfl rfl rfl rfl rfl rfl (g:=?_)|refine GoR.sub' rfl rfl rfl rfl rfl rfl (g:=?_)|refine GoR.addM' rfl rfl rfl rfl rfl rfl (g:=?_)|refine GoR.subM' rfl rfl rfl rfl rfl rfl (g:=?_)|refine GoR.mulM' rfl rfl rfl rfl rfl rfl (g:=?_)|refine GoR.shrN rfl rfl rfl rfl rfl rfl rfl ?_|refine GoR.structEq rfl rfl rfl rfl rfl rfl (by rfl) (by rfl) ?_|refine GoR.structNe rfl rfl rfl rfl rfl rfl (by rfl) (by rfl) ?_|refine GoR.strEq rfl rfl rfl rfl rfl rfl ?_|refine GoR.strNe rfl rfl rfl rfl rfl rfl ?_|refine GoR.remN' rfl rfl rfl rfl rfl rfl (g:=?_)|refine GoR.quoN' rfl rfl rfl rfl rfl rfl (g:=?_)|refine GoR.shlN' rfl rfl rfl rfl rfl rfl rfl (g:=?_)|refine GoR.orN' rfl rfl rfl rfl rfl rfl (g:=?_))|(refine GoR.kk 5 rfl ?_;first|refine GoR.len rfl rfl rfl rfl rfl ?_|refine GoR.lenStr rfl rfl rfl rfl rfl ?_|refine GoR.capB rfl rfl rfl rfl rfl ?_)|(refine GoR.kk 7 rfl ?_;first|refine GoR.pickE' rfl rfl rfl rfl rfl (hx:=rfl) (hy:=rfl) (g:=?_)|refine GoR.pickN' rfl rfl rfl rfl rfl (hx:=rfl) (hy:=rfl) (g:=?_)|refine GoR.pickB rfl rfl rfl rfl rfl rfl rfl ?_)|(refine GoR.kk 8 rfl ?_;first|refine GoR.boxA rfl rfl rfl rfl rfl ?_|refine GoR.boxS rfl rfl rfl rfl rfl rfl ?_|refine GoR.alloc rfl rfl rfl rfl ?_)|(refine GoR.kk 9 rfl ?_;first|refine GoR.strV' rfl rfl rfl rfl rfl (g:=?_)|refine GoR.conv_u8 rfl rfl rfl rfl rfl ?_|refine GoR.convW' rfl rfl rfl rfl rfl (g:=?_)|refine GoR.conv_u16 rfl rfl rfl rfl rfl ?_|refine GoR.conv_u32 rfl rfl rfl rfl rfl ?_)|(refine GoR.kk 10 rfl ?_;first|refine GoR.build' rfl rfl rfl rfl rfl rfl (g:=?_))|(refine GoR.kk 11 rfl ?_;first|refine GoR.extract rfl rfl rfl rfl rfl rfl ?_|refine GoR.not rfl rfl rfl rfl rfl ?_|refine GoR.nilCheck rfl rfl rfl rfl rfl ?_|refine GoR.nilCheckF rfl rfl rfl rfl rfl ?_|refine GoR.makeFunc rfl rfl rfl rfl rfl rfl ?_)|(refine Go.kk 0 rfl ?_;refine Go.seq ?_)|(refine Go.kk 1 rfl ?_;refine Go.region (by kernel_rfl) rfl ?_)|(refine Go.kk 2 rfl ?_;refine Go.drawnQ rfl (by kernel_rfl) rfl ?_)|(refine Go.kk 3 rfl ?_;first|refine Go.cond_t' rfl (g:=?_)|refine Go.cond_f' rfl (g:=?_))|(refine Go.kk 4 rfl ?_;refine Go.block ?_)|(refine Go.kk 5 rfl ?_;first|refine Go.skip ?_|refine Go.ret ?_|refine Go.exit ?_|refine Go.scope ?_)|refine Go.leave_normal ?_|refine Go.leave_same ?_|refine Go.leave_ret ?_|refine Go.ret_code ?_|refine Go.exit_code ?_|refine Go.leave_other rfl ?_|refine Go.sc_normal ?_|refine Go.sc_ret ?_|refine Go.sc_exit ?_|refine Go.exit_back ?_|refine Go.ret_back ?_))
      refine Go.loud (by kernel_rfl) rfl ?_
      (refine Go.runL (g:=?_))
      refine GoL.call rfl rfl rfl rfl rfl rfl rfl (((rparam_spec _ _ _ _ _ w6 xk hx1 xz hx2 (by omega) xa xc (hx3.same w6.same)).args (by first | rfl | (simp; fail_if_success focus skip) | (simp; omega) | (congr 2; omega))).mono ?_)
      rintro _ hh9 ⟨bb9, cc9, rfl, w9⟩ -
      refine ⟨w6.wr (by omega), ?_⟩
      have nn9 := w9.same.1
      (refine Go.runL (g:=?_))
      refine GoL.end_ (hl := by (simp only [List.nil_append, List.cons_append]); repeat (first | exact loudP.nil | refine loudP.none ?_ | refine loudP.new (fun _ hb => absurd hb List.not_mem_nil) ?_ | refine loudP.row (by repeat (first | exact loudRowP.nil | refine loudRowP.none ?_ | refine loudRowP.bef (by decide +kernel) ?_)) ?_)) ?_
      (refine Go.run (g:=?_))
      exact Go.again (i + 1, bb9, cc9, hh9, _) ⟨by simp only; omega, by simp only; rw [e1]; exact w9, e2⟩ (by simp only; omega) ⟨rfl, rfl, by simp only; rw [e1]; rfl, by show some (Value.int .i64 (if xz.length ≤ 65531 then (0 : Int) else 3)) = some (Value.int .i64 ((if xz.length ≤ 65531 then 0 else 3 : Nat) : Int)); split <;> rfl, trivial⟩ rfl rfl
    have hie : i = c.C.n := by omega
    subst hie
    rw [← ok.cl, List.take_length] at w6 sh hil
    rw [if_pos sh] at hcv
    rw [show d.causes.take c.C.n = d.causes by rw [← ok.cl, List.take_length]]
    (refine Go.run (g:=?_))
    (first|refine Go.finT (by first|exact .inr rfl|exact .inl rfl) rfl ?_|refine Go.fin1 (by first|exact .inr rfl|exact .inl rfl) rfl (hq:=?_))
    exact ⟨b6, c6, _, 0, rfl, w6.sv, w6.own.mono (by omega), .inl ⟨rfl, hcv⟩, by show (causesB d.causes).length ≤ _; omega⟩
  · (refine Go.run (g:=?_))
    refine Go.loop (α := Nat × Option Addr × Nat × AHeap × Nat) (fun x => [(9, .int .i64 x.1), (1, .pointer (some ⟨h.n, 0, none⟩)), (4, .slice x.2.1 (causesB (d.causes.take x.1)).length x.2.2.1), (5, .int .i64 x.2.2.2.2)]) (fun _ => []) (fun x => x.2.2.2.1)
      (fun x => x.1 ≤ c.C.n ∧ VS h3 x.2.2.2.1 (causesB (d.causes.take x.1)) x.2.1 x.2.2.1 ∧ x.2.2.2.2 = if allShort (d.causes.take x.1) = true then 0 else 3) (fun x => c.C.n - x.1) (0, none, 0, h3, 0) ?_ ?_ rfl rfl ?_
    · exact ⟨Nat.zero_le _, by simpa [causesB] using w0, rfl⟩
    · exact ⟨rfl, rfl, rfl, rfl, trivial⟩
    clear w0
    rintro ⟨i, b6, c6, h6, e6⟩ ⟨hi, w6, he⟩
    simp only at hi w6 he ⊢
    have nn6 := w6.same.1
    have G6 := w6.same.get G3
    have hil := causesB_len (d.causes.take i)
    rw [List.length_take] at hil
    have hcl := ok.cl
    have hcv : cval c d = if allShort d.causes = true then some (causesB d.causes) else none := by unfold cval; rw [hk]; rfl
    by_cases sh : allShort (d.causes.take i) = true
    case neg =>
      rw [if_neg sh] at he
      subst he
      rw [allShort_take (by simpa using sh)] at hcv
      rcases Nat.lt_or_ge i c.C.n with i0 | i0
      all_goals
        (refine Go.run (g:=?_))
        (first|refine Go.finT (by first|exact .inr rfl|exact .inl rfl) rfl ?_|refine Go.fin1 (by first|exact .inr rfl|exact .inl rfl) rfl (hq:=?_))
        exact ⟨b6, c6, _, 3, rfl, w6.sv, w6.own.mono (by omega), .inr ⟨rfl, hcv⟩, by show (causesB (d.causes.take i)).length ≤ _; omega⟩
    rw [if_pos sh] at he
    subst he
    rcases Nat.lt_or_ge i c.C.n with i0 | i0
    · have i1 : i < d.causes.length := by rw [ok.cl]; exact i0
      have c0 := ccs_0 i1
      have c1 := ccs_1 i1
      obtain ⟨hx1, hx2, -⟩ := ok.cb _ (List.getElem_mem i1)
      obtain ⟨-, -, hx3⟩ := ok3.cb _ (List.getElem_mem i1)
      have hbe : i * 2 + 2 ≤ (ccs d.causes).length := by rw [ccs_len]; omega
      have hbe' : i * 2 < (ccs d.causes).length := by rw [ccs_len]; omega
      have hA6 := ok3.cv.same w6.same
      have e1 : causesB (d.causes.take (i + 1)) = causesB (d.causes.take i) ++ pB d.causes[i].k d.causes[i].z := by
        unfold causesB
        rw [flat_snoc _ i1]
      have e2 : (if d.causes[i].z.length ≤ 65531 then 0 else 3) = if allShort (d.causes.take (i + 1)) = true then 0 else 3 := by
        rw [allShort_snoc i1, sh, Bool.true_and]
        by_cases g2 : d.causes[i].z.length ≤ 65531
        · rw [if_pos g2, decide_eq_true g2, if_pos rfl]
        · rw [if_neg g2, decide_eq_false g2]; rfl
      generalize d.causes[i].k = xk at *
      generalize d.causes[i].z = xz at *
      generalize d.causes[i].a = xa at *
      generalize d.causes[i].cap = xc at *
      (iterate 19 (first|refine GoR.end ?_|(refine GoR.gd rfl ?_;first|refine GoR.wanted' rfl rfl rfl rfl (g:=?_)|refine GoR.unwanted' rfl rfl rfl rfl (hd:=rfl) (hN:=rfl) (g:=?_)|refine GoR.unwantedU rfl rfl rfl rfl rfl rfl ?_)|(refine GoR.kk 0 rfl ?_;first|refine GoR.move rfl rfl rfl rfl rfl ?_|refine GoR.assign rfl rfl rfl rfl rfl ?_)|(refine GoR.kk 1 rfl ?_;first|refine GoR.load' rfl rfl rfl rfl rfl (g:=?_)|refine GoR.loadA' rfl rfl rfl rfl rfl (hv:=rfl) (g:=?_)|refine GoR.loadV' rfl rfl rfl rfl rfl (g:=?_)|refine GoR.loadVN' rfl rfl rfl rfl rfl (g:=?_))|(refine GoR.kk 2 rfl ?_;first|refine GoR.store' rfl rfl rfl rfl rfl (hl:=rfl) (h1:=rfl) (h3:=rfl) (g:=?_))|(refine GoR.kk 3 rfl ?_;first|refine GoR.fieldAddr rfl rfl rfl rfl rfl ?_|refine GoR.indexN' rfl rfl rfl rfl rfl rfl (g:=?_)|refine GoR.indexNs' rfl rfl rfl rfl rfl rfl (g:=?_)|refine GoR.indexV' rfl rfl rfl rfl rfl rfl (g:=?_)|refine GoR.indexA' rfl rfl rfl rfl rfl rfl (g:=?_)|refine GoR.fieldV' rfl rfl rfl rfl rfl (g:=?_))|(refine GoR.kk 4 rfl ?_;first|refine GoR.eq rfl rfl rfl rfl rfl rfl ?_|refine GoR.ne rfl rfl rfl rfl rfl rfl ?_|refine GoR.lt rfl rfl rfl rfl rfl rfl ?_|refine GoR.le rfl rfl rfl rfl rfl rfl ?_|refine GoR.gt rfl rfl rfl rfl rfl rfl ?_|refine GoR.ge rfl rfl rfl rfl rfl rfl ?_|refine GoR.addN' rfl rfl rfl rfl rfl rfl (g:=?_)|refine GoR.subN' rfl rfl rfl rfl rfl rfl (g:=?_)|refine GoR.add' rfl rfl rfl rfl rfl rfl (g:=?_)|refine GoR.sub' rfl rfl rfl rfl rfl rfl (g:=?_)|refine GoR.addM' rfl rfl rfl rfl rfl rfl (g:=?_)|refine GoR.subM' rfl rfl rfl rfl rfl rfl (g:=?_)|refine GoR.mulM' rfl rfl rfl rfl rfl rfl (g:=?_)|refine GoR.shrN rfl rfl rfl rfl rfl rfl rfl ?_|refine GoR.structEq rfl rfl rfl rfl rfl rfl (by rfl) (by rfl) ?_|refine GoR.structNe rfl rfl rfl rfl rfl rfl (by rfl) (by rfl) ?_|refine GoR.strEq rfl rfl rfl rfl rfl rfl ?_|refine GoR.strNe rfl rfl rfl rfl rfl rfl ?_|refine GoR.remN' rfl rfl rfl rfl rfl rfl (g:=?_)|refine GoR.quoN' rfl rfl rfl rfl rfl rfl (g:=?_)|refine GoR.shlN' rfl rfl rfl rfl rfl rfl rfl (g:=?_)|refine GoR.orN' rfl rfl rfl rfl rfl rfl (g:=?_))|(refine GoR.kk 5 rfl ?_;first|refine GoR.len rfl rfl rfl rfl rfl ?_|refine GoR.lenStr rfl rfl rfl rfl rfl ?_|refine GoR.capB rfl rfl rfl rfl rfl ?_)|(refine GoR.kk 7 rfl ?_;first|refine GoR.pickE' rfl rfl rfl rfl rfl (hx:=rfl) (hy:=rfl) (g:=?_)|refine GoR.pickN' rfl rfl rfl rfl rfl (hx:=rfl) (hy:=rfl) (g:=?_)|refine GoR.pickB rfl rfl rfl rfl rfl rfl rfl ?_)|(refine GoR.kk 8 rfl ?_;first|refine GoR.boxA rfl rfl rfl rfl rfl ?_|refine GoR.boxS rfl rfl rfl rfl rfl rfl ?_|refine GoR.alloc rfl rfl rfl rfl ?_)|(refine GoR.kk 9 rfl ?_;first|refine GoR.strV' rfl rfl rfl rfl rfl (g:=?_)|refine GoR.conv_u8 rfl rfl rfl rfl rfl ?_|refine GoR.convW' rfl rfl rfl rfl rfl (g:=?_)|refine GoR.conv_u16 rfl rfl rfl rfl rfl ?_|refine GoR.conv_u32 rfl rfl rfl rfl rfl ?_)|(refine GoR.kk 10 rfl ?_;first|refine GoR.build' rfl rfl rfl rfl rfl rfl (g:=?_))|(refine GoR.kk 11 rfl ?_;first|refine GoR.extract rfl rfl rfl rfl rfl rfl ?_|refine GoR.not rfl rfl rfl rfl rfl ?_|refine GoR.nilCheck rfl rfl rfl rfl rfl ?_|refine GoR.nilCheckF rfl rfl rfl rfl rfl ?_|refine GoR.makeFunc rfl rfl rfl rfl rfl rfl ?_)|(refine Go.kk 0 rfl ?_;refine Go.seq ?_)|(refine Go.kk 1 rfl ?_;refine Go.region (by kernel_rfl) rfl ?_)|(refine Go.kk 2 rfl ?_;refine Go.drawnQ rfl (by kernel_rfl) rfl ?_)|(refine Go.kk 3 rfl ?_;first|refine Go.cond_t' rfl (g:=?_)|refine Go.cond_f' rfl (g:=?_))|(refine Go.kk 4 rfl ?_;refine Go.block ?_)|(refine Go.kk 5 rfl ?_;first|refine Go.skip ?_|refine Go.ret ?_|refine Go.exit ?_|refine Go.scope ?_)|refine Go.leave_normal ?_|refine Go.leave_same ?_|refine Go.leave_ret ?_|refine Go.ret_code ?_|refine Go.exit_code ?_|refine Go.leave_other rfl ?_|refine Go.sc_normal ?_|refine Go.sc_ret ?_|refine Go.sc_exit ?_|refine Go.exit_back ?_|refine Go.ret_back ?_))
      refine Go.loud (by kernel_rfl) rfl ?_
      (refine Go.runL (g:=?_))
      refine GoL.call rfl rfl rfl rfl rfl rfl rfl (((rparam_spec _ _ _ _ _ w6 xk hx1 xz hx2 (by omega) xa xc (hx3.same w6.same)).args (by first | rfl | (simp; fail_if_success focus skip) | (simp; omega) | (congr 2; omega))).mono ?_)
      rintro _ hh9 ⟨bb9, cc9, rfl, w9⟩ -
      refine ⟨w6.wr (by omega), ?_⟩
      have nn9 := w9.same.1
      (refine Go.runL (g:=?_))
      refine GoL.end_ (hl := by (simp only [List.nil_append, List.cons_append]); repeat (first | exact loudP.nil | refine loudP.none ?_ | refine loudP.new (fun _ hb => absurd hb List.not_mem_nil) ?_ | refine loudP.row (by repeat (first | exact loudRowP.nil | refine loudRowP.none ?_ | refine loudRowP.bef (by decide +kernel) ?_)) ?_)) ?_
      (refine Go.run (g:=?_))
      exact Go.again (i + 1, bb9, cc9, hh9, _) ⟨by simp only; omega, by simp only; rw [e1]; exact w9, e2⟩ (by simp only; omega) ⟨rfl, rfl, by simp only; rw [e1]; rfl, by show some (Value.int .i64 (if xz.length ≤ 65531 then (0 : Int) else 3)) = some (Value.int .i64 ((if xz.length ≤ 65531 then 0 else 3 : Nat) : Int)); split <;> rfl, trivial⟩ rfl rfl
    have hie : i = c.C.n := by omega
    subst hie
    rw [← ok.cl, List.take_length] at w6 sh hil
    rw [if_pos sh] at hcv
    rw [show d.causes.take c.C.n = d.causes by rw [← ok.cl, List.take_length]]
    (refine Go.run (g:=?_))
    (first|refine Go.finT (by first|exact .inr rfl|exact .inl rfl) rfl ?_|refine Go.fin1 (by first|exact .inr rfl|exact .inl rfl) rfl (hq:=?_))
    exact ⟨b6, c6, _, 0, rfl, w6.sv, w6.own.mono (by omega), .inl ⟨rfl, hcv⟩, by show (causesB d.causes).length ≤ _; omega⟩
  · have hcv : cval c d = some (beB 4 c.tsn) := by unfold cval; rw [hk]; rfl
    (refine Go.run (g:=?_))
    refine GoR.call rfl rfl rfl rfl rfl rfl rfl (((rb_spec c.tsn 4 (by omega) (by decide) _).args (by first | rfl | (simp; fail_if_success focus skip) | (simp; omega) | (congr 2; omega))).mono ?_)
    rintro _ hb1 ⟨bb1, cb1, rfl, vb1, ob1⟩ sb1
    (refine Go.run (g:=?_))
    (first|refine Go.finT (by first|exact .inr rfl|exact .inl rfl) rfl ?_|refine Go.fin1 (by first|exact .inr rfl|exact .inl rfl) rfl (hq:=?_))
    exact ⟨bb1, cb1, _, 0, rfl, vb1, ob1.mono (by omega), .inl ⟨rfl, hcv⟩, by simp [beB_length]⟩
  · have hcv : cval c d = some d.data := by
      unfold cval
      split <;> first | rfl | omega
    (refine Go.run (g:=?_))
    refine GoR.appendV rfl rfl rfl rfl rfl rfl w0.sv (ok3.dv.same w0.same) (w0.wr (by omega)) (by simp; omega) (by simp; omega) (by simp [bv, Value.oneCell']) ?_
    intro bc1 cc1 hc1 vc1 kc1 oc1
    have nc1 := kc1.1
    simp only [List.length_nil, Nat.zero_add] at vc1
    have w1 := w0.append (Same.refl _) vc1 kc1 oc1 (by rw [ok.dl]; simp)
    (refine Go.run (g:=?_))
    (first|refine Go.finT (by first|exact .inr rfl|exact .inl rfl) rfl ?_|refine Go.fin1 (by first|exact .inr rfl|exact .inl rfl) rfl (hq:=?_))
    have hdl := ok.dl
    exact ⟨bc1, cc1, [] ++ d.data, 0, by simp only [List.nil_append, ok.dl, Nat.zero_add]; rfl, w1.sv, w1.own.mono (by omega), .inl ⟨rfl, hcv⟩, by simp; omega⟩
end Go.Proofs.Ytmelgnpogdilgaa

/- lanyardref05: Put, Great: contracts on the abstract heap. No conditions. -/
namespace Go.Proofs.Ytmelgnpogdilgaa
set_option linter.unusedVariables false
set_option maxRecDepth 100000
attribute [local irreducible] Go GoR GoL
set_option maxHeartbeats 8000000 in
theorem crput_spec (c : Ck) (d : CD) (h : AHeap) (ok : COk h c d) (hD : c.D.n ≤ 1000000000) (hC : c.C.n ≤ 1000000) : CallS Try.prog [] 31 [c.v] h fun v h' => PutR h h' v c d := by
  have hmay := rmay_head c ok.f d.gaps ok.gl ok.gb
  have hkk := ok.k
  have hff := ok.f
  unfold PutR
  unfold Ck.v
  (refine CallS.of1 Try.func31 rfl Try.ntmps31 Try.results31 rfl ?_)
  (iterate 5 (first|refine GoR.end ?_|(refine GoR.gd rfl ?_;first|refine GoR.wanted' rfl rfl rfl rfl (g:=?_)|refine GoR.unwanted' rfl rfl rfl rfl (hd:=rfl) (hN:=rfl) (g:=?_)|refine GoR.unwantedU rfl rfl rfl rfl rfl rfl ?_)|(refine GoR.kk 0 rfl ?_;first|refine GoR.move rfl rfl rfl rfl rfl ?_|refine GoR.assign rfl rfl rfl rfl rfl ?_)|(refine GoR.kk 1 rfl ?_;first|refine GoR.load' rfl rfl rfl rfl rfl (g:=?_)|refine GoR.loadA' rfl rfl rfl rfl rfl (hv:=rfl) (g:=?_)|refine GoR.loadV' rfl rfl rfl rfl rfl (g:=?_)|refine GoR.loadVN' rfl rfl rfl rfl rfl (g:=?_))|(refine GoR.kk 2 rfl ?_;first|refine GoR.store' rfl rfl rfl rfl rfl (hl:=rfl) (h1:=rfl) (h3:=rfl) (g:=?_))|(refine GoR.kk 3 rfl ?_;first|refine GoR.fieldAddr rfl rfl rfl rfl rfl ?_|refine GoR.indexN' rfl rfl rfl rfl rfl rfl (g:=?_)|refine GoR.indexNs' rfl rfl rfl rfl rfl rfl (g:=?_)|refine GoR.indexV' rfl rfl rfl rfl rfl rfl (g:=?_)|refine GoR.indexA' rfl rfl rfl rfl rfl rfl (g:=?_)|refine GoR.fieldV' rfl rfl rfl rfl rfl (g:=?_))|(refine GoR.kk 4 rfl ?_;first|refine GoR.eq rfl rfl rfl rfl rfl rfl ?_|refine GoR.ne rfl rfl rfl rfl rfl rfl ?_|refine GoR.lt rfl rfl rfl rfl rfl rfl ?_|refine GoR.le rfl rfl rfl rfl rfl rfl ?_|refine GoR.gt rfl rfl rfl rfl rfl rfl ?_|refine GoR.ge rfl rfl rfl rfl rfl rfl ?_|refine GoR.addN' rfl rfl rfl rfl rfl rfl (g:=?_)|refine GoR.subN' rfl rfl rfl rfl rfl rfl (g:=?_)|refine GoR.add' rfl rfl rfl rfl rfl rfl (g:=?_)|refine GoR.sub' rfl rfl rfl rfl rfl rfl (g:=?_)|refine GoR.addM' rfl rfl rfl rfl rfl rfl (g:=?_)|refine GoR.subM' rfl rfl rfl rfl rfl rfl (g:=?_)|refine GoR.mulM' rfl rfl rfl rfl rfl rfl (g:=?_)|refine GoR.shrN rfl rfl rfl rfl rfl rfl rfl ?_|refine GoR.structEq rfl rfl rfl rfl rfl rfl (by rfl) (by rfl) ?_|refine GoR.structNe rfl rfl rfl rfl rfl rfl (by rfl) (by rfl) ?_|refine GoR.strEq rfl rfl rfl rfl rfl rfl ?_|refine GoR.strNe rfl rfl rfl rfl rfl rfl ?_|refine GoR.remN' rfl rfl rfl rfl rfl rfl (g:=?_)|refine GoR.quoN' rfl rfl rfl rfl rfl rfl (g:=?_)|refine GoR.shlN' rfl rfl rfl rfl rfl rfl rfl (g:=?_)|refine GoR.orN' rfl rfl rfl rfl rfl rfl (g:=?_))|(refine GoR.kk 5 rfl ?_;first|refine GoR.len rfl rfl rfl rfl rfl ?_|refine GoR.lenStr rfl rfl rfl rfl rfl ?_|refine GoR.capB rfl rfl rfl rfl rfl ?_)|(refine GoR.kk 7 rfl ?_;first|refine GoR.pickE' rfl rfl rfl rfl rfl (hx:=rfl) (hy:=rfl) (g:=?_)|refine GoR.pickN' rfl rfl rfl rfl rfl (hx:=rfl) (hy:=rfl) (g:=?_)|refine GoR.pickB rfl rfl rfl rfl rfl rfl rfl ?_)|(refine GoR.kk 8 rfl ?_;first|refine GoR.boxA rfl rfl rfl rfl rfl ?_|refine GoR.boxS rfl rfl rfl rfl rfl rfl ?_|refine GoR.alloc rfl rfl rfl rfl ?_)|(refine GoR.kk 9 rfl ?_;first|refine GoR.strV' rfl rfl rfl rfl rfl (g:=?_)|refine GoR.conv_u8 rfl rfl rfl rfl rfl ?_|refine GoR.convW' rfl rfl rfl rfl rfl (g:=?_)|refine GoR.conv_u16 rfl rfl rfl rfl rfl ?_|refine GoR.conv_u32 rfl rfl rfl rfl rfl ?_)|(refine GoR.kk 10 rfl ?_;first|refine GoR.build' rfl rfl rfl rfl rfl rfl (g:=?_))|(refine GoR.kk 11 rfl ?_;first|refine GoR.extract rfl rfl rfl rfl rfl rfl ?_|refine GoR.not rfl rfl rfl rfl rfl ?_|refine GoR.nilCheck rfl rfl rfl rfl rfl ?_|refine GoR.nilCheckF rfl rfl rfl rfl rfl ?_|refine GoR.makeFunc rfl rfl rfl rfl rfl rfl ?_)|(refine Go.kk 0 rfl ?_;refine Go.seq ?_)|(refine Go.kk 1 rfl ?_;refine Go.region (by kernel_rfl) rfl ?_)|(refine Go.kk 2 rfl ?_;refine Go.drawnQ rfl (by kernel_rfl) rfl ?_)|(refine Go.kk 3 rfl ?_;first|refine Go.cond_t' rfl (g:=?_)|refine Go.cond_f' rfl (g:=?_))|(refine Go.kk 4 rfl ?_;refine Go.block ?_)|(refine Go.kk 5 rfl ?_;first|refine Go.skip ?_|refine Go.ret ?_|refine Go.exit ?_|refine Go.scope ?_)|refine Go.leave_normal ?_|refine Go.leave_same ?_|refine Go.leave_ret ?_|refine Go.ret_code ?_|refine Go.exit_code ?_|refine Go.leave_other rfl ?_|refine Go.sc_normal ?_|refine Go.sc_ret ?_|refine Go.sc_exit ?_|refine Go.exit_back ?_|refine Go.ret_back ?_))
  refine GoR.name ?_
  intro h3 e3
  have G0 : h3.get h.n = some (.cells c.cs 57) := by
    subst e3
    exact AHeap.get_push_same h _
  have n3 : h3.n = h.n + 1 := by subst e3; rfl
  have S3 : Same h h3 := by subst e3; exact (Same.refl h).push _
  clear e3
  unfold Ck.cs at G0
  (refine Go.run (g:=?_))
  have hmay3 := hmay h3 (ok.gv.same S3)
  clear hmay
  cases hm : may c d.gaps
  · rw [hm] at hmay3
    simp only [Bool.false_eq_true, if_false]
    refine GoR.call rfl rfl rfl rfl rfl rfl rfl (((hmay3).args (by first | rfl | (simp; fail_if_success focus skip) | (simp; omega) | (congr 2; omega))).mono ?_)
    rintro _ h4 rfl s4
    (refine Go.run (g:=?_))
    (first|refine Go.finT (by first|exact .inr rfl|exact .inl rfl) rfl ?_|refine Go.fin1 (by first|exact .inr rfl|exact .inl rfl) rfl (hq:=?_))
    rfl
  rw [hm] at hmay3
  simp only [if_true]
  have hmf : MayF c := by
    unfold may at hm
    simp only [Bool.and_eq_true, decide_eq_true_eq] at hm
    exact hm.1
  refine GoR.call rfl rfl rfl rfl rfl rfl rfl (((hmay3).args (by first | rfl | (simp; fail_if_success focus skip) | (simp; omega) | (congr 2; omega))).mono ?_)
  rintro _ h4 rfl s4
  (have nn := (s4).1; try simp only [AHeap.n_push, AHeap.n_put] at nn)
  have ok4 := (ok.same S3).same s4
  have S4 := S3.trans s4
  have G4 := s4.get G0
  clear s4 S3 G0 hmay3
  (refine Go.run (g:=?_))
  refine GoR.call rfl rfl rfl rfl rfl rfl rfl (((rvalue_spec c d h4 ok4 hmf hD hC).args (by first | rfl | (simp; fail_if_success focus skip) | (simp; omega) | (congr 2; omega))).mono ?_)
  rintro _ h5 ⟨b5, c5, x, e, rfl, hb5, ob5, hv, hx⟩ s5
  (have nn := (s5).1; try simp only [AHeap.n_push, AHeap.n_put] at nn)
  have G5 := s5.get G4
  rcases hv with ⟨rfl, hcv⟩ | ⟨rfl, hcv⟩
  · rw [hcv]
    simp only [PutV]
    rcases Nat.lt_or_ge 65531 x.length with g | g
    · simp only [if_neg (show ¬ x.length ≤ 65531 by omega)]
      (refine Go.run (g:=?_))
      refine GoR.call rfl rfl rfl rfl rfl rfl rfl (((rput_err3' true c.k c.f b5 x.length c5 hx (fun _ => by omega) (by simp) g _).args (by first | rfl | (simp; fail_if_success focus skip) | (simp; omega) | (congr 2; omega))).mono ?_)
      rintro _ h7 rfl s7
      (refine Go.run (g:=?_))
      (first|refine Go.finT (by first|exact .inr rfl|exact .inl rfl) rfl ?_|refine Go.fin1 (by first|exact .inr rfl|exact .inl rfl) rfl (hq:=?_))
      rfl
    · simp only [if_pos g]
      (refine Go.run (g:=?_))
      refine GoR.call rfl rfl rfl rfl rfl rfl rfl (((rput_ok true c.k c.f b5 c5 (fun _ => by omega) (by simp) hff (by omega) x g _ (Sv.rv hb5)).args (by first | rfl | (simp; fail_if_success focus skip) | (simp; omega) | (congr 2; omega))).mono ?_)
      rintro _ h7 ⟨b7, c7, rfl, hb7, ob7⟩ s7
      (refine Go.run (g:=?_))
      (first|refine Go.finT (by first|exact .inr rfl|exact .inl rfl) rfl ?_|refine Go.fin1 (by first|exact .inr rfl|exact .inl rfl) rfl (hq:=?_))
      exact ⟨b7, _, rfl, hb7, ob7.mono (by omega)⟩
  · rw [hcv]
    simp only [PutV]
    (refine Go.run (g:=?_))
    (first|refine Go.finT (by first|exact .inr rfl|exact .inl rfl) rfl ?_|refine Go.fin1 (by first|exact .inr rfl|exact .inl rfl) rfl (hq:=?_))
    rfl
set_option maxHeartbeats 8000000 in
theorem great_spec (c : Ck) (d : CD) (h : AHeap) (ok : COk h c d) (hD : c.D.n ≤ 140737488355328) (hA : c.A.n ≤ 140737488355328) (hG : c.G.n ≤ 140737488355328) (hU : c.U.n ≤ 140737488355328) (hC : c.C.n ≤ 140737488355328) : CallS Try.prog [] 29 [c.v] h fun v h' => ∃ t : Bool, v = .bool t ∧ (t = false → c.D.n ≤ 100000 ∧ c.C.n ≤ 5000) := by
  unfold Ck.v
  (refine CallS.of1 Try.func29 rfl Try.ntmps29 Try.results29 rfl ?_)
  (iterate 4 (first|refine GoR.end ?_|(refine GoR.gd rfl ?_;first|refine GoR.wanted' rfl rfl rfl rfl (g:=?_)|refine GoR.unwanted' rfl rfl rfl rfl (hd:=rfl) (hN:=rfl) (g:=?_)|refine GoR.unwantedU rfl rfl rfl rfl rfl rfl ?_)|(refine GoR.kk 0 rfl ?_;first|refine GoR.move rfl rfl rfl rfl rfl ?_|refine GoR.assign rfl rfl rfl rfl rfl ?_)|(refine GoR.kk 1 rfl ?_;first|refine GoR.load' rfl rfl rfl rfl rfl (g:=?_)|refine GoR.loadA' rfl rfl rfl rfl rfl (hv:=rfl) (g:=?_)|refine GoR.loadV' rfl rfl rfl rfl rfl (g:=?_)|refine GoR.loadVN' rfl rfl rfl rfl rfl (g:=?_))|(refine GoR.kk 2 rfl ?_;first|refine GoR.store' rfl rfl rfl rfl rfl (hl:=rfl) (h1:=rfl) (h3:=rfl) (g:=?_))|(refine GoR.kk 3 rfl ?_;first|refine GoR.fieldAddr rfl rfl rfl rfl rfl ?_|refine GoR.indexN' rfl rfl rfl rfl rfl rfl (g:=?_)|refine GoR.indexNs' rfl rfl rfl rfl rfl rfl (g:=?_)|refine GoR.indexV' rfl rfl rfl rfl rfl rfl (g:=?_)|refine GoR.indexA' rfl rfl rfl rfl rfl rfl (g:=?_)|refine GoR.fieldV' rfl rfl rfl rfl rfl (g:=?_))|(refine GoR.kk 4 rfl ?_;first|refine GoR.eq rfl rfl rfl rfl rfl rfl ?_|refine GoR.ne rfl rfl rfl rfl rfl rfl ?_|refine GoR.lt rfl rfl rfl rfl rfl rfl ?_|refine GoR.le rfl rfl rfl rfl rfl rfl ?_|refine GoR.gt rfl rfl rfl rfl rfl rfl ?_|refine GoR.ge rfl rfl rfl rfl rfl rfl ?_|refine GoR.addN' rfl rfl rfl rfl rfl rfl (g:=?_)|refine GoR.subN' rfl rfl rfl rfl rfl rfl (g:=?_)|refine GoR.add' rfl rfl rfl rfl rfl rfl (g:=?_)|refine GoR.sub' rfl rfl rfl rfl rfl rfl (g:=?_)|refine GoR.addM' rfl rfl rfl rfl rfl rfl (g:=?_)|refine GoR.subM' rfl rfl rfl rfl rfl rfl (g:=?_)|refine GoR.mulM' rfl rfl rfl rfl rfl rfl (g:=?_)|refine GoR.shrN rfl rfl rfl rfl rfl rfl rfl ?_|refine GoR.structEq rfl rfl rfl rfl rfl rfl (by rfl) (by rfl) ?_|refine GoR.structNe rfl rfl rfl rfl rfl rfl (by rfl) (by rfl) ?_|refine GoR.strEq rfl rfl rfl rfl rfl rfl ?_|refine GoR.strNe rfl rfl rfl rfl rfl rfl ?_|refine GoR.remN' rfl rfl rfl rfl rfl rfl (g:=?_)|refine GoR.quoN' rfl rfl rfl rfl rfl rfl (g:=?_)|refine GoR.shlN' rfl rfl rfl rfl rfl rfl rfl (g:=?_)|refine GoR.orN' rfl rfl rfl rfl rfl rfl (g:=?_))|(refine GoR.kk 5 rfl ?_;first|refine GoR.len rfl rfl rfl rfl rfl ?_|refine GoR.lenStr rfl rfl rfl rfl rfl ?_|refine GoR.capB rfl rfl rfl rfl rfl ?_)|(refine GoR.kk 7 rfl ?_;first|refine GoR.pickE' rfl rfl rfl rfl rfl (hx:=rfl) (hy:=rfl) (g:=?_)|refine GoR.pickN' rfl rfl rfl rfl rfl (hx:=rfl) (hy:=rfl) (g:=?_)|refine GoR.pickB rfl rfl rfl rfl rfl rfl rfl ?_)|(refine GoR.kk 8 rfl ?_;first|refine GoR.boxA rfl rfl rfl rfl rfl ?_|refine GoR.boxS rfl rfl rfl rfl rfl rfl ?_|refine GoR.alloc rfl rfl rfl rfl ?_)|(refine GoR.kk 9 rfl ?_;first|refine GoR.strV' rfl rfl rfl rfl rfl (g:=?_)|refine GoR.conv_u8 rfl rfl rfl rfl rfl ?_|refine GoR.convW' rfl rfl rfl rfl rfl (g:=?_)|refine GoR.conv_u16 rfl rfl rfl rfl rfl ?_|refine GoR.conv_u32 rfl rfl rfl rfl rfl ?_)|(refine GoR.kk 10 rfl ?_;first|refine GoR.build' rfl rfl rfl rfl rfl rfl (g:=?_))|(refine GoR.kk 11 rfl ?_;first|refine GoR.extract rfl rfl rfl rfl rfl rfl ?_|refine GoR.not rfl rfl rfl rfl rfl ?_|refine GoR.nilCheck rfl rfl rfl rfl rfl ?_|refine GoR.nilCheckF rfl rfl rfl rfl rfl ?_|refine GoR.makeFunc rfl rfl rfl rfl rfl rfl ?_)|(refine Go.kk 0 rfl ?_;refine Go.seq ?_)|(refine Go.kk 1 rfl ?_;refine Go.region (by kernel_rfl) rfl ?_)|(refine Go.kk 2 rfl ?_;refine Go.drawnQ rfl (by kernel_rfl) rfl ?_)|(refine Go.kk 3 rfl ?_;first|refine Go.cond_t' rfl (g:=?_)|refine Go.cond_f' rfl (g:=?_))|(refine Go.kk 4 rfl ?_;refine Go.block ?_)|(refine Go.kk 5 rfl ?_;first|refine Go.skip ?_|refine Go.ret ?_|refine Go.exit ?_|refine Go.scope ?_)|refine Go.leave_normal ?_|refine Go.leave_same ?_|refine Go.leave_ret ?_|refine Go.ret_code ?_|refine Go.exit_code ?_|refine Go.leave_other rfl ?_|refine Go.sc_normal ?_|refine Go.sc_ret ?_|refine Go.sc_exit ?_|refine Go.exit_back ?_|refine Go.ret_back ?_))
  refine GoR.name ?_
  intro h3 e3
  have G0 : h3.get h.n = some (.cells c.cs 57) := by
    subst e3
    exact AHeap.get_push_same h _
  have n3 : h3.n = h.n + 1 := by subst e3; rfl
  have S3 : Same h h3 := by subst e3; exact (Same.refl h).push _
  clear e3
  unfold Ck.cs at G0
  (refine Go.run (g:=?_))
  refine Go.loop (α := Nat × Nat) (fun x => [(4, .int .i64 x.1), (3, .int .i64 x.2), (1, .pointer (some ⟨h.n, 0, none⟩))]) (fun _ => []) (fun x => h3)
    (fun x => x.1 ≤ c.C.n ∧ c.D.n / 16 + c.C.n ≤ x.2 ∧ x.2 ≤ 1000000000000000) (fun x => c.C.n - x.1) (0, c.D.n / 16 + c.A.n + c.G.n + c.U.n + c.C.n) ?_ ?_ rfl rfl ?_
  · exact ⟨Nat.zero_le _, by simp only; omega, by simp only; omega⟩
  · exact ⟨rfl, rfl, rfl, trivial⟩
  rintro ⟨i, s⟩ ⟨hi, h1, h2⟩
  simp only at hi h1 h2 ⊢
  have ok3 := ok.same S3
  rcases Nat.lt_or_ge 5000 s with g | g
  · rcases Nat.lt_or_ge i c.C.n with i0 | i0
    all_goals
      (refine Go.run (g:=?_))
      (first|refine Go.finT (by first|exact .inr rfl|exact .inl rfl) rfl ?_|refine Go.fin1 (by first|exact .inr rfl|exact .inl rfl) rfl (hq:=?_))
      exact ⟨true, by simp [retV]; omega, fun e => by cases e⟩
  rcases Nat.lt_or_ge i c.C.n with i0 | i0
  · have i1 : i < d.causes.length := by rw [ok.cl]; exact i0
    have c1 := ccs_1 i1
    obtain ⟨hx1, hx2, -⟩ := ok.cb _ (List.getElem_mem i1)
    have hbe' : i * 2 < (ccs d.causes).length := by rw [ccs_len]; omega
    have hA6 := ok3.cv
    generalize d.causes[i].z.length = xz at *
    generalize d.causes[i].a = xa at *
    generalize d.causes[i].cap = xc at *
    (refine Go.run (g:=?_))
    exact Go.again (i + 1, s + xz / 16) ⟨by simp only; omega, by simp only; omega, by simp only; omega⟩ (by simp only; omega) ⟨rfl, rfl, rfl, trivial⟩ rfl rfl
  · (refine Go.run (g:=?_))
    (first|refine Go.finT (by first|exact .inr rfl|exact .inl rfl) rfl ?_|refine Go.fin1 (by first|exact .inr rfl|exact .inl rfl) rfl (hq:=?_))
    exact ⟨false, by simp [retV]; omega, fun _ => by omega⟩
end Go.Proofs.Ytmelgnpogdilgaa

/- ChunkPuts on the abstract heap: it answers true. No conditions. -/
namespace Go.Proofs.Ytmelgnpogdilgaa
set_option linter.unusedVariables false
set_option maxRecDepth 100000
attribute [local irreducible] Go GoR GoL
set_option maxHeartbeats 8000000 in
theorem chunkPuts_spec (c : Ck) (d : CD) (h : AHeap) (ok : COk h c d) (hD : c.D.n ≤ 140737488355328) (hA : c.A.n ≤ 140737488355328) (hG : c.G.n ≤ 140737488355328) (hU : c.U.n ≤ 140737488355328) (hC : c.C.n ≤ 140737488355328) : CallS Try.prog [] 9 [c.v] h fun v h' => v = .bool true := by
  have hm1 := may_spec c ok.f d.gaps ok.gl ok.gb
  have hm2 := rmay_head c ok.f d.gaps ok.gl ok.gb
  unfold Ck.v
  (refine CallS.of1 Try.func9 rfl Try.ntmps9 Try.results9 rfl ?_)
  (iterate 4 (first|refine GoR.end ?_|(refine GoR.gd rfl ?_;first|refine GoR.wanted' rfl rfl rfl rfl (g:=?_)|refine GoR.unwanted' rfl rfl rfl rfl (hd:=rfl) (hN:=rfl) (g:=?_)|refine GoR.unwantedU rfl rfl rfl rfl rfl rfl ?_)|(refine GoR.kk 0 rfl ?_;first|refine GoR.move rfl rfl rfl rfl rfl ?_|refine GoR.assign rfl rfl rfl rfl rfl ?_)|(refine GoR.kk 1 rfl ?_;first|refine GoR.load' rfl rfl rfl rfl rfl (g:=?_)|refine GoR.loadA' rfl rfl rfl rfl rfl (hv:=rfl) (g:=?_)|refine GoR.loadV' rfl rfl rfl rfl rfl (g:=?_)|refine GoR.loadVN' rfl rfl rfl rfl rfl (g:=?_))|(refine GoR.kk 2 rfl ?_;first|refine GoR.store' rfl rfl rfl rfl rfl (hl:=rfl) (h1:=rfl) (h3:=rfl) (g:=?_))|(refine GoR.kk 3 rfl ?_;first|refine GoR.fieldAddr rfl rfl rfl rfl rfl ?_|refine GoR.indexN' rfl rfl rfl rfl rfl rfl (g:=?_)|refine GoR.indexNs' rfl rfl rfl rfl rfl rfl (g:=?_)|refine GoR.indexV' rfl rfl rfl rfl rfl rfl (g:=?_)|refine GoR.indexA' rfl rfl rfl rfl rfl rfl (g:=?_)|refine GoR.fieldV' rfl rfl rfl rfl rfl (g:=?_))|(refine GoR.kk 4 rfl ?_;first|refine GoR.eq rfl rfl rfl rfl rfl rfl ?_|refine GoR.ne rfl rfl rfl rfl rfl rfl ?_|refine GoR.lt rfl rfl rfl rfl rfl rfl ?_|refine GoR.le rfl rfl rfl rfl rfl rfl ?_|refine GoR.gt rfl rfl rfl rfl rfl rfl ?_|refine GoR.ge rfl rfl rfl rfl rfl rfl ?_|refine GoR.addN' rfl rfl rfl rfl rfl rfl (g:=?_)|refine GoR.subN' rfl rfl rfl rfl rfl rfl (g:=?_)|refine GoR.add' rfl rfl rfl rfl rfl rfl (g:=?_)|refine GoR.sub' rfl rfl rfl rfl rfl rfl (g:=?_)|refine GoR.addM' rfl rfl rfl rfl rfl rfl (g:=?_)|refine GoR.subM' rfl rfl rfl rfl rfl rfl (g:=?_)|refine GoR.mulM' rfl rfl rfl rfl rfl rfl (g:=?_)|refine GoR.shrN rfl rfl rfl rfl rfl rfl rfl ?_|refine GoR.structEq rfl rfl rfl rfl rfl rfl (by rfl) (by rfl) ?_|refine GoR.structNe rfl rfl rfl rfl rfl rfl (by rfl) (by rfl) ?_|refine GoR.strEq rfl rfl rfl rfl rfl rfl ?_|refine GoR.strNe rfl rfl rfl rfl rfl rfl ?_|refine GoR.remN' rfl rfl rfl rfl rfl rfl (g:=?_)|refine GoR.quoN' rfl rfl rfl rfl rfl rfl (g:=?_)|refine GoR.shlN' rfl rfl rfl rfl rfl rfl rfl (g:=?_)|refine GoR.orN' rfl rfl rfl rfl rfl rfl (g:=?_))|(refine GoR.kk 5 rfl ?_;first|refine GoR.len rfl rfl rfl rfl rfl ?_|refine GoR.lenStr rfl rfl rfl rfl rfl ?_|refine GoR.capB rfl rfl rfl rfl rfl ?_)|(refine GoR.kk 7 rfl ?_;first|refine GoR.pickE' rfl rfl rfl rfl rfl (hx:=rfl) (hy:=rfl) (g:=?_)|refine GoR.pickN' rfl rfl rfl rfl rfl (hx:=rfl) (hy:=rfl) (g:=?_)|refine GoR.pickB rfl rfl rfl rfl rfl rfl rfl ?_)|(refine GoR.kk 8 rfl ?_;first|refine GoR.boxA rfl rfl rfl rfl rfl ?_|refine GoR.boxS rfl rfl rfl rfl rfl rfl ?_|refine GoR.alloc rfl rfl rfl rfl ?_)|(refine GoR.kk 9 rfl ?_;first|refine GoR.strV' rfl rfl rfl rfl rfl (g:=?_)|refine GoR.conv_u8 rfl rfl rfl rfl rfl ?_|refine GoR.convW' rfl rfl rfl rfl rfl (g:=?_)|refine GoR.conv_u16 rfl rfl rfl rfl rfl ?_|refine GoR.conv_u32 rfl rfl rfl rfl rfl ?_)|(refine GoR.kk 10 rfl ?_;first|refine GoR.build' rfl rfl rfl rfl rfl rfl (g:=?_))|(refine GoR.kk 11 rfl ?_;first|refine GoR.extract rfl rfl rfl rfl rfl rfl ?_|refine GoR.not rfl rfl rfl rfl rfl ?_|refine GoR.nilCheck rfl rfl rfl rfl rfl ?_|refine GoR.nilCheckF rfl rfl rfl rfl rfl ?_|refine GoR.makeFunc rfl rfl rfl rfl rfl rfl ?_)|(refine Go.kk 0 rfl ?_;refine Go.seq ?_)|(refine Go.kk 1 rfl ?_;refine Go.region (by kernel_rfl) rfl ?_)|(refine Go.kk 2 rfl ?_;refine Go.drawnQ rfl (by kernel_rfl) rfl ?_)|(refine Go.kk 3 rfl ?_;first|refine Go.cond_t' rfl (g:=?_)|refine Go.cond_f' rfl (g:=?_))|(refine Go.kk 4 rfl ?_;refine Go.block ?_)|(refine Go.kk 5 rfl ?_;first|refine Go.skip ?_|refine Go.ret ?_|refine Go.exit ?_|refine Go.scope ?_)|refine Go.leave_normal ?_|refine Go.leave_same ?_|refine Go.leave_ret ?_|refine Go.ret_code ?_|refine Go.exit_code ?_|refine Go.leave_other rfl ?_|refine Go.sc_normal ?_|refine Go.sc_ret ?_|refine Go.sc_exit ?_|refine Go.exit_back ?_|refine Go.ret_back ?_))
  refine GoR.name ?_
  intro h3 e3
  have G0 : h3.get h.n = some (.cells c.cs 57) := by
    subst e3
    exact AHeap.get_push_same h _
  have n3 : h3.n = h.n + 1 := by subst e3; rfl
  have S3 : Same h h3 := by subst e3; exact (Same.refl h).push _
  clear e3
  unfold Ck.cs at G0
  (refine Go.run (g:=?_))
  refine GoR.call rfl rfl rfl rfl rfl rfl rfl (((known05 _).args (by first | rfl | (simp; fail_if_success focus skip) | (simp; omega) | (congr 2; omega))).mono ?_)
  rintro _ h3' ⟨rfl, rfl⟩ -
  (refine Go.run (g:=?_))
  refine GoR.call rfl rfl rfl rfl rfl rfl rfl (((great_spec c d _ (ok.same S3) hD hA hG hU hC).args (by first | rfl | (simp; fail_if_success focus skip) | (simp; omega) | (congr 2; omega))).mono ?_)
  rintro _ h4 ⟨t, rfl, ht⟩ s4
  (have nn := (s4).1; try simp only [AHeap.n_push, AHeap.n_put] at nn)
  have G4 := s4.get G0
  have S4 := S3.trans s4
  cases t
  case true =>
    (refine Go.run (g:=?_))
    (first|refine Go.finT (by first|exact .inr rfl|exact .inl rfl) rfl ?_|refine Go.fin1 (by first|exact .inr rfl|exact .inl rfl) rfl (hq:=?_))
    rfl
  obtain ⟨hD', hC'⟩ := ht rfl
  clear ht s4 S3 G0
  (refine Go.run (g:=?_))
  refine GoR.call rfl rfl rfl rfl rfl rfl rfl (((cput_spec c d _ (ok.same S4) (by omega) (by omega)).args (by first | rfl | (simp; fail_if_success focus skip) | (simp; omega) | (congr 2; omega))).mono ?_)
  intro v5 h5 hv5 s5
  (have nn := (s5).1; try simp only [AHeap.n_push, AHeap.n_put] at nn)
  have G5 := s5.get G4
  have S5 := S4.trans s5
  have hp2 := crput_spec c d h5 (ok.same S5) (by omega) (by omega)
  unfold PutR at hv5 hp2
  generalize hm : may c d.gaps = m at *
  cases m
  · simp only [Bool.false_eq_true, if_false] at hv5 hp2
    subst hv5
    (refine Go.run (g:=?_))
    refine GoR.call rfl rfl rfl rfl rfl rfl rfl (((hp2).args (by first | rfl | (simp; fail_if_success focus skip) | (simp; omega) | (congr 2; omega))).mono ?_)
    rintro _ h8 rfl s8
    (have nn := (s8).1; try simp only [AHeap.n_push, AHeap.n_put] at nn)
    have GX := s8.get G5
    have SX := S5.trans s8
    (refine Go.run (g:=?_))
    refine GoR.call rfl rfl rfl rfl rfl rfl rfl (((hm1 _ (ok.gv.same SX)).args (by first | rfl | (simp; fail_if_success focus skip) | (simp; omega) | (congr 2; omega))).mono ?_)
    rintro _ h6 rfl s6
    (have nn := (s6).1; try simp only [AHeap.n_push, AHeap.n_put] at nn)
    have G6 := s6.get GX
    (refine Go.run (g:=?_))
    refine GoR.call rfl rfl rfl rfl rfl rfl rfl (((hm2 _ (ok.gv.same (SX.trans s6))).args (by first | rfl | (simp; fail_if_success focus skip) | (simp; omega) | (congr 2; omega))).mono ?_)
    rintro _ h7 rfl s7
    (refine Go.run (g:=?_))
    refine GoR.boolEq rfl rfl rfl rfl rfl rfl boolU5 ?_
    first | rw [show (true == true) = true from rfl] | rw [show (false == false) = true from rfl]
    (refine Go.run (g:=?_))
    refine GoR.strV (zs := []) rfl rfl rfl rfl rfl Rv.nil ?_
    (refine Go.run (g:=?_))
    refine GoR.strV (zs := []) rfl rfl rfl rfl rfl Rv.nil ?_
    (refine Go.run (g:=?_))
    (first|refine Go.finT (by first|exact .inr rfl|exact .inl rfl) rfl ?_|refine Go.fin1 (by first|exact .inr rfl|exact .inl rfl) rfl (hq:=?_))
    rfl
  simp only [if_true] at hv5 hp2
  cases hcv : cval c d with
  | none =>
    rw [hcv] at hv5 hp2
    simp only [PutV] at hv5 hp2
    subst hv5
    (refine Go.run (g:=?_))
    refine GoR.call rfl rfl rfl rfl rfl rfl rfl (((hp2).args (by first | rfl | (simp; fail_if_success focus skip) | (simp; omega) | (congr 2; omega))).mono ?_)
    rintro _ h8 rfl s8
    (have nn := (s8).1; try simp only [AHeap.n_push, AHeap.n_put] at nn)
    have GX := s8.get G5
    have SX := S5.trans s8
    (refine Go.run (g:=?_))
    refine GoR.call rfl rfl rfl rfl rfl rfl rfl (((hm1 _ (ok.gv.same SX)).args (by first | rfl | (simp; fail_if_success focus skip) | (simp; omega) | (congr 2; omega))).mono ?_)
    rintro _ h6 rfl s6
    (have nn := (s6).1; try simp only [AHeap.n_push, AHeap.n_put] at nn)
    have G6 := s6.get GX
    (refine Go.run (g:=?_))
    refine GoR.call rfl rfl rfl rfl rfl rfl rfl (((hm2 _ (ok.gv.same (SX.trans s6))).args (by first | rfl | (simp; fail_if_success focus skip) | (simp; omega) | (congr 2; omega))).mono ?_)
    rintro _ h7 rfl s7
    (refine Go.run (g:=?_))
    refine GoR.boolEq rfl rfl rfl rfl rfl rfl boolU5 ?_
    first | rw [show (true == true) = true from rfl] | rw [show (false == false) = true from rfl]
    (refine Go.run (g:=?_))
    refine GoR.strV (zs := []) rfl rfl rfl rfl rfl Rv.nil ?_
    (refine Go.run (g:=?_))
    refine GoR.strV (zs := []) rfl rfl rfl rfl rfl Rv.nil ?_
    (refine Go.run (g:=?_))
    (first|refine Go.finT (by first|exact .inr rfl|exact .inl rfl) rfl ?_|refine Go.fin1 (by first|exact .inr rfl|exact .inl rfl) rfl (hq:=?_))
    rfl
  | some x =>
    rw [hcv] at hv5 hp2
    simp only [PutV] at hv5 hp2
    by_cases g : x.length ≤ 65531
    · simp only [if_pos g] at hv5 hp2
      generalize tlvB true c.k c.f x = l at *
      obtain ⟨b5, c5, rfl, hb5, ob5⟩ := hv5
      (refine Go.run (g:=?_))
      refine GoR.call rfl rfl rfl rfl rfl rfl rfl (((hp2).args (by first | rfl | (simp; fail_if_success focus skip) | (simp; omega) | (congr 2; omega))).mono ?_)
      rintro _ h8 ⟨b8, c8, rfl, hb8, ob8⟩ s8
      (have nn := (s8).1; try simp only [AHeap.n_push, AHeap.n_put] at nn)
      have GX := s8.get G5
      have SX := S5.trans s8
      have r1 := (hb5.same s8).rv (P := Try.prog)
      have r2 := hb8.rv (P := Try.prog)
      clear hb5 hb8
      (refine Go.run (g:=?_))
      refine GoR.call rfl rfl rfl rfl rfl rfl rfl (((hm1 _ (ok.gv.same SX)).args (by first | rfl | (simp; fail_if_success focus skip) | (simp; omega) | (congr 2; omega))).mono ?_)
      rintro _ h6 rfl s6
      (have nn := (s6).1; try simp only [AHeap.n_push, AHeap.n_put] at nn)
      have G6 := s6.get GX
      have r1' := r1.same s6
      have r2' := r2.same s6
      clear r1 r2
      (refine Go.run (g:=?_))
      refine GoR.call rfl rfl rfl rfl rfl rfl rfl (((hm2 _ (ok.gv.same (SX.trans s6))).args (by first | rfl | (simp; fail_if_success focus skip) | (simp; omega) | (congr 2; omega))).mono ?_)
      rintro _ h7 rfl s7
      have r1 := r1'.same s7
      have r2 := r2'.same s7
      clear r1' r2'
      (refine Go.run (g:=?_))
      refine GoR.boolEq rfl rfl rfl rfl rfl rfl boolU5 ?_
      rw [show (true == true) = true from rfl]
      (refine Go.run (g:=?_))
      (first|refine Go.finT (by first|exact .inr rfl|exact .inl rfl) rfl ?_|refine Go.fin1 (by first|exact .inr rfl|exact .inl rfl) rfl (hq:=?_))
      rfl
    · simp only [if_neg g] at hv5 hp2
      subst hv5
      (refine Go.run (g:=?_))
      refine GoR.call rfl rfl rfl rfl rfl rfl rfl (((hp2).args (by first | rfl | (simp; fail_if_success focus skip) | (simp; omega) | (congr 2; omega))).mono ?_)
      rintro _ h8 rfl s8
      (have nn := (s8).1; try simp only [AHeap.n_push, AHeap.n_put] at nn)
      have GX := s8.get G5
      have SX := S5.trans s8
      (refine Go.run (g:=?_))
      refine GoR.call rfl rfl rfl rfl rfl rfl rfl (((hm1 _ (ok.gv.same SX)).args (by first | rfl | (simp; fail_if_success focus skip) | (simp; omega) | (congr 2; omega))).mono ?_)
      rintro _ h6 rfl s6
      (have nn := (s6).1; try simp only [AHeap.n_push, AHeap.n_put] at nn)
      have G6 := s6.get GX
      (refine Go.run (g:=?_))
      refine GoR.call rfl rfl rfl rfl rfl rfl rfl (((hm2 _ (ok.gv.same (SX.trans s6))).args (by first | rfl | (simp; fail_if_success focus skip) | (simp; omega) | (congr 2; omega))).mono ?_)
      rintro _ h7 rfl s7
      (refine Go.run (g:=?_))
      refine GoR.boolEq rfl rfl rfl rfl rfl rfl boolU5 ?_
      first | rw [show (true == true) = true from rfl] | rw [show (false == false) = true from rfl]
      (refine Go.run (g:=?_))
      refine GoR.strV (zs := []) rfl rfl rfl rfl rfl Rv.nil ?_
      (refine Go.run (g:=?_))
      refine GoR.strV (zs := []) rfl rfl rfl rfl rfl Rv.nil ?_
      (refine Go.run (g:=?_))
      (first|refine Go.finT (by first|exact .inr rfl|exact .inl rfl) rfl ?_|refine Go.fin1 (by first|exact .inr rfl|exact .inl rfl) rfl (hq:=?_))
      rfl
end Go.Proofs.Ytmelgnpogdilgaa

/- Things that come in. No conditions. -/
namespace Go.Proofs.Ytmelgnpogdilgaa
set_option linter.unusedVariables false
theorem u8b : Try.prog.underlying 5 = some (.int .u8) := by kernel_rfl
theorem u16b : Try.prog.underlying 22 = some (.int .u16) := by kernel_rfl
theorem bytesB : Try.prog.underlying 23 = some (.slice 5) := by kernel_rfl
theorem tlv_of {h : AHeap} {H : Type} {cs : List Value} {d : DataW H} (r : ARd Try.prog h 25 cs d) : ∃ (kind flags : Nat) (a : Option Addr) (cap : Nat) (zs : List UInt8), cs = [.int .u16 kind, .int .u8 flags, .slice a zs.length cap] ∧ kind < 65536 ∧ flags < 256 ∧ Rv Try.prog h 1 a zs.length cap (zs.map bv) ∧ cap ≤ maxLen := by
  obtain ⟨hl, hf⟩ := r.field Try.underlying25
  rw [show Try.prog.cellsOf 25 = 3 from by kernel_rfl] at hl
  match cs, hl with
  | [c0, c1, c2], _ =>
    obtain ⟨d0, r0⟩ := hf 0 22 0 1 rfl (by kernel_rfl)
    obtain ⟨d1, r1⟩ := hf 1 5 1 1 rfl (by kernel_rfl)
    obtain ⟨d2, r2⟩ := hf 2 23 2 1 rfl (by kernel_rfl)
    obtain ⟨kind, e0, hk⟩ := r0.u_inv rfl u16b
    obtain ⟨flags, e1, hfl⟩ := r1.u_inv rfl u8b
    obtain ⟨a, cap, zs, e2, hR, hm⟩ := r2.bytes bytesB u8b (by kernel_rfl)
    simp at e0 e1 e2
    subst e0 e1 e2
    exact ⟨kind, flags, a, cap, zs, rfl, hk, hfl, hR, hm⟩
end Go.Proofs.Ytmelgnpogdilgaa

/- Chunks that come in. No conditions. -/
namespace Go.Proofs.Ytmelgnpogdilgaa
set_option linter.unusedVariables false
set_option maxRecDepth 100000
open Go.ChangeShapes Go.WideShapes Go.ChangeAt Go.RowKit
theorem u8W5 : Try.prog.bytesOf 5 = 1 := by kernel_rfl
theorem u32b : Try.prog.underlying 44 = some (.int .u32) := by kernel_rfl
theorem u32sB : Try.prog.underlying 53 = some (.slice 44) := by kernel_rfl
theorem gapsB' : Try.prog.underlying 54 = some (.slice 82) := by kernel_rfl
theorem causesB' : Try.prog.underlying 55 = some (.slice 84) := by kernel_rfl
theorem cells_of {α : Type} {f : α → List Value} {sz : Nat} : ∀ (len : Nat) (c : List Value), c.length = len * sz → (∀ i, i < len → ∃ x, (c.drop (i * sz)).take sz = f x) → ∃ l : List α, l.length = len ∧ c = (l.map f).flatten
  | 0, c, hl, _ => ⟨[], rfl, by simpa using hl⟩
  | n + 1, c, hl, each => by
    obtain ⟨x, e⟩ := each 0 (by omega)
    rw [Nat.zero_mul, List.drop_zero] at e
    obtain ⟨l, i1, i2⟩ := cells_of (f := f) (sz := sz) n (c.drop sz) (by rw [List.length_drop, hl, Nat.add_mul]; omega) fun i hi => by
      have := each (i + 1) (by omega)
      rwa [Nat.add_mul, Nat.one_mul, Nat.add_comm, ← List.drop_drop] at this
    exact ⟨x :: l, by simp [i1], by rw [List.map_cons, List.flatten_cons, ← e, ← i2, List.take_append_drop]⟩

theorem gap_of {h : AHeap} {H : Type} {cs : List Value} {d : DataW H} (r : ARd Try.prog h 82 cs d) : ∃ x : Nat × Nat, cs = gC x ∧ x.1 < 65536 ∧ x.2 < 65536 := by
  obtain ⟨hl, hf⟩ := r.field Try.underlying82
  rw [show Try.prog.cellsOf 82 = 2 from by kernel_rfl] at hl
  match cs, hl with
  | [c0, c1], _ =>
    obtain ⟨d0, r0⟩ := hf 0 22 0 1 rfl (by kernel_rfl)
    obtain ⟨d1, r1⟩ := hf 1 22 1 1 rfl (by kernel_rfl)
    obtain ⟨n, e0, b0⟩ := r0.u_inv rfl u16b
    obtain ⟨k, e1, b1⟩ := r1.u_inv rfl u16b
    simp at e0 e1
    subst e0 e1
    exact ⟨(n, k), rfl, b0, b1⟩
theorem cause_of {h : AHeap} {H : Type} {cs : List Value} {d : DataW H} (r : ARd Try.prog h 84 cs d) (z : Sized Try.prog 84 d) : ∃ x : CV, cs = cvC x ∧ x.k < 65536 ∧ x.z.length ≤ 140737488355328 ∧ Rv Try.prog h 1 x.a x.z.length x.cap (x.z.map bv) := by
  obtain ⟨hl, hf⟩ := r.fieldZ z Try.underlying84
  rw [show Try.prog.cellsOf 84 = 2 from by kernel_rfl] at hl
  match cs, hl with
  | [c0, c1], _ =>
    obtain ⟨d0, r0, -⟩ := hf 0 22 0 1 rfl (by kernel_rfl)
    obtain ⟨d1, r1, z1⟩ := hf 1 23 1 1 rfl (by kernel_rfl)
    obtain ⟨n, e0, b0⟩ := r0.u_inv rfl u16b
    obtain ⟨a, cap, zs, e1, hR, hm, hZ⟩ := r1.bytesZ z1 bytesB u8b (by kernel_rfl) u8W5
    simp at e0 e1
    subst e0 e1
    exact ⟨⟨n, a, cap, zs⟩, rfl, b0, hZ, hR⟩
theorem cells_of' {α : Type} {f : α → List Value} {p : α → Prop} {sz : Nat} (len : Nat) (c : List Value) (hl : c.length = len * sz) (each : ∀ i, i < len → ∃ x, (c.drop (i * sz)).take sz = f x ∧ p x) : ∃ l : List α, l.length = len ∧ c = (l.map f).flatten ∧ ∀ x ∈ l, p x := by
  obtain ⟨l, h1, h2⟩ := cells_of (f := fun x : {x : α // p x} => f x.1) len c hl fun i hi => let ⟨x, a, b⟩ := each i hi; ⟨⟨x, b⟩, a⟩
  refine ⟨l.map (·.1), by simpa using h1, by rw [h2, List.map_map]; rfl, fun x hx => ?_⟩
  obtain ⟨y, hy, rfl⟩ := List.mem_map.1 hx
  exact y.2
theorem w32_of {h : AHeap} {H : Type} {cs : List Value} {d : DataW H} (r : ARd Try.prog h 53 cs d) (z : Sized Try.prog 53 d) : ∃ (s : Sl) (l : List Nat), cs = [.slice s.a s.n s.cap] ∧ l.length = s.n ∧ Rv Try.prog h 1 s.a s.n s.cap (w32s l) ∧ (∀ x ∈ l, x < 4294967296) ∧ s.n ≤ 140737488355328 ∧ s.cap ≤ maxLen := by
  obtain ⟨a, len, cap, c, rfl, hR, hm, hb, hel⟩ := r.slice_invZ z u32sB
  rw [show Try.prog.cellsOf 44 = 1 from by kernel_rfl] at hR hel
  rw [show Try.prog.bytesOf 44 = 4 from by kernel_rfl] at hb
  obtain ⟨l, rfl, rfl, hp⟩ := cells_of' (f := fun n : Nat => [Value.int .u32 (n : Int)]) (p := fun n => n < 4294967296) len c hR.length fun i hi => by
    obtain ⟨d', r, -⟩ := hel i hi
    obtain ⟨n, e0, hn⟩ := r.u_inv rfl u32b
    exact ⟨n, e0, hn⟩
  have e : ((l.map fun n : Nat => [Value.int .u32 (n : Int)]).flatten) = w32s l := by
    clear hR hel hp hb hm r z
    induction l with
    | nil => rfl
    | cons x l ih => simp only [w32s, List.map_cons, List.flatten_cons, List.cons_append, List.nil_append] at ih ⊢; rw [ih]
  rw [e] at hR
  exact ⟨⟨a, l.length, cap⟩, l, rfl, rfl, hR, hp, Nat.le_trans (Nat.le_mul_of_pos_right _ (by decide)) (Nat.le_trans hb (by have := reachBytes_lt; omega)), hm⟩
theorem gaps_of {h : AHeap} {H : Type} {cs : List Value} {d : DataW H} (r : ARd Try.prog h 54 cs d) (z : Sized Try.prog 54 d) : ∃ (s : Sl) (l : List (Nat × Nat)), cs = [.slice s.a s.n s.cap] ∧ l.length = s.n ∧ Rv Try.prog h 2 s.a s.n s.cap (gcs l) ∧ (∀ x ∈ l, x.1 < 65536 ∧ x.2 < 65536) ∧ s.n ≤ 140737488355328 ∧ s.cap ≤ maxLen := by
  obtain ⟨a, len, cap, c, rfl, hR, hm, hb, hel⟩ := r.slice_invZ z gapsB'
  rw [show Try.prog.cellsOf 82 = 2 from by kernel_rfl] at hR hel
  rw [show Try.prog.bytesOf 82 = 4 from by kernel_rfl] at hb
  obtain ⟨l, rfl, rfl, hp⟩ := cells_of' (f := gC) (p := fun x => x.1 < 65536 ∧ x.2 < 65536) len c hR.length fun i hi => by
    obtain ⟨d', r, -⟩ := hel i hi
    exact gap_of r
  exact ⟨⟨a, l.length, cap⟩, l, rfl, rfl, hR, hp, Nat.le_trans (Nat.le_mul_of_pos_right _ (by decide)) (Nat.le_trans hb (by have := reachBytes_lt; omega)), hm⟩
theorem causes_of {h : AHeap} {H : Type} {cs : List Value} {d : DataW H} (r : ARd Try.prog h 55 cs d) (z : Sized Try.prog 55 d) : ∃ (s : Sl) (l : List CV), cs = [.slice s.a s.n s.cap] ∧ l.length = s.n ∧ Rv Try.prog h 2 s.a s.n s.cap (ccs l) ∧ (∀ x ∈ l, x.k < 65536 ∧ x.z.length ≤ 140737488355328 ∧ Rv Try.prog h 1 x.a x.z.length x.cap (x.z.map bv)) ∧ s.n ≤ 140737488355328 ∧ s.cap ≤ maxLen := by
  obtain ⟨a, len, cap, c, rfl, hR, hm, hb, hel⟩ := r.slice_invZ z causesB'
  rw [show Try.prog.cellsOf 84 = 2 from by kernel_rfl] at hR hel
  rw [show Try.prog.bytesOf 84 = 32 from by kernel_rfl] at hb
  obtain ⟨l, rfl, rfl, hp⟩ := cells_of' (f := cvC) (p := fun x => x.k < 65536 ∧ x.z.length ≤ 140737488355328 ∧ Rv Try.prog h 1 x.a x.z.length x.cap (x.z.map bv)) len c hR.length fun i hi => by
    obtain ⟨d', r, z'⟩ := hel i hi
    exact cause_of r z'
  exact ⟨⟨a, l.length, cap⟩, l, rfl, rfl, hR, hp, Nat.le_trans (Nat.le_mul_of_pos_right _ (by decide)) (Nat.le_trans hb (by have := reachBytes_lt; omega)), hm⟩
set_option maxHeartbeats 4000000 in
theorem chunk_of {h : AHeap} {H : Type} {cs : List Value} {d : DataW H} (r : ARd Try.prog h 57 cs d) (z : Sized Try.prog 57 d) : ∃ (c : Ck) (x : CD), cs = c.cs ∧ COk h c x ∧ c.D.n ≤ 140737488355328 ∧ c.A.n ≤ 140737488355328 ∧ c.G.n ≤ 140737488355328 ∧ c.U.n ≤ 140737488355328 ∧ c.C.n ≤ 140737488355328 := by
  obtain ⟨hl, hf⟩ := r.fieldZ z Try.underlying57
  rw [show Try.prog.cellsOf 57 = 15 from by kernel_rfl] at hl
  match cs, hl with
  | [c0, c1, c2, c3, c4, c5, c6, c7, c8, c9, c10, c11, c12, c13, c14], _ =>
    obtain ⟨d0, r0, -⟩ := hf 0 5 0 1 rfl (by kernel_rfl)
    obtain ⟨n0, e0, b0⟩ := r0.u_inv rfl u8b
    obtain ⟨d1, r1, -⟩ := hf 1 5 1 1 rfl (by kernel_rfl)
    obtain ⟨n1, e1, b1⟩ := r1.u_inv rfl u8b
    obtain ⟨d2, r2, -⟩ := hf 2 44 2 1 rfl (by kernel_rfl)
    obtain ⟨n2, e2, b2⟩ := r2.u_inv rfl u32b
    obtain ⟨d3, r3, -⟩ := hf 3 44 3 1 rfl (by kernel_rfl)
    obtain ⟨n3, e3, b3⟩ := r3.u_inv rfl u32b
    obtain ⟨d4, r4, -⟩ := hf 4 44 4 1 rfl (by kernel_rfl)
    obtain ⟨n4, e4, b4⟩ := r4.u_inv rfl u32b
    obtain ⟨d5, r5, -⟩ := hf 5 22 5 1 rfl (by kernel_rfl)
    obtain ⟨n5, e5, b5⟩ := r5.u_inv rfl u16b
    obtain ⟨d6, r6, -⟩ := hf 6 22 6 1 rfl (by kernel_rfl)
    obtain ⟨n6, e6, b6⟩ := r6.u_inv rfl u16b
    obtain ⟨d7, r7, -⟩ := hf 7 22 7 1 rfl (by kernel_rfl)
    obtain ⟨n7, e7, b7⟩ := r7.u_inv rfl u16b
    obtain ⟨d8, r8, -⟩ := hf 8 22 8 1 rfl (by kernel_rfl)
    obtain ⟨n8, e8, b8⟩ := r8.u_inv rfl u16b
    obtain ⟨d9, r9, -⟩ := hf 9 44 9 1 rfl (by kernel_rfl)
    obtain ⟨n9, e9, b9⟩ := r9.u_inv rfl u32b
    obtain ⟨d10, r10, z10⟩ := hf 10 23 10 1 rfl (by kernel_rfl)
    obtain ⟨a, cap, zs, e10, hR, hm, hZ⟩ := r10.bytesZ z10 bytesB u8b (by kernel_rfl) u8W5
    obtain ⟨d11, r11, z11⟩ := hf 11 53 11 1 rfl (by kernel_rfl)
    obtain ⟨sA, lA, e11, l11, v11, b11, n11, m11⟩ := w32_of r11 z11
    obtain ⟨d12, r12, z12⟩ := hf 12 54 12 1 rfl (by kernel_rfl)
    obtain ⟨sG, lG, e12, l12, v12, b12, n12, m12⟩ := gaps_of r12 z12
    obtain ⟨d13, r13, z13⟩ := hf 13 53 13 1 rfl (by kernel_rfl)
    obtain ⟨sU, lU, e13, l13, v13, b13, n13, m13⟩ := w32_of r13 z13
    obtain ⟨d14, r14, z14⟩ := hf 14 55 14 1 rfl (by kernel_rfl)
    obtain ⟨sC, lC, e14, l14, v14, b14, n14, m14⟩ := causes_of r14 z14
    simp at e0 e1 e2 e3 e4 e5 e6 e7 e8 e9 e10 e11 e12 e13 e14
    subst e0 e1 e2 e3 e4 e5 e6 e7 e8 e9 e10 e11 e12 e13 e14
    exact ⟨⟨n0, n1, n2, n3, n4, n5, n6, n7, n8, n9, ⟨a, zs.length, cap⟩, sA, sG, sU, sC⟩, ⟨zs, lA, lG, lU, lC⟩, rfl, ⟨b0, b1, b2, b3, b4, b5, b6, b7, b8, b9, rfl, hR, l11, v11, b11, l12, v12, b12, l13, v13, b13, l14, v14, b14⟩, hZ, n11, n12, n13, n14⟩
theorem plainChunk : plainB Try.prog 6 57 = true := by kernel_rfl
end Go.Proofs.Ytmelgnpogdilgaa

/- ChunkPuts: the walk: the law returns true and turns nothing that was there. -/
namespace Go.Proofs.Ytmelgnpogdilgaa
set_option linter.unusedVariables false
open Go.ChangeShapes Go.WideShapes Go.ChangeAt Go.RowKit
set_option maxRecDepth 100000
theorem chunkPutsWalk {H : Type} {enc : TypeId × Value → H} {base : Nat} {d0 : DataW H} {p0 : List MemPlace} (v0 : Value) (W : World) (o0 : Value.okWide Try.prog W .any base 57 v0) (h0 : DataW.Trod enc Try.prog W 0 (fun _ => true) true 57 v0 d0 p0) (z0 : Sized Try.prog 57 d0) : Calls Try.prog 9 #[v0] W fun e w' => e = .returned (.bool true) ∧ Below W.heap.size W w' := by
  obtain ⟨c1, rfl, hsz⟩ := okWide_struct Try.underlying57 o0
  obtain ⟨m, h, cs, I, _, _, hA, hR, hl⟩ := imp_val plainChunk h0 (Im.empty Try.prog W)
  have hv := vrel_agg hA
  obtain ⟨c, d, rfl, ok, n1, n2, n3, n4, n5⟩ := chunk_of hR z0
  exact calls_imp noGlobals I rfl (chunkPuts_spec c d h ok n1 n2 n3 n4 n5) (ARel.single hv)
end Go.Proofs.Ytmelgnpogdilgaa
