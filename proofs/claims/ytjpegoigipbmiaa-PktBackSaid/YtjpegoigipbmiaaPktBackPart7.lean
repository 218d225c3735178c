/- What the law leans on, part 7. No conditions. -/
import Derived.Test.YtjpegoigipbmiaaPktBackPart6
set_option linter.unusedVariables false
set_option linter.unusedSimpArgs false
namespace Go.Proofs.Ytjpegoigipbmiaa
def num (zs : List UInt8) (n : Nat) : Nat := if n ≤ zs.length then beNum (zs.take n) else 0
def left (zs : List UInt8) (n : Nat) : List UInt8 := if n ≤ zs.length then zs.drop n else zs
def short (zs : List UInt8) (n : Nat) : Bool := decide (zs.length < n)
theorem num_le {zs : List UInt8} {n : Nat} (h : n ≤ zs.length) : num zs n = beNum (zs.take n) := if_pos h
theorem left_le {zs : List UInt8} {n : Nat} (h : n ≤ zs.length) : left zs n = zs.drop n := if_pos h
theorem short_le {zs : List UInt8} {n : Nat} (h : n ≤ zs.length) : short zs n = false := decide_eq_false (by omega)
theorem num_lt4 (zs : List UInt8) : num zs 4 < 4294967296 := by
  unfold num; split
  · exact beNum_lt_of (k := 4) (by simp; omega) rfl
  · decide
theorem num_lt2 (zs : List UInt8) : num zs 2 < 65536 := by
  unfold num; split
  · exact beNum_lt_of (k := 2) (by simp; omega) rfl
  · decide
theorem left_len (zs : List UInt8) (n : Nat) : (left zs n).length ≤ zs.length := by unfold left; split <;> simp <;> omega
structure PC where
  k : Nat
  f : Nat
  tag : Nat
  rwnd : Nat
  tsn : Nat
  out : Nat
  inn : Nat
  sid : Nat
  ssn : Nat
  ppid : Nat
  data : List UInt8
  addrs : List Nat
  gaps : List (Nat × Nat)
  dups : List Nat
  causes : List (Nat × List UInt8)
def pcOf (c : Ck) (d : CD) : PC := ⟨c.k, c.f, c.tag, c.rwnd, c.tsn, c.out, c.inn, c.sid, c.ssn, c.ppid, d.data, d.addrs, d.gaps, d.dups, d.causes.map fun x => (x.k, x.z)⟩
def ckOf (p : PC) : Ck := ⟨p.k, p.f, p.tag, p.rwnd, p.tsn, p.out, p.inn, p.sid, p.ssn, p.ppid, ⟨none, p.data.length, 0⟩, ⟨none, p.addrs.length, 0⟩, ⟨none, p.gaps.length, 0⟩, ⟨none, p.dups.length, 0⟩, ⟨none, p.causes.length, 0⟩⟩
def mayP (p : PC) : Bool := may (ckOf p) p.gaps
theorem mayP_of {h : AHeap} {c : Ck} {d : CD} (ok : COk h c d) : mayP (pcOf c d) = may c d.gaps := by
  have e1 := rmay_eq c ok.f
  have e2 := rmay_eq (ckOf (pcOf c d)) ok.f
  have hs : SameB (ckOf (pcOf c d)) (cl (ckOf (pcOf c d))) ↔ SameB c (cl c) := by
    rw [← decide_eq_decide, ← e1, ← e2]
    simp only [ckOf, pcOf, ok.dl, ok.al, ok.gl, ok.ul, List.length_map, ok.cl]
  unfold mayP may
  congr 1
  rw [decide_eq_decide]
  unfold MayF
  rw [hs]
  simp only [ckOf, pcOf, ok.dl, ok.al, ok.gl, ok.ul]
def PC.z (k f : Nat) : PC := ⟨k, f, 0, 0, 0, 0, 0, 0, 0, 0, [], [], [], [], []⟩
def pgo (kind : Nat) (well : Bool) : List Thing → List Nat → List UInt8 → Nat → Option (List Nat × List UInt8)
  | [], A, D, _ => if well then some (A, D) else none
  | (k, _, z) :: l, A, D, n =>
    if k = 5 then (if z.length = 4 ∧ A.length ≠ 3 then pgo kind well l (A ++ [beNum z]) D n else none)
    else if k = 7 then (if kind = 1 ∨ n ≠ 0 ∨ z.length = 0 then none else pgo kind well l A z (n + 1))
    else if k < 32768 then some (A, D) else pgo kind well l A D n
def nAt (zs : List UInt8) (at_ n : Nat) : Nat := beNum ((zs.drop at_).take n)
def gapsAt (zs : List UInt8) (n : Nat) : List (Nat × Nat) := (List.range n).map fun i => (nAt zs (4 * i) 2, nAt zs (4 * i + 2) 2)
def dupsAt (zs : List UInt8) (n : Nat) : List Nat := (List.range n).map fun i => nAt zs (4 * i) 4
def rawP (k f : Nat) (zs : List UInt8) : Option PC :=
  match k with
  | 0 => if 12 ≤ zs.length then some { PC.z k f with tsn := nAt zs 0 4, sid := nAt zs 4 2, ssn := nAt zs 6 2, ppid := nAt zs 8 4, data := zs.drop 12 } else none
  | 1 => if 16 ≤ zs.length then (pgo k (parse false (zs.drop 16)).2 (parse false (zs.drop 16)).1 [] [] 0).map fun x => { PC.z k f with tag := nAt zs 0 4, rwnd := nAt zs 4 4, out := nAt zs 8 2, inn := nAt zs 10 2, tsn := nAt zs 12 4, addrs := x.1, data := x.2 } else none
  | 2 => if 16 ≤ zs.length then (pgo k (parse false (zs.drop 16)).2 (parse false (zs.drop 16)).1 [] [] 0).map fun x => { PC.z k f with tag := nAt zs 0 4, rwnd := nAt zs 4 4, out := nAt zs 8 2, inn := nAt zs 10 2, tsn := nAt zs 12 4, addrs := x.1, data := x.2 } else none
  | 3 => if 12 ≤ zs.length ∧ zs.length = 12 + 4 * nAt zs 8 2 + 4 * nAt zs 10 2 then some { PC.z k f with tsn := nAt zs 0 4, rwnd := nAt zs 4 4, gaps := gapsAt (zs.drop 12) (nAt zs 8 2), dups := dupsAt (zs.drop (12 + 4 * nAt zs 8 2)) (nAt zs 10 2) } else none
  | 6 => if (parse false zs).2 = true then some { PC.z k f with causes := (parse false zs).1.map fun x => (x.1, x.2.2) } else none
  | 9 => if (parse false zs).2 = true then some { PC.z k f with causes := (parse false zs).1.map fun x => (x.1, x.2.2) } else none
  | 7 => if zs.length = 4 then some { PC.z k f with tsn := nAt zs 0 4 } else none
  | 8 => if zs.length = 0 then some (PC.z k f) else none
  | 11 => if zs.length = 0 then some (PC.z k f) else none
  | 14 => if zs.length = 0 then some (PC.z k f) else none
  | _ => some { PC.z k f with data := zs }
def tkP (kind f : Nat) (zs : List UInt8) : Option PC := if 255 < kind then none else (rawP kind f zs).filter mayP
def TakeR (h' : AHeap) (v : Value) (r : Option PC) : Prop := match r with
  | none => v = .tuple #[(Ck.none 0).v, .int .i64 50]
  | some p => ∃ c d, v = .tuple #[c.v, .int .i64 0] ∧ COk h' c d ∧ pcOf c d = p
def gapsR : Nat → List UInt8 → Bool → List (Nat × Nat) × List UInt8 × Bool
  | 0, zs, bad => ([], zs, bad)
  | n + 1, zs, bad =>
    let r := gapsR n zs bad
    (r.1 ++ [(num r.2.1 2, num (left r.2.1 2) 2)], left (left r.2.1 2) 2, r.2.2 || short r.2.1 2 || short (left r.2.1 2) 2)
def dupsR : Nat → List UInt8 → Bool → List Nat × List UInt8 × Bool
  | 0, zs, bad => ([], zs, bad)
  | n + 1, zs, bad =>
    let r := dupsR n zs bad
    (r.1 ++ [num r.2.1 4], left r.2.1 4, r.2.2 || short r.2.1 4)
theorem gapsR_len (n : Nat) (zs : List UInt8) (bad : Bool) : (gapsR n zs bad).1.length = n := by
  induction n with
  | zero => rfl
  | succ n ih => simp [gapsR, ih]
theorem dupsR_len (n : Nat) (zs : List UInt8) (bad : Bool) : (dupsR n zs bad).1.length = n := by
  induction n with
  | zero => rfl
  | succ n ih => simp [dupsR, ih]
theorem gapsR_rest (n : Nat) (zs : List UInt8) (bad : Bool) : (gapsR n zs bad).2.1.length ≤ zs.length := by
  induction n with
  | zero => exact Nat.le_refl _
  | succ n ih => exact Nat.le_trans (left_len _ _) (Nat.le_trans (left_len _ _) ih)
theorem dupsR_rest (n : Nat) (zs : List UInt8) (bad : Bool) : (dupsR n zs bad).2.1.length ≤ zs.length := by
  induction n with
  | zero => exact Nat.le_refl _
  | succ n ih => exact Nat.le_trans (left_len _ _) ih
theorem gapsR_good (zs : List UInt8) (bad : Bool) (n : Nat) (h : 4 * n ≤ zs.length) : gapsR n zs bad = (gapsAt zs n, zs.drop (4 * n), bad) := by
  induction n with
  | zero => rfl
  | succ n ih =>
    have hl : (zs.drop (4 * n)).length = zs.length - 4 * n := List.length_drop
    simp only [gapsR, ih (by omega)]
    have h1 : 2 ≤ (zs.drop (4 * n)).length := by omega
    rw [num_le h1, left_le h1, short_le h1]
    have h2 : 2 ≤ ((zs.drop (4 * n)).drop 2).length := by rw [List.length_drop]; omega
    rw [num_le h2, left_le h2, short_le h2]
    simp only [List.drop_drop, Bool.or_false, gapsAt, List.range_succ, List.map_append, List.map_cons, List.map_nil, nAt]
    rw [show 4 * n + (2 + 2) = 4 * (n + 1) from by omega]
theorem dupsR_good (zs : List UInt8) (bad : Bool) (n : Nat) (h : 4 * n ≤ zs.length) : dupsR n zs bad = (dupsAt zs n, zs.drop (4 * n), bad) := by
  induction n with
  | zero => rfl
  | succ n ih =>
    have hl : (zs.drop (4 * n)).length = zs.length - 4 * n := List.length_drop
    simp only [dupsR, ih (by omega)]
    have h1 : 4 ≤ (zs.drop (4 * n)).length := by omega
    rw [num_le h1, left_le h1, short_le h1]
    simp only [List.drop_drop, Bool.or_false, dupsAt, List.range_succ, List.map_append, List.map_cons, List.map_nil, nAt]
    rw [show 4 * n + 4 = 4 * (n + 1) from by omega]
theorem gapsR_true (n : Nat) (zs : List UInt8) : (gapsR n zs true).2.2 = true := by
  induction n with
  | zero => rfl
  | succ n ih => simp [gapsR, ih]
theorem dupsR_true (n : Nat) (zs : List UInt8) : (dupsR n zs true).2.2 = true := by
  induction n with
  | zero => rfl
  | succ n ih => simp [dupsR, ih]
theorem gapsR_bad (zs : List UInt8) (bad : Bool) (n : Nat) (h : zs.length < 4 * n) : (gapsR n zs bad).2.2 = true := by
  induction n with
  | zero => omega
  | succ n ih =>
    simp only [gapsR]
    rcases Nat.lt_or_ge zs.length (4 * n) with g | g
    · rw [ih g]; simp
    · rw [gapsR_good zs bad n g]
      have hl : (zs.drop (4 * n)).length = zs.length - 4 * n := List.length_drop
      rcases Nat.lt_or_ge (zs.drop (4 * n)).length 2 with q | q
      · simp [short, hl]; omega
      · simp [short, left_le q]; omega
theorem dupsR_bad (zs : List UInt8) (bad : Bool) (n : Nat) (h : zs.length < 4 * n) : (dupsR n zs bad).2.2 = true := by
  induction n with
  | zero => omega
  | succ n ih =>
    simp only [dupsR]
    rcases Nat.lt_or_ge zs.length (4 * n) with g | g
    · rw [ih g]; simp
    · rw [dupsR_good zs bad n g]
      have hl : (zs.drop (4 * n)).length = zs.length - 4 * n := List.length_drop
      simp [short, hl]; omega
end Go.Proofs.Ytjpegoigipbmiaa
namespace Go.Proofs.Ytjpegoigipbmiaa
set_option maxRecDepth 100000
attribute [local irreducible] Go GoR GoL
structure RS (h : AHeap) (p : Nat) (a : Option Addr) (cap : Nat) (zs : List UInt8) (bad : Bool) : Prop where
  g : h.get p = some (.cells [.slice a zs.length cap, .bool bad] 89)
  rv : Rv Try.prog h 1 a zs.length cap (zs.map bv)
  out : p ∉ blk a
theorem RS.same {h h' : AHeap} {p : Nat} {a : Option Addr} {cap : Nat} {zs : List UInt8} {bad : Bool} (r : RS h p a cap zs bad) (s : Same h h') : RS h' p a cap zs bad := ⟨s.get r.g, r.rv.same s, r.out⟩
theorem RS.keeps {wr : List Nat} {h h' : AHeap} {p : Nat} {a : Option Addr} {cap : Nat} {zs : List UInt8} {bad : Bool} (r : RS h p a cap zs bad) (k : Keeps wr h h') (h1 : p ∉ wr) (h2 : ∀ i ∈ blk a, i ∉ wr) : RS h' p a cap zs bad := ⟨k.get r.g h1, r.rv.keeps k h2, r.out⟩
set_option maxHeartbeats 4000000 in
theorem rnum_spec (h : AHeap) (p : Nat) (a : Option Addr) (cap : Nat) (zs : List UInt8) (bad : Bool) (r : RS h p a cap zs bad) (n : Nat) (hn : n ≤ 4) (hl : zs.length ≤ 1000000) : CallS Try.prog [p] 80 [.pointer (some ⟨p, 0, none⟩), .int .i64 n] h fun v h' => ∃ a' cap', v = .int .u32 (num zs n) ∧ RS h' p a' cap' (left zs n) (bad || short zs n) ∧ ∀ i ∈ blk a', i ∈ blk a := by
  have gr := r.g
  have rv := r.rv
  have hW : p ∈ [p] ∨ h.n ≤ p := .inl (List.mem_singleton.2 rfl)
  rcases Nat.lt_or_ge zs.length n with g | g
  · (refine CallS.of2 Try.func80 rfl Try.ntmps80 Try.results80 rfl ?_)
    (refine Go.run (g:=?_))
    (first|refine Go.finT (by first|exact .inr rfl|exact .inl rfl) rfl ?_|refine Go.fin1 (by first|exact .inr rfl|exact .inl rfl) rfl (hq:=?_))
    refine ⟨a, cap, by rw [num, if_neg (by omega)]; rfl, ?_, fun i hi => hi⟩
    rw [left, if_neg (by omega), short, decide_eq_true g, Bool.or_true]
    exact ⟨get_put_self gr, rv.put r.out _, r.out⟩
  · have hlen : (zs.take n).length = n := by simp; omega
    rw [num_le g, left_le g, short_le g, Bool.or_false]
    (refine CallS.of2 Try.func80 rfl Try.ntmps80 Try.results80 rfl ?_)
    (refine Go.run (g:=?_))
    refine GoR.bHi (r := n) rfl rfl rfl rfl rfl rfl rv (by omega) ?_
    intro a2 hz2 hb2
    (refine Go.run (g:=?_))
    generalize hys : zs.take n = ys at *
    refine Go.loop (α := Nat) (fun k => [(25, .int .i64 k), (5, .int .u32 (beNum (ys.take k) : Nat)), (24, .int .i64 n), (23, .slice a2 n cap), (0, .pointer (some ⟨p, 0, none⟩)), (1, .int .i64 n)]) (fun _ => []) (fun _ => h) (fun k => k ≤ n) (fun k => n - k) 0 (Nat.zero_le _) ⟨rfl, rfl, rfl, rfl, rfl, rfl, trivial⟩ rfl rfl ?_
    rintro k hk
    rcases Nat.lt_or_ge k n with hlt | hge
    · have hcell := byte_at (zs := ys) (k := k) (by omega)
      have hst := beNum_snoc (ys.take k) (ys[k]'(by omega))
      rw [← List.take_succ_eq_append_getElem (by omega)] at hst
      have hr : beNum (ys.take k) < 16777216 := beNum_lt_of (k := 3) (by simp; omega) rfl
      have hcb := (ys[k]'(by omega)).toNat_lt
      generalize beNum (ys.take k) = r at *
      generalize (ys[k]'(by omega)).toNat = c at *
      (refine Go.run (g:=?_))
      refine Go.again (k + 1) hlt (by omega) ⟨rfl, ?_, rfl, rfl, rfl, rfl, trivial⟩ rfl rfl
      rw [hst, ← or_byte r c hcb]
      rfl
    · obtain rfl : k = n := by omega
      have ht : ys.take k = ys := List.take_of_length_le (by omega)
      rw [ht]
      (refine Go.run (g:=?_))
      refine GoR.bLo (l := k) rfl rfl rfl rfl rfl rfl rv (by omega) ?_
      intro a3 hz3 hb3
      rw [List.take_of_length_le (by simp)] at hz3
      (refine Go.run (g:=?_))
      (first|refine Go.finT (by first|exact .inr rfl|exact .inl rfl) rfl ?_|refine Go.fin1 (by first|exact .inr rfl|exact .inl rfl) rfl (hq:=?_))
      refine ⟨a3, cap - k, rfl, ⟨?_, ?_, fun hi => r.out (hb3 _ hi)⟩, hb3⟩
      · rw [List.length_drop]; exact get_put_self gr
      · rw [List.length_drop]; exact hz3.put (fun hi => r.out (hb3 _ hi)) _
theorem ru32_spec (h : AHeap) (p : Nat) (a : Option Addr) (cap : Nat) (zs : List UInt8) (bad : Bool) (r : RS h p a cap zs bad) (hl : zs.length ≤ 1000000) : CallS Try.prog [p] 57 [.pointer (some ⟨p, 0, none⟩)] h fun v h' => ∃ a' cap', v = .int .u32 (num zs 4) ∧ RS h' p a' cap' (left zs 4) (bad || short zs 4) ∧ ∀ i ∈ blk a', i ∈ blk a := by
  (refine CallS.of1 Try.func57 rfl Try.ntmps57 Try.results57 rfl ?_)
  (refine Go.run (g:=?_))
  refine GoR.callW rfl rfl rfl rfl rfl rfl rfl (((rnum_spec _ _ _ _ _ _ r 4 (by decide) hl).argA).mono ?_)
  rintro _ h1 ⟨a', c', rfl, r', hb⟩ -
  refine ⟨fun i hi => .inl hi, ?_⟩
  (refine Go.run (g:=?_))
  (first|refine Go.finT (by first|exact .inr rfl|exact .inl rfl) rfl ?_|refine Go.fin1 (by first|exact .inr rfl|exact .inl rfl) rfl (hq:=?_))
  exact ⟨a', c', rfl, r', hb⟩
theorem ru16_spec (h : AHeap) (p : Nat) (a : Option Addr) (cap : Nat) (zs : List UInt8) (bad : Bool) (r : RS h p a cap zs bad) (hl : zs.length ≤ 1000000) : CallS Try.prog [p] 58 [.pointer (some ⟨p, 0, none⟩)] h fun v h' => ∃ a' cap', v = .int .u16 (num zs 2) ∧ RS h' p a' cap' (left zs 2) (bad || short zs 2) ∧ ∀ i ∈ blk a', i ∈ blk a := by
  have hlt := num_lt2 zs
  (refine CallS.of1 Try.func58 rfl Try.ntmps58 Try.results58 rfl ?_)
  (refine Go.run (g:=?_))
  refine GoR.callW rfl rfl rfl rfl rfl rfl rfl (((rnum_spec _ _ _ _ _ _ r 2 (by decide) hl).argA).mono ?_)
  rintro _ h1 ⟨a', c', rfl, r', hb⟩ -
  refine ⟨fun i hi => .inl hi, ?_⟩
  generalize num zs 2 = nz at *
  (refine Go.run (g:=?_))
  (first|refine Go.finT (by first|exact .inr rfl|exact .inl rfl) rfl ?_|refine Go.fin1 (by first|exact .inr rfl|exact .inl rfl) rfl (hq:=?_))
  exact ⟨a', c', by simp [retV, Nat.mod_eq_of_lt hlt], r', hb⟩
theorem rrest_spec (h : AHeap) (p : Nat) (a : Option Addr) (cap : Nat) (zs : List UInt8) (bad : Bool) (r : RS h p a cap zs bad) (hl : zs.length ≤ 1000000) : CallS Try.prog [p] 59 [.pointer (some ⟨p, 0, none⟩)] h fun v h' => ∃ b c, v = .slice b zs.length c ∧ Sv h' 5 1 b zs.length c (zs.map bv) ∧ Own h.n b ∧ RS h' p none 0 [] bad := by
  have gr := r.g
  have rv := r.rv
  have hlp := AHeap.lt gr
  have hW : p ∈ [p] ∨ h.n ≤ p := .inl (List.mem_singleton.2 rfl)
  (refine CallS.of1 Try.func59 rfl Try.ntmps59 Try.results59 rfl ?_)
  (refine Go.run (g:=?_))
  refine GoR.call rfl rfl rfl rfl rfl rfl rfl (((clone_spec a cap zs (by omega) _ rv).argA).mono ?_)
  rintro _ h1 ⟨b, c, rfl, hb, ob⟩ s1
  (have nn := (s1).1; try simp only [AHeap.n_push, AHeap.n_put] at nn)
  have gr1 := s1.get gr
  (refine Go.run (g:=?_))
  (first|refine Go.finT (by first|exact .inr rfl|exact .inl rfl) rfl ?_|refine Go.fin1 (by first|exact .inr rfl|exact .inl rfl) rfl (hq:=?_))
  exact ⟨b, c, rfl, hb.put (fun hm => by have := ob _ hm; omega) _, ob, ⟨get_put_self gr1, Rv.nil, by simp [blk]⟩⟩
end Go.Proofs.Ytjpegoigipbmiaa
namespace Go.Proofs.Ytjpegoigipbmiaa
set_option maxRecDepth 100000
attribute [local irreducible] Go GoR GoL
structure TV where
  k : Nat
  f : Nat
  z : List UInt8
  a : Option Addr
  cap : Nat
def TV.thing (t : TV) : Thing := (t.k, t.f, t.z)
def TV.cells (t : TV) : List Value := [.int .u16 t.k, .int .u8 t.f, .slice t.a t.z.length t.cap]
def tcells (ts : List TV) : List Value := (ts.map TV.cells).flatten
def TV.ok (h : AHeap) (t : TV) : Prop := Rv Try.prog h 1 t.a t.z.length t.cap (t.z.map bv)
def TVs (h : AHeap) (ts : List TV) : Prop := ∀ t ∈ ts, t.ok h
theorem TVs.same {h h' : AHeap} {ts : List TV} (k : TVs h ts) (s : Same h h') : TVs h' ts := fun t ht => Rv.same (k t ht) s
theorem tcells_snoc (ts : List TV) (t : TV) : tcells (ts ++ [t]) = tcells ts ++ t.cells := by simp [tcells]
end Go.Proofs.Ytjpegoigipbmiaa
namespace Go.Proofs.Ytjpegoigipbmiaa
set_option maxRecDepth 100000
attribute [local irreducible] Go GoR GoL
end Go.Proofs.Ytjpegoigipbmiaa
namespace Go.Proofs.Ytjpegoigipbmiaa
set_option maxRecDepth 100000
attribute [local irreducible] Go GoR GoL
structure TRow (h h' : AHeap) (a : Option Addr) (cap : Nat) (ts : List TV) : Prop where
  sv : Sv h' 61 3 a ts.length cap (tcells ts)
  own : Own h.n a
  tv : TVs h' ts
  apart : ∀ t ∈ ts, ∀ i ∈ blk t.a, i ∉ blk a
  ownv : ∀ t ∈ ts, Own h.n t.a
theorem TRow.nil (h h' : AHeap) : TRow h h' none 0 [] := ⟨.nil, Own.nil _, (fun t ht => by cases ht), (fun t ht => by cases ht), fun t ht => by cases ht⟩
theorem TRow.same {h h' h'' : AHeap} {a : Option Addr} {cap : Nat} {ts : List TV} (k : TRow h h' a cap ts) (s : Same h' h'') : TRow h h'' a cap ts := ⟨k.sv.same s, k.own, k.tv.same s, k.apart, k.ownv⟩
theorem TRow.snoc {h h₁ h₂ : AHeap} {a a₂ : Option Addr} {cap cap₂ : Nat} {ts : List TV} {t : TV} (k : TRow h h₁ a cap ts) (hn : h.n ≤ h₁.n) (ht : t.ok h₁) (hta : ∀ i ∈ blk t.a, i ∉ blk a) (hto : Own h.n t.a) (sv : Sv h₂ 61 3 a₂ (ts.length + 1) cap₂ (tcells ts ++ t.cells)) (kp : Keeps (blk a) h₁ h₂) (hb : ∀ i ∈ blk a₂, i ∈ blk a ∨ h₁.n ≤ i) : TRow h h₂ a₂ cap₂ (ts ++ [t]) := by
  have all : ∀ u ∈ ts ++ [t], u.ok h₁ ∧ ∀ i ∈ blk u.a, i ∉ blk a := fun u hu => by
    rcases List.mem_append.1 hu with hu | hu
    · exact ⟨k.tv u hu, k.apart u hu⟩
    · simp at hu; subst hu; exact ⟨ht, hta⟩
  refine ⟨by rw [tcells_snoc, List.length_append]; exact sv, fun i hi => (hb i hi).elim (k.own i) (fun x => by omega), fun u hu => ?_, fun u hu i hi hm => ?_, fun u hu => ?_⟩
  · exact Rv.keeps (all u hu).1 kp (all u hu).2
  · rcases hb i hm with x | x
    · exact (all u hu).2 i hi x
    · have := Rv.lt (all u hu).1 i hi; omega
  · rcases List.mem_append.1 hu with hu | hu
    · exact k.ownv u hu
    · simp at hu; subst hu; exact hto
end Go.Proofs.Ytjpegoigipbmiaa
namespace Go.Proofs.Ytjpegoigipbmiaa
set_option maxRecDepth 100000
attribute [local irreducible] Go GoR GoL
theorem Keeps.rfl (wr : List Nat) (h : AHeap) : Keeps wr h h := ⟨Nat.le_refl _, fun _ _ _ => Eq.refl _⟩
theorem Keeps.put {wr : List Nat} {h h' : AHeap} (k : Keeps wr h h') {b : Nat} (hb : b ∈ wr) (o : Option AObj) : Keeps wr h (h'.put b o) := ⟨k.1, fun i hi hn => by rw [AHeap.get_put_ne _ _ (fun e => hn (by rw [← e]; exact hb))]; exact k.2 i hi hn⟩
structure Yl (n0 : Nat) (l : Nat) {σ : Type} (wrO : σ → List Nat) (inv stop : σ → Nat → AHeap → Prop) (items : List Thing) (bad : Bool) : Prop where
  same : ∀ s i h h', inv s i h → Same h h' → inv s i h'
  lt : ∀ s i h, inv s i h → ∀ b ∈ l :: wrO s, b < h.n
  item : ∀ s i h (t : TV), inv s i h → items[i]? = some t.thing → t.ok h → (∀ j ∈ blk t.a, j ∉ l :: wrO s) → Own n0 t.a → YieldS Try.prog (l :: wrO s) l [tlvV t.k t.f t.a t.z.length t.cap, .int .i64 0] h fun c h' => ∃ s', (∀ b ∈ wrO s', b ∈ wrO s ∨ h.n ≤ b) ∧ (c = true → inv s' (i + 1) h') ∧ (c = false → stop s' (i + 1) h')
  ends : ∀ s h, bad = true → inv s items.length h → YieldS Try.prog (l :: wrO s) l [tlvV 0 0 none 0 0, .int .i64 40] h fun c h' => ∃ s', stop s' (items.length + 1) h'
set_option maxHeartbeats 16000000 in
theorem all1_spec {l : Nat} {σ : Type} {wrO : σ → List Nat} {inv stop : σ → Nat → AHeap → Prop} (chunk : Bool) (bb cb : Nat) (a : Option Addr) (n cap : Nat) (zs : List UInt8) (hlen : zs.length = n) (hn : n ≤ 1000000) (h : AHeap) (s0 : σ) (Y : Yl h.n l wrO inv stop (parse chunk zs).1 (!(parse chunk zs).2)) (hi0 : inv s0 0 h) (hb : h.get bb = some (.cells [.slice a n cap] 31)) (hc : h.get cb = some (.cells [.bool chunk] 4)) (hz : Rv Try.prog h 1 a n cap (zs.map bv)) (p1 : bb ∉ l :: wrO s0) (p2 : cb ∉ l :: wrO s0) (p3 : ∀ i ∈ blk a, i ∉ l :: wrO s0) :
    CallS Try.prog (l :: wrO s0) 55 [.func (.yield l) #[] #[], .pointer (some ⟨bb, 0, none⟩), .pointer (some ⟨cb, 0, none⟩)] h fun v h' => (∃ s, (parse chunk zs).2 = true ∧ inv s (parse chunk zs).1.length h') ∨ ∃ s i, stop s i h' := by
  have hle := hz.le
  have hlb := AHeap.lt hb
  have hlc := AHeap.lt hc
  have hla : ∀ i ∈ blk a, i < h.n := hz.lt
  (refine CallS.of3 Try.func55 rfl Try.ntmps55 Try.results55 rfl ?_)
  (refine Go.run (g:=?_))
  refine Go.label ?_
  refine Go.seq ?_
  refine Go.join1 (α := Nat × Option Addr × σ × AHeap) (fun x => [(4, .slice x.2.1 (n - x.1) (cap - x.1)), (0, .func (.yield l) #[] #[])]) (fun _ => []) (fun x => x.2.2.2) (fun x => x.1 ≤ n ∧ inv x.2.2.1 (parse chunk zs).1.length x.2.2.2 ∧ (∀ b ∈ wrO x.2.2.1, b ∈ wrO s0 ∨ h.n ≤ b) ∧ (parse chunk zs).2 = decide (x.1 = n)) ?_ ?_
  case refine_2 =>
    rintro ⟨p, a1, s, h1⟩ ⟨hp, hi1, hw1, hwell⟩
    simp only at hp hi1 hw1 hwell ⊢
    by_cases hpn : p = n
    · subst hpn
      rw [decide_eq_true rfl] at hwell
      (refine Go.run (g:=?_))
      (first|refine Go.finT (by first|exact .inr rfl|exact .inl rfl) rfl ?_|refine Go.fin1 (by first|exact .inr rfl|exact .inl rfl) rfl (hq:=?_))
      exact .inl ⟨s, hwell, hi1⟩
    · rw [decide_eq_false hpn] at hwell
      (refine Go.run (g:=?_))
      refine GoR.yield rfl rfl rfl rfl rfl rfl ((Y.ends s h1 (by rw [hwell]; rfl) hi1).mono ?_)
      rintro c h2 ⟨s', hst⟩ k2
      refine ⟨fun b hb => ?_, ?_⟩
      · rcases List.mem_cons.1 hb with rfl | hb
        · exact .inl (List.mem_cons_self ..)
        · exact (hw1 b hb).imp (fun x => List.mem_cons_of_mem _ x) id
      (refine Go.run (g:=?_))
      (first|refine Go.finT (by first|exact .inr rfl|exact .inl rfl) rfl ?_|refine Go.fin1 (by first|exact .inr rfl|exact .inl rfl) rfl (hq:=?_))
      exact .inr ⟨s', _, hst⟩
  · refine Go.block ?_
    refine Go.loop (α := Nat × Option Addr × σ × List Thing × AHeap) (fun x => [(4, .slice x.2.1 (n - x.1) (cap - x.1)), (0, .func (.yield l) #[] #[]), (1, .pointer (some ⟨bb, 0, none⟩)), (2, .pointer (some ⟨cb, 0, none⟩))]) (fun _ => []) (fun x => x.2.2.2.2) (fun x => x.1 ≤ n ∧ inv x.2.2.1 x.2.2.2.1.length x.2.2.2.2 ∧ (∀ b ∈ wrO x.2.2.1, b ∈ wrO s0 ∨ h.n ≤ b) ∧ h.n ≤ x.2.2.2.2.n ∧ x.2.2.2.2.get cb = some (.cells [.bool chunk] 4) ∧ Rv Try.prog x.2.2.2.2 1 x.2.1 (n - x.1) (cap - x.1) ((zs.drop x.1).map bv) ∧ (∀ i ∈ blk x.2.1, i ∈ blk a) ∧ parse chunk zs = (x.2.2.2.1 ++ (parse chunk (zs.drop x.1)).1, (parse chunk (zs.drop x.1)).2)) (fun x => n - x.1) (0, a, s0, [], h) ?_ ?_ rfl rfl ?_
    · exact ⟨Nat.zero_le _, hi0, fun b hb => .inl hb, Nat.le_refl _, hc, hz, fun i hi => hi, by simp⟩
    · exact ⟨rfl, rfl, rfl, rfl, trivial⟩
    · rintro ⟨p, a1, s, done, h1⟩ ⟨hp, hi1, hw1, hn1, hc1, hz1, hb1, hpar⟩
      simp only at hp hi1 hw1 hn1 hc1 hz1 hb1 hpar ⊢
      have hzl : (zs.drop p).length = n - p := by simp [hlen]
      rcases Nat.eq_or_lt_of_le hp with hpn | hpn
      · subst hpn
        have ed : zs.drop p = [] := List.drop_eq_nil_of_le (by omega)
        rw [ed, parse_nil, List.append_nil] at hpar
        (refine Go.run (g:=?_))
        exact Go.joined (p, a1, s, h1) ⟨Nat.le_refl _, by rw [hpar]; exact hi1, hw1, by rw [hpar]; simp⟩ ⟨rfl, rfl, trivial⟩ rfl rfl
      have hne : zs.drop p ≠ [] := by intro e; rw [e] at hzl; simp at hzl; omega
      have out : ∀ h2 : AHeap, Same h1 h2 → ¬ Whole (zs.drop p) → p ≤ n ∧ inv s (parse chunk zs).1.length h2 ∧ (∀ b ∈ wrO s, b ∈ wrO s0 ∨ h.n ≤ b) ∧ (parse chunk zs).2 = decide (p = n) := fun h2 s2 hW => by
        rw [parse_none hne hW, List.append_nil] at hpar
        exact ⟨hp, by rw [hpar]; exact Y.same _ _ _ _ hi1 s2, hw1, by rw [hpar]; simp; omega⟩
      have hdd : ∀ u, (zs.drop p).drop u = zs.drop (p + u) := fun u => List.drop_drop
      generalize hzz : zs.drop p = z at *
      rcases Nat.lt_or_ge (n - p) 4 with g1 | g1
      · (refine Go.run (g:=?_))
        exact Go.joined (p, a1, s, h1) (out h1 (Same.refl _) (fun w => by have := w.1; omega)) ⟨rfl, rfl, trivial⟩ rfl rfl
      have l2 : 2 < z.length := by omega
      have l3 : 3 < z.length := by omega
      have v2 : (z.map bv)[2]? = some (.int .u8 (z[2].toNat : Int)) := byte_at l2
      have v3 : (z.map bv)[3]? = some (.int .u8 (z[3].toNat : Int)) := byte_at l3
      have x2 : z[2].toNat < 256 := UInt8.toNat_lt _
      have x3 : z[3].toNat < 256 := UInt8.toNat_lt _
      have hT : z[2].toNat * 2 ^ 8 ||| z[3].toNat = tN z := by
        rw [or_byte _ _ x3, tN, take_two l3, beNum_two]
      have hw : tN z < 65536 := beNum_lt_of (k := 2) (by simp; omega) rfl
      (refine Go.run (g:=?_))
      rw [hT]
      have hu := up4_le (tN z)
      rcases Nat.lt_or_ge (tN z) 4 with g2 | g2
      · (refine Go.run (g:=?_))
        exact Go.joined (p, a1, s, h1) (out h1 (Same.refl _) (fun w => by have := w.2.1; omega)) ⟨rfl, rfl, trivial⟩ rfl rfl
      (refine Go.run (g:=?_))
      refine GoR.call rfl rfl rfl rfl rfl rfl rfl (((up_spec (tN z) (by omega) _).argA).mono ?_)
      rintro _ h2 rfl s2
      rw [up4_def]
      rcases Nat.lt_or_ge (n - p) (up4 (tN z)) with g3 | g3
      · (refine Go.run (g:=?_))
        exact Go.joined (p, a1, s, h2) (out h2 s2 (fun w => by have := w.2.2.1; omega)) ⟨rfl, rfl, trivial⟩ rfl rfl
      (refine Go.run (g:=?_))
      refine GoR.call rfl rfl rfl rfl rfl rfl rfl (((up_spec (tN z) (by omega) _).argA).mono ?_)
      rintro _ h3 rfl s3
      rw [up4_def]
      have S3 := s2.trans s3
      have hz3 := hz1.same S3
      (refine Go.run (g:=?_))
      refine GoR.bLH (l := tN z) (r := up4 (tN z)) rfl rfl rfl rfl rfl rfl rfl hz3 (by omega) (by omega) ?_
      intro a4 hz4 hb4
      (refine Go.run (g:=?_))
      have hyl : ((z.drop (tN z)).take (up4 (tN z) - tN z)).length = up4 (tN z) - tN z := by simp; omega
      generalize hy : (z.drop (tN z)).take (up4 (tN z) - tN z) = y at *
      refine Go.loop (α := Nat) (fun j => [(41, .int .i64 j), (40, .int .i64 (up4 (tN z) - tN z : Nat)), (39, .slice a4 (up4 (tN z) - tN z) (cap - p - tN z)), (5, .int .i64 (tN z)), (4, .slice a1 (n - p) (cap - p)), (0, .func (.yield l) #[] #[]), (1, .pointer (some ⟨bb, 0, none⟩)), (2, .pointer (some ⟨cb, 0, none⟩))]) (fun _ => []) (fun _ => h3) (fun j => j ≤ up4 (tN z) - tN z ∧ (y.take j).all (· == 0) = true) (fun j => up4 (tN z) - tN z - j) 0 ?_ ?_ rfl rfl ?_
      · exact ⟨Nat.zero_le _, by simp⟩
      · exact ⟨rfl, rfl, rfl, rfl, rfl, rfl, rfl, rfl, trivial⟩
      · rintro j ⟨hj, hall⟩
        rcases Nat.lt_or_ge j (up4 (tN z) - tN z) with j0 | j0
        · have hq : j < y.length := by omega
          have vj := byte_at hq
          (refine Go.run (g:=?_))
          rcases Nat.eq_zero_or_pos y[j].toNat with b0 | b0
          · rw [b0]
            (refine Go.run (g:=?_))
            refine Go.again (j + 1) ⟨show j + 1 ≤ up4 (tN z) - tN z by omega, ?_⟩ (show up4 (tN z) - tN z - (j + 1) < up4 (tN z) - tN z - j by omega) ⟨rfl, rfl, rfl, rfl, rfl, rfl, rfl, rfl, trivial⟩ rfl rfl
            rw [List.take_add_one, List.getElem?_eq_getElem hq, List.all_append, hall]
            have : y[j] = 0 := UInt8.toNat_inj.1 (by simpa using b0)
            simp [this]
          · (refine Go.run (g:=?_))
            refine Go.joined (p, a1, s, h3) (out h3 S3 (fun w => ?_)) ⟨rfl, rfl, trivial⟩ rfl rfl
            have h4 := w.2.2.2
            rw [hy] at h4
            have := List.all_eq_true.1 h4 _ (List.getElem_mem hq)
            simp at this
            rw [this] at b0
            simp at b0
        · have hj' : j = up4 (tN z) - tN z := by omega
          have hW : Whole z := ⟨by omega, g2, by omega, by rw [hy, ← List.take_of_length_le (show y.length ≤ j by omega)]; exact hall⟩
          rw [parse_some hW] at hpar
          clear out hall hz4 hyl hy hz1
          (refine Go.run (g:=?_))
          have l0 : 0 < z.length := by omega
          have l1 : 1 < z.length := by omega
          have v0 : (z.map bv)[0]? = some (.int .u8 (z[0].toNat : Int)) := byte_at l0
          have v1 : (z.map bv)[1]? = some (.int .u8 (z[1].toNat : Int)) := byte_at l1
          have x0 : z[0].toNat < 256 := UInt8.toNat_lt _
          have x1 : z[1].toNat < 256 := UInt8.toNat_lt _
          refine Go.loud (by kernel_rfl) rfl ?_
          (refine Go.runL (g:=?_))
          refine GoL.bLH (l := 4) (r := tN z) rfl rfl rfl rfl rfl rfl rfl hz3 (by omega) (by omega) ?_
          intro a5 hz5 hb5
          (refine Go.runL (g:=?_))
          refine GoL.callS rfl rfl rfl rfl rfl rfl rfl (((clone_n a5 (cap - p - 4) ((z.drop 4).take (tN z - 4)) (tN z - 4) (by simp; omega) (by omega) _ hz5).argA).mono ?_)
          rintro _ h6 ⟨b6, c6, rfl, hs6, ob6⟩ s6
          (have nn := (s6).1; try simp only [AHeap.n_push, AHeap.n_put] at nn)
          (refine Go.runL (g:=?_))
          have hk : z[0].toNat * 2 ^ 8 ||| z[1].toNat = beNum (z.take 2) := by
            have := take_two (z := z) (i := 0) (by omega)
            rw [List.drop_zero] at this
            rw [or_byte _ _ x1, this, beNum_two]
          rw [hk]
          have m3 := S3.1
          refine GoL.store rfl rfl rfl rfl rfl (AHeap.get_push_same _ _) rfl rfl (Nat.le_refl 3) rfl rfl (.inr (by omega)) ?_
          (refine GoL.end_ (g:=?_))
          refine Go.name ?_
          intro h7 e7
          have s7 : Same h6 h7 := by subst e7; exact ((Same.refl h6).push _).put (Nat.le_refl _) _
          have n7 : h7.n = h6.n + 1 := by subst e7; rfl
          generalize hV : (z.drop 4).take (tN z - 4) = V at *
          have g7 : h7.get h6.n = some (.cells [.int .u16 (beNum (z.take 2)), .int .u8 (0 : Nat), .slice b6 V.length c6] 61) := by subst e7; exact AHeap.get_put_same _ (by simp) _
          clear e7
          have S7 := S3.trans (s6.trans s7)
          have c7 := S7.get hc1
          have r7 : Rv Try.prog h7 1 b6 V.length c6 (V.map bv) := (Sv.rv hs6).same s7
          have hz7 := hz3.same (s6.trans s7)
          (refine Go.run (g:=?_))
          refine Go.join1 (α := Nat × Nat × AHeap) (fun x => [(8, .pointer (some ⟨h6.n, 0, none⟩)), (5, .int .i64 (tN z)), (4, .slice a1 (n - p) (cap - p)), (0, .func (.yield l) #[] #[]), (1, .pointer (some ⟨bb, 0, none⟩)), (2, .pointer (some ⟨cb, 0, none⟩))]) (fun _ => []) (fun x => x.2.2) (fun x => thing chunk z = (x.1, x.2.1, V) ∧ Keeps [h6.n] h7 x.2.2 ∧ x.2.2.get h6.n = some (.cells [.int .u16 x.1, .int .u8 x.2.1, .slice b6 V.length c6] 61)) ?_ ?_
          · cases chunk
            · (refine Go.run (g:=?_))
              exact Go.joined (beNum (z.take 2), 0, h7) ⟨by simp [thing, hV], ⟨Nat.le_refl _, fun i _ _ => rfl⟩, g7⟩ ⟨rfl, rfl, rfl, rfl, rfl, rfl, trivial⟩ rfl rfl
            · (refine Go.run (g:=?_))
              have m6 := s6.1
              have lta : ∀ i ∈ blk a1, i < h6.n := fun i hi => by have := hz3.lt i hi; omega
              refine Go.loud (by kernel_rfl) rfl ?_
              (refine Go.runL (g:=?_))
              refine GoL.store rfl rfl rfl rfl rfl g7 rfl rfl (by simp [cellsL]) rfl rfl (.inr (by omega)) ?_
              (refine Go.runL (g:=?_))
              refine GoL.store rfl rfl rfl rfl rfl (get_put_self g7) rfl rfl (by simp [cellsL, setL]) rfl rfl (.inr (by omega)) ?_
              (refine Go.runL (g:=?_))
              refine GoL.end (by
                simp only [List.nil_append, List.cons_append]
                repeat (first | exact loudP.nil | refine loudP.none ?_ | refine loudP.new (fun _ hb => absurd hb List.not_mem_nil) ?_ | refine loudP.row (by repeat (first | exact loudRowP.nil | refine loudRowP.none ?_ | refine loudRowP.bef (by decide +kernel) ?_ | refine loudRowP.apart (.inl rfl) rfl (by intro i hi; simp only [List.mem_singleton] at hi; subst hi; exact ⟨fun hm => absurd (lta _ hm) (Nat.lt_irrefl _), List.not_mem_nil, .inl (by simp; omega)⟩) ?_)) ?_)) ?_
              have hk2 : thing true z = (z[0].toNat, z[1].toNat, V) := by
                have e1 := take_one (z := z) (i := 0) l0
                have e2 := take_one (z := z) (i := 1) l1
                rw [List.drop_zero] at e1
                show (beNum (z.take 1), beNum ((z.drop 1).take 1), (z.drop 4).take (tN z - 4)) = _
                rw [e1, e2, beNum_one, beNum_one, hV]
              refine Go.joined (z[0].toNat, z[1].toNat, _) ⟨hk2, ?_, ?_⟩ ⟨rfl, rfl, rfl, rfl, rfl, rfl, trivial⟩ rfl rfl
              · exact ((Keeps.rfl [h6.n] h7).put (by simp) _).put (by simp) _
              · exact get_put_self (get_put_self g7)
          · rintro ⟨k, f, h8⟩ ⟨hth, k8, g8⟩
            simp only at hth k8 g8 ⊢
            have m6 := s6.1
            have m8 := k8.1
            have lta : ∀ i ∈ blk a1, i < h6.n := fun i hi => by have := hz3.lt i hi; omega
            have r8 := r7.keeps k8 (fun i hi hm => by simp only [List.mem_singleton] at hm; subst hm; have := (Sv.rv (P := Try.prog) hs6).lt _ hi; omega)
            have hz8 := hz7.keeps k8 (fun i hi hm => by simp only [List.mem_singleton] at hm; subst hm; have := lta _ hi; omega)
            have S8 : Same h1 h8 := ⟨by omega, fun i hi => by rw [k8.2 i (by have := S7.1; omega) (by simp; omega)]; exact S7.2 i hi⟩
            (refine Go.run (g:=?_))
            have hi8 : inv s done.length h8 := Y.same _ _ _ _ hi1 S8
            have hit : (parse chunk zs).1[done.length]? = some (TV.mk k f V b6 c6).thing := by rw [hpar]; simp [TV.thing, hth]
            have hnw : ∀ j, j < h.n → j ∉ l :: wrO s0 → j ∉ l :: wrO s := fun j hj hn hm => by
              rcases List.mem_cons.1 hm with rfl | hm
              · exact hn (List.mem_cons_self ..)
              · rcases hw1 j hm with x | x
                · exact hn (List.mem_cons_of_mem _ x)
                · omega
            have hb6 : ∀ j ∈ blk b6, j ∉ l :: wrO s := fun j hj hm => by have := Y.lt _ _ _ hi1 j hm; have := ob6 j hj; omega
            refine GoR.yield rfl rfl rfl rfl rfl rfl ((Y.item s done.length h8 ⟨k, f, V, b6, c6⟩ hi8 hit r8 hb6 (ob6.mono (by omega))).mono ?_)
            rintro cc h9 ⟨s', hw', ht, hf⟩ k9
            have m9 := k9.1
            refine ⟨fun b hb => ?_, ?_⟩
            · rcases List.mem_cons.1 hb with rfl | hb
              · exact .inl (List.mem_cons_self ..)
              · exact (hw1 b hb).imp (fun x => List.mem_cons_of_mem _ x) id
            cases cc
            · (refine Go.run (g:=?_))
              (first|refine Go.finT (by first|exact .inr rfl|exact .inl rfl) rfl ?_|refine Go.fin1 (by first|exact .inr rfl|exact .inl rfl) rfl (hq:=?_))
              exact .inr ⟨s', _, hf rfl⟩
            · have hi9 := ht rfl
              have hz9 := hz8.keeps k9 (fun i hi => hnw i (hla i (hb1 i hi)) (p3 i (hb1 i hi)))
              have hc9 := k9.get (S8.get hc1) (hnw cb hlc p2)
              (refine Go.run (g:=?_))
              refine GoR.call rfl rfl rfl rfl rfl rfl rfl (((up_spec (tN z) (by omega) _).argA).mono ?_)
              rintro _ h10 rfl s10
              rw [up4_def]
              have hz10 := hz9.same s10
              have m10 := s10.1
              (refine Go.run (g:=?_))
              refine GoR.bLo (l := up4 (tN z)) rfl rfl rfl rfl rfl rfl hz10 (by omega) ?_
              intro a11 hz11 hb11
              (refine Go.run (g:=?_))
              have e1 : n - p - up4 (tN z) = n - (p + up4 (tN z)) := by omega
              have e2 : cap - p - up4 (tN z) = cap - (p + up4 (tN z)) := by omega
              have e3 : (z.drop (up4 (tN z))).take (n - p - up4 (tN z)) = zs.drop (p + up4 (tN z)) := by
                rw [hdd]
                exact List.take_of_length_le (by simp; omega)
              rw [e3] at hz11
              rw [e1, e2] at hz11 ⊢
              refine Go.again (p + up4 (tN z), a11, s', done ++ [thing chunk z], h10) ⟨by simp only; omega, ?_, ?_, by simp only; omega, s10.get hc9, hz11, fun i hi => hb1 i (hb11 i hi), ?_⟩ (by simp only; omega) ⟨rfl, rfl, rfl, rfl, trivial⟩ rfl rfl
              · simp only [List.length_append, List.length_cons, List.length_nil]
                exact Y.same _ _ _ _ hi9 s10
              · intro b hb
                rcases hw' b hb with x | x
                · exact hw1 b x
                · exact .inr (by omega)
              · simp only
                rw [hpar, ← hdd]
                simp
end Go.Proofs.Ytjpegoigipbmiaa
namespace Go.Proofs.Ytjpegoigipbmiaa
set_option maxRecDepth 100000
attribute [local irreducible] Go GoR GoL
theorem allCall_spec (chunk : Bool) (a : Option Addr) (n cap : Nat) (h : AHeap) : CallS Try.prog [] 30 [.bool chunk, .slice a n cap] h fun v h' => v = .func (.func 55) #[] #[.pointer (some ⟨h.n + 1, 0, none⟩), .pointer (some ⟨h.n, 0, none⟩)] ∧ h' = (h.push (.cells [.bool chunk] 4)).push (.cells [.slice a n cap] 31) := by
  (refine CallS.of2 Try.func30 rfl Try.ntmps30 Try.results30 rfl ?_)
  (refine Go.run (g:=?_))
  (first|refine Go.finT (by first|exact .inr rfl|exact .inl rfl) rfl ?_|refine Go.fin1 (by first|exact .inr rfl|exact .inl rfl) rfl (hq:=?_))
  exact ⟨rfl, rfl⟩
theorem TRow.keeps {h h' h'' : AHeap} {a : Option Addr} {cap : Nat} {ts : List TV} {wr : List Nat} (k : TRow h h' a cap ts) (kp : Keeps wr h' h'') (h1 : ∀ i ∈ blk a, i ∉ wr) (h2 : ∀ t ∈ ts, ∀ i ∈ blk t.a, i ∉ wr) : TRow h h'' a cap ts := ⟨k.sv.keeps kp h1, k.own, (fun t ht => Rv.keeps (k.tv t ht) kp (h2 t ht)), k.apart, k.ownv⟩
theorem takeAll_one {h : AHeap} {d : Nat} (g : h.get d = some (.deferred true)) : takeAll h [d] = some (h.put d (some (.deferred false))) := by simp [takeAll, g]
structure LInv (h0 : AHeap) (tm : List Value) (ps : Array Tmp) (asg bo : Code) (l d ob r4 r5 : Nat) (s : List TV × Option Addr × Nat) (h : AHeap) : Prop where
  loop : h.get l = some (.loop .ready none tm ps asg bo d)
  mark : h.get d = some (.deferred true)
  out : h.get ob = some (.cells [.slice s.2.1 s.1.length s.2.2] 100)
  c4 : h.get r4 = some (.cells [.slice none 0 0] 100)
  c5 : h.get r5 = some (.cells [.int .i64 0] 32)
  row : TRow h0 h s.2.1 s.2.2 s.1
  n0 : h0.n ≤ h.n
  sep : ∀ t ∈ s.1, ∀ i ∈ blk t.a, i ∉ [l, r4, r5, ob, d]
end Go.Proofs.Ytjpegoigipbmiaa
namespace Go.Proofs.Ytjpegoigipbmiaa
set_option maxRecDepth 100000
attribute [local irreducible] Go GoR GoL
@[reducible] def Ck.setA (c : Ck) (s : Sl) : Ck := ⟨c.k, c.f, c.tag, c.rwnd, c.tsn, c.out, c.inn, c.sid, c.ssn, c.ppid, c.D, s, c.G, c.U, c.C⟩
@[reducible] def Ck.setD (c : Ck) (s : Sl) : Ck := ⟨c.k, c.f, c.tag, c.rwnd, c.tsn, c.out, c.inn, c.sid, c.ssn, c.ppid, s, c.A, c.G, c.U, c.C⟩
structure PSt (H : AHeap) (p q e2 e3 e4 : Nat) (c : Ck) (addrs : List Nat) (n : Nat) (bad : Bool) : Prop where
  g2 : H.get e2 = some (.cells [.pointer (some ⟨p, 0, none⟩)] 87)
  g3 : H.get e3 = some (.cells [.pointer (some ⟨q, 0, none⟩)] 94)
  g4 : H.get e4 = some (.cells [.int .i64 n] 3)
  gq : H.get q = some (.cells c.cs 43)
  gp : H.get p = some (.cells [.slice none 0 0, .bool bad] 89)
  sv : Sv H 23 1 c.A.a c.A.n c.A.cap (w32s addrs)
  al : addrs.length = c.A.n
  ne : p ≠ q ∧ p ≠ e2 ∧ p ≠ e3 ∧ p ≠ e4 ∧ q ≠ e2 ∧ q ≠ e3 ∧ q ≠ e4 ∧ e2 ≠ e3 ∧ e2 ≠ e4 ∧ e3 ≠ e4
  out : ∀ i ∈ blk c.A.a, i ∉ [p, q, e2, e3, e4]
def bad5 (bad : Bool) (z : List UInt8) (n : Nat) : Bool := bad || short z 4 || decide (0 < (left z 4).length) || decide (3 < n + 1)
set_option maxHeartbeats 8000000 in
theorem one5_spec (H : AHeap) (p q e2 e3 e4 : Nat) (c : Ck) (addrs : List Nat) (n : Nat) (bad : Bool) (S : PSt H p q e2 e3 e4 c addrs n bad) (hn : c.A.n ≤ 1000000) (f : Nat) (a : Option Addr) (cap : Nat) (z : List UInt8) (hz : Rv Try.prog H 1 a z.length cap (z.map bv)) (hl : z.length ≤ 1000000) (ha : ∀ i ∈ blk a, i ∉ p :: q :: blk c.A.a) :
    CallS Try.prog (p :: q :: blk c.A.a) 81 [tlvV 5 f a z.length cap, .pointer (some ⟨e3, 0, none⟩), .pointer (some ⟨e2, 0, none⟩), .pointer (some ⟨e4, 0, none⟩)] H fun v h' => v = .bool true ∧ ∃ b' c', PSt h' p q e2 e3 e4 (c.setA ⟨b', c.A.n + 1, c'⟩) (addrs ++ [num z 4]) n (bad5 bad z c.A.n) ∧ ∀ i ∈ blk b', i ∈ blk c.A.a ∨ H.n ≤ i := by
  obtain ⟨g2, g3, g4, gq, gp, sv, al, ⟨d1, d2, d3, d4, d5, d6, d7, d8, d9, d10⟩, hA⟩ := S
  have lq := AHeap.lt gq
  have lp := AHeap.lt gp
  have l2 := AHeap.lt g2
  have l3 := AHeap.lt g3
  have l4 := AHeap.lt g4
  unfold Ck.cs at gq
  have hWp : p ∈ p :: q :: blk c.A.a ∨ H.n ≤ p := .inl (List.mem_cons_self ..)
  have hWq : q ∈ p :: q :: blk c.A.a ∨ H.n ≤ q := .inl (by simp)
  (refine CallS.of4 Try.func81 rfl Try.ntmps81 Try.results81 rfl ?_)
  (refine Go.run (g:=?_))
  refine Go.name ?_
  intro h1 e1
  have s1 : Same H h1 := by subst e1; exact ((Same.refl H).push _).push _
  have n1 : h1.n = H.n + 2 := by subst e1; rfl
  have R1 : RS h1 (H.n + 1) a cap z false := by
    have hz1 := hz.same s1
    have hlt := hz.lt
    refine ⟨by subst e1; exact AHeap.get_push_same (H.push _) _, hz1, fun hm => by have := hlt _ hm; omega⟩
  clear e1
  have g2' := s1.get g2
  have g3' := s1.get g3
  have g4' := s1.get g4
  have gq' := s1.get gq
  have gp' := s1.get gp
  refine Go.loud (by kernel_rfl) rfl ?_
  (refine Go.runL (g:=?_))
  refine GoL.call rfl rfl rfl rfl rfl rfl rfl (((ru32_spec _ _ _ _ _ _ R1 hl).argA).mono ?_)
  rintro _ h2 ⟨a2, c2, rfl, r2, o2⟩ k2
  refine ⟨fun i hi => .inr (by simp at hi; omega), ?_⟩
  have m2 := k2.1
  have kg : ∀ {i : Nat} {o : AObj}, i < H.n → h1.get i = some o → h2.get i = some o := fun hi e => k2.get e (by simp; omega)
  (refine Go.runL (g:=?_))
  have hsv2 : Sv h2 23 1 c.A.a c.A.n c.A.cap (w32s addrs) := (sv.same s1).keeps k2 (fun i hi => by have := sv.lt i hi; simp; omega)
  have hn4 := num_lt4 z
  have k2p := kg lp gp'
  have k2q := kg lq gq'
  have k22 := kg l2 g2'
  have k23 := kg l3 g3'
  have k24 := kg l4 g4'
  refine GoL.buildRo (c := w32s [num z 4]) rfl rfl rfl rfl rfl (by decide) (by rfl) (by rfl) ?_
  intro b3 h3 hb3 rb3 ob3 s3 n3
  refine GoL.appendV rfl rfl rfl rfl rfl rfl (hsv2.same s3) hb3 (fun i hi => .inl (by simp [hi])) (by omega) (by omega) (by rfl) ?_
  intro b4 c4 h4 rd wr hwr hrd hs4 k4 o4
  have m4 := k4.1
  have nA : ∀ i, i ∈ [p, q, e2, e3, e4] → i ∉ blk c.A.a := fun i hi hm => hA i hm hi
  have nR : H.n + 1 ∉ blk c.A.a := fun hm => by have := sv.lt _ hm; omega
  have g4p := k4.get (s3.get k2p) (nA _ (by simp))
  have g4q := k4.get (s3.get k2q) (nA _ (by simp))
  have g42 := k4.get (s3.get k22) (nA _ (by simp))
  have g43 := k4.get (s3.get k23) (nA _ (by simp))
  have g44 := k4.get (s3.get k24) (nA _ (by simp))
  have r4 : RS h4 (H.n + 1) a2 c2 (left z 4) (false || short z 4) := (r2.same s3).keeps k4 nR (fun i hi hm => ha i (o2 i hi) (by simp [hm]))
  (refine Go.runL (g:=?_))
  refine GoL.store' rfl rfl rfl rfl rfl (hl:=rfl) (h1:=rfl) (h3:=rfl) (g:=?_)
  refine GoL.end_ (hl := by (simp only [List.nil_append, List.cons_append]); repeat (first | exact loudP.nil | refine loudP.none ?_ | refine loudP.new (fun _ hb => absurd hb List.not_mem_nil) ?_ | refine loudP.row (by repeat (first | exact loudRowP.nil | refine loudRowP.none ?_ | refine loudRowP.bef (by decide +kernel) ?_ | refine loudRowP.apart (by first | exact .inl rfl | exact .inr (by simp)) rfl (by intro i hi; first | (have hx := hA i (hwr i hi); simp only [List.mem_cons, List.not_mem_nil, or_false, not_or] at hx; simp; omega) | (simp only [List.mem_singleton] at hi; subst hi; simp; omega)) ?_)) ?_)) ?_
  refine Go.name ?_
  intro h5 e5
  have ob : ∀ i ∈ blk b4, i ∈ blk c.A.a ∨ H.n ≤ i := fun i hi => (o4 i hi).imp id (fun x => by omega)
  have nb4 : ∀ i ∈ blk b4, i ∉ [p, q, e2, e3, e4] := fun i hi hm => (ob i hi).elim (fun x => hA i x hm) (fun x => by simp only [List.mem_cons, List.not_mem_nil, or_false] at hm; omega)
  have h5n : h5.n = h4.n := by subst e5; rfl
  have p5 : ∀ {i : Nat} {o : AObj}, i ≠ q → h4.get i = some o → h5.get i = some o := fun hi e => by subst e5; exact get_put_other (fun x => hi x.symm) e
  have g5p := p5 d1 g4p
  have g52 := p5 (fun x => d5 x.symm) g42
  have g53 := p5 (fun x => d6 x.symm) g43
  have g54 := p5 (fun x => d7 x.symm) g44
  have g5r := p5 (by omega) r4.g
  have g5q : h5.get q = some (.cells (c.setA ⟨b4, c.A.n + 1, c4⟩).cs 43) := by subst e5; exact get_put_self g4q
  have sv5 : Sv h5 23 1 b4 (c.A.n + 1) c4 (w32s (addrs ++ [num z 4])) := by
    rw [w32s, List.map_append]
    subst e5
    exact hs4.put (fun hm => nb4 _ hm (by simp)) _
  clear e5
  have last : ∀ (H6 : AHeap) (bd : Bool), H6 = h5.put p (some (.cells [.slice none 0 0, .bool bd] 89)) → PSt H6 p q e2 e3 e4 (c.setA ⟨b4, c.A.n + 1, c4⟩) (addrs ++ [num z 4]) n bd := fun H6 bd e => by
    subst e
    refine ⟨?_, ?_, ?_, ?_, get_put_self g5p, sv5.put (fun hm => nb4 _ hm (by simp)) _, by simp [al], ⟨d1, d2, d3, d4, d5, d6, d7, d8, d9, d10⟩, nb4⟩
    · exact get_put_other d2 g52
    · exact get_put_other d3 g53
    · exact get_put_other d4 g54
    · exact get_put_other d1 g5q
  unfold Ck.cs at g5q
  try dsimp only at g5q
  unfold bad5
  cases bad
  case true =>
    refine Go.loud (by kernel_rfl) rfl ?_
    (refine Go.runL (g:=?_))
    refine GoL.store' rfl rfl rfl rfl rfl (hl:=rfl) (h1:=rfl) (h3:=rfl) (g:=?_)
    refine GoL.end_ (hl := by (simp only [List.nil_append, List.cons_append]); repeat (first | exact loudP.nil | refine loudP.none ?_ | refine loudP.new (fun _ hb => absurd hb List.not_mem_nil) ?_ | refine loudP.row (by repeat (first | exact loudRowP.nil | refine loudRowP.none ?_ | refine loudRowP.bef (by decide +kernel) ?_)) ?_)) ?_
    (refine Go.run (g:=?_))
    (first|refine Go.finT (by first|exact .inr rfl|exact .inl rfl) rfl ?_|refine Go.fin1 (by first|exact .inr rfl|exact .inl rfl) rfl (hq:=?_))
    refine ⟨rfl, b4, c4, ?_, ob⟩
    exact last _ true rfl
  cases hsh : short z 4
  case true =>
    rw [hsh] at g5r
    refine Go.loud (by kernel_rfl) rfl ?_
    (refine Go.runL (g:=?_))
    refine GoL.store' rfl rfl rfl rfl rfl (hl:=rfl) (h1:=rfl) (h3:=rfl) (g:=?_)
    refine GoL.end_ (hl := by (simp only [List.nil_append, List.cons_append]); repeat (first | exact loudP.nil | refine loudP.none ?_ | refine loudP.new (fun _ hb => absurd hb List.not_mem_nil) ?_ | refine loudP.row (by repeat (first | exact loudRowP.nil | refine loudRowP.none ?_ | refine loudRowP.bef (by decide +kernel) ?_)) ?_)) ?_
    (refine Go.run (g:=?_))
    (first|refine Go.finT (by first|exact .inr rfl|exact .inl rfl) rfl ?_|refine Go.fin1 (by first|exact .inr rfl|exact .inl rfl) rfl (hq:=?_))
    refine ⟨rfl, b4, c4, ?_, ob⟩
    exact last _ true rfl
  rw [hsh] at g5r
  rcases Nat.eq_zero_or_pos (left z 4).length with hl0 | hl0
  · rw [hl0] at g5r ⊢
    refine Go.loud (by kernel_rfl) rfl ?_
    (refine Go.runL (g:=?_))
    refine GoL.store' rfl rfl rfl rfl rfl (hl:=rfl) (h1:=rfl) (h3:=rfl) (g:=?_)
    refine GoL.end_ (hl := by (simp only [List.nil_append, List.cons_append]); repeat (first | exact loudP.nil | refine loudP.none ?_ | refine loudP.new (fun _ hb => absurd hb List.not_mem_nil) ?_ | refine loudP.row (by repeat (first | exact loudRowP.nil | refine loudRowP.none ?_ | refine loudRowP.bef (by decide +kernel) ?_)) ?_)) ?_
    (refine Go.run (g:=?_))
    (first|refine Go.finT (by first|exact .inr rfl|exact .inl rfl) rfl ?_|refine Go.fin1 (by first|exact .inr rfl|exact .inl rfl) rfl (hq:=?_))
    refine ⟨rfl, b4, c4, ?_, ob⟩
    rw [show (false || false || decide (0 < 0) || decide (3 < c.A.n + 1)) = decide ((3 : Int) < ((c.A.n + 1 : Nat) : Int)) from by simp; omega]
    exact last _ _ rfl
  · rw [decide_eq_true hl0]
    generalize (left z 4).length = ll at *
    refine Go.loud (by kernel_rfl) rfl ?_
    (refine Go.runL (g:=?_))
    refine GoL.store' rfl rfl rfl rfl rfl (hl:=rfl) (h1:=rfl) (h3:=rfl) (g:=?_)
    refine GoL.end_ (hl := by (simp only [List.nil_append, List.cons_append]); repeat (first | exact loudP.nil | refine loudP.none ?_ | refine loudP.new (fun _ hb => absurd hb List.not_mem_nil) ?_ | refine loudP.row (by repeat (first | exact loudRowP.nil | refine loudRowP.none ?_ | refine loudRowP.bef (by decide +kernel) ?_)) ?_)) ?_
    (refine Go.run (g:=?_))
    (first|refine Go.finT (by first|exact .inr rfl|exact .inl rfl) rfl ?_|refine Go.fin1 (by first|exact .inr rfl|exact .inl rfl) rfl (hq:=?_))
    refine ⟨rfl, b4, c4, ?_, ob⟩
    exact last _ true rfl
def bad7 (bad : Bool) (k n : Nat) (z : List UInt8) : Bool := bad || decide (k = 1) || decide (1 < n + 1) || decide (z.length = 0)
set_option maxHeartbeats 8000000 in
theorem one7_spec (H : AHeap) (p q e2 e3 e4 : Nat) (c : Ck) (addrs : List Nat) (n : Nat) (bad : Bool) (S : PSt H p q e2 e3 e4 c addrs n bad) (hn : n ≤ 1000000) (f : Nat) (a : Option Addr) (cap : Nat) (z : List UInt8) :
    CallS Try.prog [p, q, e4] 81 [tlvV 7 f a z.length cap, .pointer (some ⟨e3, 0, none⟩), .pointer (some ⟨e2, 0, none⟩), .pointer (some ⟨e4, 0, none⟩)] H fun v h' => v = .bool true ∧ PSt h' p q e2 e3 e4 (c.setD ⟨a, z.length, cap⟩) addrs (n + 1) (bad7 bad c.k n z) := by
  obtain ⟨g2, g3, g4, gq, gp, sv, al, ⟨d1, d2, d3, d4, d5, d6, d7, d8, d9, d10⟩, hA⟩ := S
  have lq := AHeap.lt gq
  have lp := AHeap.lt gp
  have l2 := AHeap.lt g2
  have l3 := AHeap.lt g3
  have l4 := AHeap.lt g4
  unfold Ck.cs at gq
  have hWp : p ∈ [p, q, e4] ∨ H.n ≤ p := .inl (by simp)
  have hWq : q ∈ [p, q, e4] ∨ H.n ≤ q := .inl (by simp)
  have hW4 : e4 ∈ [p, q, e4] ∨ H.n ≤ e4 := .inl (by simp)
  (refine CallS.of4 Try.func81 rfl Try.ntmps81 Try.results81 rfl ?_)
  (refine Go.run (g:=?_))
  refine Go.name ?_
  intro h5 e5
  have p5 : ∀ {i : Nat} {o : AObj}, i ≠ q → i ≠ e4 → H.get i = some o → h5.get i = some o := fun h1 h2 e => by
    subst e5; exact get_put_other (fun x => h1 x.symm) (get_put_other (fun x => h2 x.symm) (get_push_lt e))
  have g5p := p5 d1 d4 gp
  have g52 := p5 (fun x => d5 x.symm) d9 g2
  have g53 := p5 (fun x => d6 x.symm) d10 g3
  have g54 : h5.get e4 = some (.cells [.int .i64 (n + 1 : Nat)] 3) := by subst e5; exact get_put_other d7 (get_put_self (get_push_lt g4))
  have g5q : h5.get q = some (.cells (c.setD ⟨a, z.length, cap⟩).cs 43) := by subst e5; exact get_put_self (get_put_other (fun x => d7 x.symm) (get_push_lt gq))
  have g5t : h5.get H.n = some (.cells [.int .u16 (7 : Nat), .int .u8 f, .slice a z.length cap] 61) := by subst e5; exact get_put_other (by omega) (get_put_other (by omega) (AHeap.get_push_same _ _))
  have sv5 : Sv h5 23 1 c.A.a c.A.n c.A.cap (w32s addrs) := by
    subst e5
    exact ((sv.push _).put (fun hm => hA _ hm (by simp)) _).put (fun hm => hA _ hm (by simp)) _
  clear e5
  have last : ∀ (H6 : AHeap) (bd : Bool), H6 = h5.put p (some (.cells [.slice none 0 0, .bool bd] 89)) → PSt H6 p q e2 e3 e4 (c.setD ⟨a, z.length, cap⟩) addrs (n + 1) bd := fun H6 bd e => by
    subst e
    refine ⟨?_, ?_, ?_, ?_, get_put_self g5p, sv5.put (fun hm => hA _ hm (by simp)) _, al, ⟨d1, d2, d3, d4, d5, d6, d7, d8, d9, d10⟩, hA⟩
    · exact get_put_other d2 g52
    · exact get_put_other d3 g53
    · exact get_put_other d4 g54
    · exact get_put_other d1 g5q
  unfold Ck.cs at g5q
  try dsimp only at g5q
  unfold bad7
  cases bad
  case true =>
    refine Go.loud (by kernel_rfl) rfl ?_
    (refine Go.runL (g:=?_))
    refine GoL.store' rfl rfl rfl rfl rfl (hl:=rfl) (h1:=rfl) (h3:=rfl) (g:=?_)
    refine GoL.end_ (hl := by (simp only [List.nil_append, List.cons_append]); repeat (first | exact loudP.nil | refine loudP.none ?_ | refine loudP.new (fun _ hb => absurd hb List.not_mem_nil) ?_ | refine loudP.row (by repeat (first | exact loudRowP.nil | refine loudRowP.none ?_ | refine loudRowP.bef (by decide +kernel) ?_)) ?_)) ?_
    (refine Go.run (g:=?_))
    (first|refine Go.finT (by first|exact .inr rfl|exact .inl rfl) rfl ?_|refine Go.fin1 (by first|exact .inr rfl|exact .inl rfl) rfl (hq:=?_))
    refine ⟨rfl, ?_⟩
    exact last _ true rfl
  by_cases hk : c.k = 1
  case pos =>
    rw [decide_eq_true hk]
    refine Go.loud (by kernel_rfl) rfl ?_
    (refine Go.runL (g:=?_))
    refine GoL.store' rfl rfl rfl rfl rfl (hl:=rfl) (h1:=rfl) (h3:=rfl) (g:=?_)
    refine GoL.end_ (hl := by (simp only [List.nil_append, List.cons_append]); repeat (first | exact loudP.nil | refine loudP.none ?_ | refine loudP.new (fun _ hb => absurd hb List.not_mem_nil) ?_ | refine loudP.row (by repeat (first | exact loudRowP.nil | refine loudRowP.none ?_ | refine loudRowP.bef (by decide +kernel) ?_)) ?_)) ?_
    (refine Go.run (g:=?_))
    (first|refine Go.finT (by first|exact .inr rfl|exact .inl rfl) rfl ?_|refine Go.fin1 (by first|exact .inr rfl|exact .inl rfl) rfl (hq:=?_))
    refine ⟨rfl, ?_⟩
    exact last _ true rfl
  rw [decide_eq_false hk]
  rcases Nat.eq_zero_or_pos n with rfl | h0
  case inr =>
    rw [decide_eq_true (show 1 < n + 1 by omega)]
    refine Go.loud (by kernel_rfl) rfl ?_
    (refine Go.runL (g:=?_))
    refine GoL.store' rfl rfl rfl rfl rfl (hl:=rfl) (h1:=rfl) (h3:=rfl) (g:=?_)
    refine GoL.end_ (hl := by (simp only [List.nil_append, List.cons_append]); repeat (first | exact loudP.nil | refine loudP.none ?_ | refine loudP.new (fun _ hb => absurd hb List.not_mem_nil) ?_ | refine loudP.row (by repeat (first | exact loudRowP.nil | refine loudRowP.none ?_ | refine loudRowP.bef (by decide +kernel) ?_)) ?_)) ?_
    (refine Go.run (g:=?_))
    (first|refine Go.finT (by first|exact .inr rfl|exact .inl rfl) rfl ?_|refine Go.fin1 (by first|exact .inr rfl|exact .inl rfl) rfl (hq:=?_))
    refine ⟨rfl, ?_⟩
    exact last _ true rfl
  · rw [show (false || false || decide (1 < 0 + 1) || decide (z.length = 0)) = decide ((z.length : Int) = 0) from by simp]
    refine Go.loud (by kernel_rfl) rfl ?_
    (refine Go.runL (g:=?_))
    refine GoL.store' rfl rfl rfl rfl rfl (hl:=rfl) (h1:=rfl) (h3:=rfl) (g:=?_)
    refine GoL.end_ (hl := by (simp only [List.nil_append, List.cons_append]); repeat (first | exact loudP.nil | refine loudP.none ?_ | refine loudP.new (fun _ hb => absurd hb List.not_mem_nil) ?_ | refine loudP.row (by repeat (first | exact loudRowP.nil | refine loudRowP.none ?_ | refine loudRowP.bef (by decide +kernel) ?_)) ?_)) ?_
    (refine Go.run (g:=?_))
    (first|refine Go.finT (by first|exact .inr rfl|exact .inl rfl) rfl ?_|refine Go.fin1 (by first|exact .inr rfl|exact .inl rfl) rfl (hq:=?_))
    refine ⟨rfl, ?_⟩
    exact last _ _ rfl
theorem oneX_spec (H : AHeap) (e2 e3 e4 : Nat) (k : Nat) (hk : k < 65536) (h5 : k ≠ 5) (h7 : k ≠ 7) (f : Nat) (a : Option Addr) (n cap : Nat) :
    CallS Try.prog [] 81 [tlvV k f a n cap, .pointer (some ⟨e3, 0, none⟩), .pointer (some ⟨e2, 0, none⟩), .pointer (some ⟨e4, 0, none⟩)] H fun v h' => v = .bool (decide (32768 ≤ k)) := by
  (refine CallS.of4 Try.func81 rfl Try.ntmps81 Try.results81 rfl ?_)
  (refine Go.run (g:=?_))
  (first|refine Go.finT (by first|exact .inr rfl|exact .inl rfl) rfl ?_|refine Go.fin1 (by first|exact .inr rfl|exact .inl rfl) rfl (hq:=?_))
  simp [retV]
  omega
end Go.Proofs.Ytjpegoigipbmiaa
namespace Go.Proofs.Ytjpegoigipbmiaa
set_option maxRecDepth 100000
attribute [local irreducible] Go GoR GoL
theorem parse_bd {chunk : Bool} : ∀ (z : List UInt8), ∀ x ∈ (parse chunk z).1, x.1 < 65536 ∧ x.2.2.length ≤ z.length := by
  intro z
  induction hn : z.length using Nat.strongRecOn generalizing z with
  | _ n ih =>
    by_cases h0 : z = []
    · subst h0; rw [parse_nil]; intro x hx; cases hx
    · by_cases h : Whole z
      · rw [parse_some h]
        have h2 := h.2.1
        have h3 := h.2.2.1
        have := up4_le (tN z)
        have ih' := ih (z.drop (up4 (tN z))).length (by simp; omega) (z.drop (up4 (tN z))) rfl
        intro x hx
        rcases List.mem_cons.1 hx with rfl | hx
        · refine ⟨thing_bounds.1, ?_⟩
          rw [thing_len h]; omega
        · have := ih' x hx
          simp at this
          exact ⟨this.1, by omega⟩
      · rw [parse_none h0 h]; intro x hx; cases hx
structure Sg where
  D : Sl
  A : Sl
  addrs : List Nat
  data : List UInt8
  n : Nat
  bad : Bool
@[reducible] def Ck.pd (c : Ck) (D A : Sl) : Ck := ⟨c.k, c.f, c.tag, c.rwnd, c.tsn, c.out, c.inn, c.sid, c.ssn, c.ppid, D, A, c.G, c.U, c.C⟩
def PRel (k : Nat) (well : Bool) (items : List Thing) (bad0 : Bool) (s : Sg) (rest : List Thing) : Prop :=
  (s.bad = false → bad0 = false ∧ s.addrs.length ≤ 3 ∧ pgo k well items [] [] 0 = pgo k well rest s.addrs s.data s.n) ∧ (s.bad = true → bad0 = true ∨ pgo k well items [] [] 0 = none)
theorem PRel.five {k : Nat} {well : Bool} {items : List Thing} {bad0 : Bool} {s : Sg} {f : Nat} {z : List UInt8} {rest : List Thing} (h : PRel k well items bad0 s ((5, f, z) :: rest)) (A : Sl) : PRel k well items bad0 ⟨s.D, A, s.addrs ++ [num z 4], s.data, s.n, bad5 s.bad z s.addrs.length⟩ rest := by
  obtain ⟨h1, h2⟩ := h
  unfold bad5
  cases hb : s.bad
  case true => exact ⟨fun e => by simp at e, fun _ => h2 hb⟩
  obtain ⟨b0, l3, e⟩ := h1 hb
  simp only [pgo, if_pos] at e
  refine ⟨fun e' => ?_, fun e' => .inr ?_⟩
  · simp only [Bool.false_or, Bool.or_eq_false_iff, decide_eq_false_iff_not, short] at e'
    obtain ⟨⟨q1, q2⟩, q3⟩ := e'
    have g4 : 4 ≤ z.length := by omega
    rw [left_le g4, List.length_drop] at q2
    have hz : z.length = 4 := by omega
    rw [if_pos ⟨hz, by omega⟩] at e
    refine ⟨b0, by simp; omega, ?_⟩
    rw [num_le g4, List.take_of_length_le (by omega)]
    exact e
  · simp only [Bool.false_or, Bool.or_eq_true, decide_eq_true_eq, short] at e'
    rw [if_neg] at e
    · exact e
    · rintro ⟨q1, q2⟩
      rcases e' with (e' | e') | e'
      · omega
      · rw [left_le (by omega), List.length_drop] at e'; omega
      · omega
theorem PRel.seven {k : Nat} {well : Bool} {items : List Thing} {bad0 : Bool} {s : Sg} {f : Nat} {z : List UInt8} {rest : List Thing} (h : PRel k well items bad0 s ((7, f, z) :: rest)) (D : Sl) : PRel k well items bad0 ⟨D, s.A, s.addrs, z, s.n + 1, bad7 s.bad k s.n z⟩ rest := by
  obtain ⟨h1, h2⟩ := h
  unfold bad7
  cases hb : s.bad
  case true => exact ⟨fun e => by simp at e, fun _ => h2 hb⟩
  obtain ⟨b0, l3, e⟩ := h1 hb
  simp only [pgo, show ¬ (7 = 5) by decide, if_false, if_true] at e
  refine ⟨fun e' => ?_, fun e' => .inr ?_⟩
  · simp only [Bool.false_or, Bool.or_eq_false_iff, decide_eq_false_iff_not] at e'
    rw [if_neg (by omega)] at e
    exact ⟨b0, l3, e⟩
  · simp only [Bool.false_or, Bool.or_eq_true, decide_eq_true_eq] at e'
    rw [if_pos (by omega)] at e
    exact e
theorem PRel.other {k : Nat} {well : Bool} {items : List Thing} {bad0 : Bool} {s : Sg} {kx f : Nat} {z : List UInt8} {rest : List Thing} (h : PRel k well items bad0 s ((kx, f, z) :: rest)) (h5 : kx ≠ 5) (h7 : kx ≠ 7) (hk : 32768 ≤ kx) : PRel k well items bad0 s rest := by
  refine ⟨fun e => ?_, h.2⟩
  obtain ⟨b0, l3, e⟩ := h.1 e
  simp only [pgo, if_neg h5, if_neg h7, if_neg (show ¬ kx < 32768 by omega)] at e
  exact ⟨b0, l3, e⟩
def PFin (k : Nat) (well : Bool) (items : List Thing) (bad0 : Bool) (s : Sg) : Prop :=
  (s.bad = false → bad0 = false ∧ pgo k well items [] [] 0 = some (s.addrs, s.data)) ∧ (s.bad = true → bad0 = true ∨ pgo k well items [] [] 0 = none)
theorem PRel.stop {k : Nat} {well : Bool} {items : List Thing} {bad0 : Bool} {s : Sg} {kx f : Nat} {z : List UInt8} {rest : List Thing} (h : PRel k well items bad0 s ((kx, f, z) :: rest)) (h5 : kx ≠ 5) (h7 : kx ≠ 7) (hk : kx < 32768) : PFin k well items bad0 s := by
  refine ⟨fun e => ?_, h.2⟩
  obtain ⟨b0, l3, e⟩ := h.1 e
  simp only [pgo, if_neg h5, if_neg h7, if_pos hk] at e
  exact ⟨b0, e⟩
theorem PRel.done {k : Nat} {items : List Thing} {bad0 : Bool} {s : Sg} (h : PRel k true items bad0 s []) : PFin k true items bad0 s := by
  refine ⟨fun e => ?_, h.2⟩
  obtain ⟨b0, l3, e⟩ := h.1 e
  exact ⟨b0, e⟩
theorem PRel.ill {k : Nat} {items : List Thing} {bad0 : Bool} {s : Sg} (h : PRel k false items bad0 s []) : PFin k false items bad0 { s with bad := true } := by
  refine ⟨(fun e => by cases e), fun _ => ?_⟩
  cases hb : s.bad
  · exact .inr (h.1 hb).2.2
  · exact h.2 hb
structure PInv (m : Nat) (l d p q e2 e3 e4 e5 : Nat) (c0 : Ck) (s : Sg) (H : AHeap) : Prop where
  mark : H.get d = some (.deferred true)
  P : PSt H p q e2 e3 e4 (c0.pd s.D s.A) s.addrs s.n s.bad
  g5 : H.get e5 = some (.cells [.func (.func 81) #[] #[.pointer (some ⟨e3, 0, none⟩), .pointer (some ⟨e2, 0, none⟩), .pointer (some ⟨e4, 0, none⟩)]] 116)
  ab : ∀ x ∈ s.addrs, x < 4294967296
  dl : s.data.length = s.D.n
  dv : Rv Try.prog H 1 s.D.a s.D.n s.D.cap (s.data.map bv)
  ownA : Own m s.A.a
  sepA : ∀ i ∈ blk s.A.a, i ∉ [l, d, e5]
  ownD : Own m s.D.a
  sepD : ∀ i ∈ blk s.D.a, i ∉ [l, d, p, q, e2, e3, e4, e5]
  DA : ∀ i ∈ blk s.D.a, i ∉ blk s.A.a
theorem PSt.same {H H' : AHeap} {p q e2 e3 e4 : Nat} {c : Ck} {addrs : List Nat} {n : Nat} {bad : Bool} (S : PSt H p q e2 e3 e4 c addrs n bad) (s : Same H H') : PSt H' p q e2 e3 e4 c addrs n bad := ⟨s.get S.g2, s.get S.g3, s.get S.g4, s.get S.gq, s.get S.gp, S.sv.same s, S.al, S.ne, S.out⟩
theorem PSt.keeps {H H' : AHeap} {p q e2 e3 e4 : Nat} {c : Ck} {addrs : List Nat} {n : Nat} {bad : Bool} {wr : List Nat} (S : PSt H p q e2 e3 e4 c addrs n bad) (k : Keeps wr H H') (h1 : ∀ i ∈ [p, q, e2, e3, e4], i ∉ wr) (h2 : ∀ i ∈ blk c.A.a, i ∉ wr) : PSt H' p q e2 e3 e4 c addrs n bad := ⟨k.get S.g2 (h1 _ (by simp)), k.get S.g3 (h1 _ (by simp)), k.get S.g4 (h1 _ (by simp)), k.get S.gq (h1 _ (by simp)), k.get S.gp (h1 _ (by simp)), S.sv.keeps k h2, S.al, S.ne, S.out⟩
theorem PInv.same {m l d p q e2 e3 e4 e5 : Nat} {c0 : Ck} {s : Sg} {H H' : AHeap} (I : PInv m l d p q e2 e3 e4 e5 c0 s H) (sm : Same H H') : PInv m l d p q e2 e3 e4 e5 c0 s H' := ⟨sm.get I.mark, I.P.same sm, sm.get I.g5, I.ab, I.dl, I.dv.same sm, I.ownA, I.sepA, I.ownD, I.sepD, I.DA⟩
theorem PInv.loop {m l d p q e2 e3 e4 e5 : Nat} {c0 : Ck} {s : Sg} {H H' : AHeap} (I : PInv m l d p q e2 e3 e4 e5 c0 s H) (k : Keeps [l] H H') (hd : d ≠ l) (hm : ∀ i ∈ [p, q, e2, e3, e4, e5], i ≠ l) : PInv m l d p q e2 e3 e4 e5 c0 s H' := by
  have e1 : ∀ {a : Option Addr} {L : List Nat}, l ∈ L → (∀ i ∈ blk a, i ∉ L) → ∀ i ∈ blk a, i ∉ [l] := fun hL h i hi hx => by simp only [List.mem_singleton] at hx; exact h i hi (hx ▸ hL)
  exact ⟨k.get I.mark (by simp [hd]), I.P.keeps k (fun i hi hx => by simp only [List.mem_singleton] at hx; exact hm i (by simp only [List.mem_cons, List.not_mem_nil, or_false] at hi ⊢; omega) hx) (e1 (by simp) I.sepA), k.get I.g5 (by have := hm e5 (by simp); simp [this]), I.ab, I.dl, I.dv.keeps k (e1 (by simp) I.sepD), I.ownA, I.sepA, I.ownD, I.sepD, I.DA⟩
set_option maxHeartbeats 16000000 in
theorem rparams_spec (h : AHeap) (p q : Nat) (c : Ck) (hA : c.A = ⟨none, 0, 0⟩) (hD : c.D = ⟨none, 0, 0⟩) (a : Option Addr) (cap : Nat) (zs : List UInt8) (bad : Bool) (gq : h.get q = some (.cells c.cs 43)) (r : RS h p a cap zs bad) (hpq : p ≠ q) (hl : zs.length ≤ 1000000) :
    CallS Try.prog [p, q] 60 [.pointer (some ⟨p, 0, none⟩), .pointer (some ⟨q, 0, none⟩)] h fun v h' => ∃ s : Sg, h'.get q = some (.cells (c.pd s.D s.A).cs 43) ∧ RS h' p none 0 [] s.bad ∧ Sv h' 23 1 s.A.a s.A.n s.A.cap (w32s s.addrs) ∧ s.addrs.length = s.A.n ∧ (∀ x ∈ s.addrs, x < 4294967296) ∧ s.data.length = s.D.n ∧ Rv Try.prog h' 1 s.D.a s.D.n s.D.cap (s.data.map bv) ∧ Own h.n s.A.a ∧ Own h.n s.D.a ∧ PFin c.k (parse false zs).2 (parse false zs).1 bad s := by
  have lq := AHeap.lt gq
  have lp := AHeap.lt r.g
  have hpl := parse_len (chunk := false) zs
  (refine CallS.of2 Try.func60 rfl Try.ntmps60 Try.results60 rfl ?_)
  (iterate 15 (first|refine GoR.end ?_|(refine GoR.gd rfl ?_;first|refine GoR.wanted' rfl rfl rfl rfl (g:=?_)|refine GoR.unwanted' rfl rfl rfl rfl (hd:=rfl) (hN:=rfl) (g:=?_)|refine GoR.unwantedU rfl rfl rfl rfl rfl rfl ?_)|(refine GoR.kk 0 rfl ?_;first|refine GoR.move rfl rfl rfl rfl rfl ?_|refine GoR.assign rfl rfl rfl rfl rfl ?_)|(refine GoR.kk 1 rfl ?_;first|refine GoR.load' rfl rfl rfl rfl rfl (g:=?_)|refine GoR.loadA' rfl rfl rfl rfl rfl (hv:=rfl) (g:=?_)|refine GoR.loadV' rfl rfl rfl rfl rfl (g:=?_)|refine GoR.loadVN' rfl rfl rfl rfl rfl (g:=?_))|(refine GoR.kk 2 rfl ?_;first|refine GoR.store' rfl rfl rfl rfl rfl (hl:=rfl) (h1:=rfl) (h3:=rfl) (g:=?_))|(refine GoR.kk 3 rfl ?_;first|refine GoR.fieldAddr rfl rfl rfl rfl rfl ?_|refine GoR.indexN' rfl rfl rfl rfl rfl rfl (g:=?_)|refine GoR.indexNs' rfl rfl rfl rfl rfl rfl (g:=?_)|refine GoR.indexV' rfl rfl rfl rfl rfl rfl (g:=?_)|refine GoR.indexA' rfl rfl rfl rfl rfl rfl (g:=?_)|refine GoR.fieldV' rfl rfl rfl rfl rfl (g:=?_))|(refine GoR.kk 4 rfl ?_;first|refine GoR.eq rfl rfl rfl rfl rfl rfl ?_|refine GoR.ne rfl rfl rfl rfl rfl rfl ?_|refine GoR.lt rfl rfl rfl rfl rfl rfl ?_|refine GoR.le rfl rfl rfl rfl rfl rfl ?_|refine GoR.gt rfl rfl rfl rfl rfl rfl ?_|refine GoR.ge rfl rfl rfl rfl rfl rfl ?_|refine GoR.addN' rfl rfl rfl rfl rfl rfl (g:=?_)|refine GoR.subN' rfl rfl rfl rfl rfl rfl (g:=?_)|refine GoR.add' rfl rfl rfl rfl rfl rfl (g:=?_)|refine GoR.sub' rfl rfl rfl rfl rfl rfl (g:=?_)|refine GoR.addM' rfl rfl rfl rfl rfl rfl (g:=?_)|refine GoR.subM' rfl rfl rfl rfl rfl rfl (g:=?_)|refine GoR.mulM' rfl rfl rfl rfl rfl rfl (g:=?_)|refine GoR.shrN rfl rfl rfl rfl rfl rfl rfl ?_|refine GoR.structEq rfl rfl rfl rfl rfl rfl (by rfl) (by rfl) ?_|refine GoR.structNe rfl rfl rfl rfl rfl rfl (by rfl) (by rfl) ?_|refine GoR.strEq rfl rfl rfl rfl rfl rfl ?_|refine GoR.strNe rfl rfl rfl rfl rfl rfl ?_|refine GoR.remN' rfl rfl rfl rfl rfl rfl (g:=?_)|refine GoR.quoN' rfl rfl rfl rfl rfl rfl (g:=?_)|refine GoR.shlN' rfl rfl rfl rfl rfl rfl rfl (g:=?_)|refine GoR.orN' rfl rfl rfl rfl rfl rfl (g:=?_))|(refine GoR.kk 5 rfl ?_;first|refine GoR.len rfl rfl rfl rfl rfl ?_|refine GoR.lenStr rfl rfl rfl rfl rfl ?_|refine GoR.capB rfl rfl rfl rfl rfl ?_)|(refine GoR.kk 7 rfl ?_;first|refine GoR.pickE' rfl rfl rfl rfl rfl (hx:=rfl) (hy:=rfl) (g:=?_)|refine GoR.pickN' rfl rfl rfl rfl rfl (hx:=rfl) (hy:=rfl) (g:=?_)|refine GoR.pickB rfl rfl rfl rfl rfl rfl rfl ?_)|(refine GoR.kk 8 rfl ?_;first|refine GoR.boxA rfl rfl rfl rfl rfl ?_|refine GoR.boxS rfl rfl rfl rfl rfl rfl ?_|refine GoR.alloc rfl rfl rfl rfl ?_)|(refine GoR.kk 9 rfl ?_;first|refine GoR.strV' rfl rfl rfl rfl rfl (g:=?_)|refine GoR.conv_u8 rfl rfl rfl rfl rfl ?_|refine GoR.convW' rfl rfl rfl rfl rfl (g:=?_)|refine GoR.conv_u16 rfl rfl rfl rfl rfl ?_|refine GoR.conv_u32 rfl rfl rfl rfl rfl ?_)|(refine GoR.kk 10 rfl ?_;first|refine GoR.build' rfl rfl rfl rfl rfl rfl (g:=?_))|(refine GoR.kk 11 rfl ?_;first|refine GoR.extract rfl rfl rfl rfl rfl rfl ?_|refine GoR.not rfl rfl rfl rfl rfl ?_|refine GoR.nilCheck rfl rfl rfl rfl rfl ?_|refine GoR.nilCheckF rfl rfl rfl rfl rfl ?_|refine GoR.makeFunc rfl rfl rfl rfl rfl rfl ?_)|(refine Go.kk 0 rfl ?_;refine Go.seq ?_)|(refine Go.kk 1 rfl ?_;refine Go.region (by kernel_rfl) rfl ?_)|(refine Go.kk 2 rfl ?_;refine Go.drawnQ rfl (by kernel_rfl) rfl ?_)|(refine Go.kk 3 rfl ?_;first|refine Go.cond_t' rfl (g:=?_)|refine Go.cond_f' rfl (g:=?_))|(refine Go.kk 4 rfl ?_;refine Go.block ?_)|(refine Go.kk 5 rfl ?_;first|refine Go.skip ?_|refine Go.ret ?_|refine Go.exit ?_|refine Go.scope ?_)|refine Go.leave_normal ?_|refine Go.leave_same ?_|refine Go.leave_ret ?_|refine Go.ret_code ?_|refine Go.exit_code ?_|refine Go.leave_other rfl ?_|refine Go.sc_normal ?_|refine Go.sc_ret ?_|refine Go.sc_exit ?_|refine Go.exit_back ?_|refine Go.ret_back ?_))
  simp only [AHeap.n_push, AHeap.n_put]
  refine GoR.name ?_
  intro h5 e5
  have S5 : Same h h5 := by subst e5; exact (((((Same.refl h).push _).push _).push _).put (by omega) _ |>.push _).put (by omega) _
  have n5 : h5.n = h.n + 4 := by subst e5; rfl
  have g2 : h5.get h.n = some (.cells [.pointer (some ⟨p, 0, none⟩)] 87) := by subst e5; (first | assumption | exact AHeap.get_push_same _ _ | ((repeat first | exact AHeap.get_push_same _ _ | assumption | refine get_push_lt ?_ | exact AHeap.get_put_same _ (by first | omega | (simp only [AHeap.n_push, AHeap.n_put]; omega)) _ | exact get_put_self (by assumption) | apply get_put_self | refine get_put_other (by first | omega | (simp only [AHeap.n_push, AHeap.n_put]; omega)) ?_ | refine Same.get (by assumption) ?_ | refine Keeps.get (by assumption) ?_ (fun hi => by have hx := Own.out (by assumption) hi; omega)) ; fail_if_success focus skip) | fail)
  have g3 : h5.get (h.n + 1) = some (.cells [.pointer (some ⟨q, 0, none⟩)] 94) := by subst e5; (first | assumption | exact AHeap.get_push_same _ _ | ((repeat first | exact AHeap.get_push_same _ _ | assumption | refine get_push_lt ?_ | exact AHeap.get_put_same _ (by first | omega | (simp only [AHeap.n_push, AHeap.n_put]; omega)) _ | exact get_put_self (by assumption) | apply get_put_self | refine get_put_other (by first | omega | (simp only [AHeap.n_push, AHeap.n_put]; omega)) ?_ | refine Same.get (by assumption) ?_ | refine Keeps.get (by assumption) ?_ (fun hi => by have hx := Own.out (by assumption) hi; omega)) ; fail_if_success focus skip) | fail)
  have g4 : h5.get (h.n + 2) = some (.cells [.int .i64 (0 : Nat)] 3) := by subst e5; (first | assumption | exact AHeap.get_push_same _ _ | ((repeat first | exact AHeap.get_push_same _ _ | assumption | refine get_push_lt ?_ | exact AHeap.get_put_same _ (by first | omega | (simp only [AHeap.n_push, AHeap.n_put]; omega)) _ | exact get_put_self (by assumption) | apply get_put_self | refine get_put_other (by first | omega | (simp only [AHeap.n_push, AHeap.n_put]; omega)) ?_ | refine Same.get (by assumption) ?_ | refine Keeps.get (by assumption) ?_ (fun hi => by have hx := Own.out (by assumption) hi; omega)) ; fail_if_success focus skip) | fail)
  have g5 : h5.get (h.n + 3) = some (.cells [.func (.func 81) #[] #[.pointer (some ⟨h.n + 1, 0, none⟩), .pointer (some ⟨h.n, 0, none⟩), .pointer (some ⟨h.n + 2, 0, none⟩)]] 116) := by subst e5; (first | assumption | exact AHeap.get_push_same _ _ | ((repeat first | exact AHeap.get_push_same _ _ | assumption | refine get_push_lt ?_ | exact AHeap.get_put_same _ (by first | omega | (simp only [AHeap.n_push, AHeap.n_put]; omega)) _ | exact get_put_self (by assumption) | apply get_put_self | refine get_put_other (by first | omega | (simp only [AHeap.n_push, AHeap.n_put]; omega)) ?_ | refine Same.get (by assumption) ?_ | refine Keeps.get (by assumption) ?_ (fun hi => by have hx := Own.out (by assumption) hi; omega)) ; fail_if_success focus skip) | fail)
  clear e5
  (refine Go.run (g:=?_))
  refine GoR.callW rfl rfl rfl rfl rfl rfl rfl (((rrest_spec _ _ _ _ _ _ (r.same S5) hl).argA).mono ?_)
  rintro _ h6 ⟨br, cr, rfl, vr, orr, rr⟩ kr
  refine ⟨fun i hi => .inl (by simp at hi; simp [hi]), ?_⟩
  have m6 := kr.1
  have np : ∀ i, i ≠ p → i ∉ [p] := fun i hi => by simpa using hi
  have g26 := kr.get g2 (np _ (by omega))
  have g36 := kr.get g3 (np _ (by omega))
  have g46 := kr.get g4 (np _ (by omega))
  have g56 := kr.get g5 (np _ (by omega))
  have gq6 := kr.get (S5.get gq) (np _ (fun e => hpq e.symm))
  (refine Go.run (g:=?_))
  refine GoR.call rfl rfl rfl rfl rfl rfl rfl (((allCall_spec false br zs.length cr _).argA).mono ?_)
  rintro _ _ ⟨rfl, rfl⟩ -
  (refine Go.run (g:=?_))
  refine Go.name ?_
  intro h7 e7
  have s7 : Same h6 h7 := by subst e7; exact ((Same.refl h6).push _).push _
  have n7 : h7.n = h6.n + 2 := by subst e7; rfl
  have gcb : h7.get h6.n = some (.cells [.bool false] 4) := by subst e7; exact get_push_lt (AHeap.get_push_same _ _)
  have gbb : h7.get (h6.n + 1) = some (.cells [.slice br zs.length cr] 31) := by subst e7; exact AHeap.get_push_same (h6.push _) _
  clear e7
  have vr7 := vr.same s7
  refine Go.rangeFunc' (wr := [h7.n + 1, p, q, h.n + 2, h7.n]) rfl (by rfl) (by kernel_rfl) ?_
  intro tm ps asg bo HH eps easg ebo eH hN hr
  have Hs : Same h7 HH := by subst eH; exact ((Same.refl h7).push _).push _
  have Hl : HH.get (h7.n + 1) = some (.loop .ready none tm ps asg bo h7.n) := by subst eH; exact AHeap.get_push_same (h7.push _) _
  have Hd : HH.get h7.n = some (.deferred true) := by subst eH; exact get_push_lt (AHeap.get_push_same _ _)
  have Hn : HH.n = h7.n + 2 := by subst eH; rfl
  clear eH
  have S7 := s7.trans Hs
  have vrH := vr7.same Hs
  have hob : ∀ i ∈ blk br, h5.n ≤ i ∧ i < h6.n := fun i hi => ⟨orr i hi, vr.lt i hi⟩
  have P0 : PSt HH p q h.n (h.n + 1) (h.n + 2) (c.pd ⟨none, 0, 0⟩ ⟨none, 0, 0⟩) [] 0 bad :=
    ⟨S7.get g26, S7.get g36, S7.get g46, by rw [show c.pd ⟨none, 0, 0⟩ ⟨none, 0, 0⟩ = c from by cases c; simp_all]; exact S7.get gq6, S7.get rr.g, .nil, rfl, ⟨hpq, by omega, by omega, by omega, by omega, by omega, by omega, by omega, by omega, by omega⟩, fun i hi => by simp [blk] at hi⟩
  have I0 : PInv h5.n (h7.n + 1) h7.n p q h.n (h.n + 1) (h.n + 2) (h.n + 3) c ⟨⟨none, 0, 0⟩, ⟨none, 0, 0⟩, [], [], 0, bad⟩ HH :=
    ⟨Hd, P0, S7.get g56, (fun x hx => by cases hx), rfl, Rv.nil, Own.nil _, (fun i hi => by simp [blk] at hi), Own.nil _, (fun i hi => by simp [blk] at hi), fun i hi => by simp [blk] at hi⟩
  have R0 : PRel c.k (parse false zs).2 (parse false zs).1 bad ⟨⟨none, 0, 0⟩, ⟨none, 0, 0⟩, [], [], 0, bad⟩ (parse false zs).1 := ⟨fun e => ⟨e, by simp, rfl⟩, fun e => .inl e⟩
  refine ((all1_spec (l := h7.n + 1) (σ := Sg) (wrO := fun s => [p, q, h.n + 2, h7.n] ++ blk s.A.a) (inv := fun s i H => H.get (h7.n + 1) = some (.loop .ready none tm ps asg bo h7.n) ∧ PInv h5.n (h7.n + 1) h7.n p q h.n (h.n + 1) (h.n + 2) (h.n + 3) c s H ∧ PRel c.k (parse false zs).2 (parse false zs).1 bad s ((parse false zs).1.drop i) ∧ s.A.n ≤ i ∧ s.n ≤ i ∧ HH.n ≤ H.n) (stop := fun s i H => (∃ tm' ps' as' bo' df', H.get (h7.n + 1) = some (.loop .done (some .ret) tm' ps' as' bo' df')) ∧ PInv h5.n (h7.n + 1) h7.n p q h.n (h.n + 1) (h.n + 2) (h.n + 3) c s H ∧ PFin c.k (parse false zs).2 (parse false zs).1 bad s) false (h6.n + 1) h6.n br zs.length cr zs rfl (by omega) _ ⟨⟨none, 0, 0⟩, ⟨none, 0, 0⟩, [], [], 0, bad⟩ ?Y ?i0 (Hs.get gbb) (Hs.get gcb) vrH.rv ?p1 ?p2 ?p3).args rfl).mono ?_
  case p1 => simp [blk]; omega
  case p2 => simp [blk]; omega
  case p3 => intro i hi; have := hob i hi; simp [blk]; omega
  case i0 => exact ⟨Hl, I0, by simpa using R0, Nat.le_refl _, Nat.le_refl _, Nat.le_refl _⟩
  case Y =>
    refine ⟨?_, ?_, ?_, ?_⟩
    · rintro s i H H' ⟨x0, I, x1, x2, x3, x4⟩ sm
      exact ⟨sm.get x0, I.same sm, x1, x2, x3, Nat.le_trans x4 sm.1⟩
    · rintro s i H ⟨x0, I, x1, x2, x3, x4⟩ b hb
      simp only [List.mem_cons, List.mem_append, List.not_mem_nil, or_false] at hb
      rcases hb with rfl | (rfl | rfl | rfl | rfl) | hb
      · exact AHeap.lt x0
      · exact AHeap.lt I.P.gp
      · exact AHeap.lt I.P.gq
      · exact AHeap.lt I.P.g4
      · exact AHeap.lt I.mark
      · exact I.P.sv.lt _ hb
    · rintro s i H t ⟨x0, I, x1, x2, x3, x4⟩ hit hok hnw hto
      refine YieldS.of' x0 hN hr eps easg ebo rfl (by rfl) rfl (List.mem_cons_self ..) ?_
      (refine Go.run (g:=?_))
      refine Go.name ?_
      intro h8 e8
      have s8 : Same H h8 := by subst e8; exact ((Same.refl H).push _).put (Nat.le_refl _) _
      have n8 : h8.n = H.n + 1 := by subst e8; rfl
      have g8 : h8.get H.n = some (.cells t.cells 61) := by subst e8; exact AHeap.get_put_same _ (by simp) _
      clear e8
      refine Go.body (s8.get x0) ?_
      refine Go.name ?_
      intro h9 e9
      have k9 : Keeps [h7.n + 1] h8 h9 := by subst e9; exact (Keeps.rfl _ _).put (by simp) _
      have n9 : h9.n = h8.n := by subst e9; rfl
      have l9 : h9.get (h7.n + 1) = some (.loop .busy none tm ps asg bo h7.n) := by subst e9; exact get_put_self (s8.get x0)
      clear e9
      have far : ∀ j ∈ [p, q, h.n, h.n + 1, h.n + 2, h.n + 3], j ≠ h7.n + 1 := fun j hj => by simp only [List.mem_cons, List.not_mem_nil, or_false] at hj; omega
      have I9 := (I.same s8).loop k9 (by omega) far
      have gt9 := k9.get g8 (by simp; omega)
      have ok9 : t.ok h9 := Rv.keeps (Rv.same hok s8) k9 (fun i hi hm => by simp only [List.mem_singleton] at hm; exact hnw _ hi (by simp [hm]))
      have hta : ∀ i ∈ blk t.a, i < H.n ∧ HH.n ≤ i := fun i hi => ⟨hok.lt i hi, hto i hi⟩
      have tb := parse_bd (chunk := false) zs t.thing (List.mem_of_getElem? hit)
      have hil := (List.getElem?_eq_some_iff.1 hit).1
      have hdr : (parse false zs).1.drop i = t.thing :: (parse false zs).1.drop (i + 1) := by
        rw [List.drop_eq_getElem_cons hil, (List.getElem?_eq_some_iff.1 hit).2]
      rw [hdr] at x1
      simp only [TV.thing] at tb x1
      have g59 := I9.g5
      (refine Go.run (g:=?_))
      have hlw : ∀ j ∈ [p, q, h.n + 2], j ≠ h7.n + 1 ∧ j ≠ h7.n ∧ j ≠ h.n + 3 := fun j hj => by simp only [List.mem_cons, List.not_mem_nil, or_false] at hj; omega
      have nA : ∀ {j : Nat}, j ∈ [h7.n + 1, h7.n, h.n + 3] → j ∉ blk s.A.a := fun hj hm => I9.sepA _ hm hj
      have wcons : ∀ {wr : List Nat}, (∀ j ∈ wr, j ∈ [p, q, h.n + 2] ∨ j ∈ blk s.A.a) → ∀ j ∈ wr, j ∈ (h7.n + 1) :: ([p, q, h.n + 2, h7.n] ++ blk s.A.a) ∨ H.n ≤ j := fun hw j hj => .inl (by
        rcases hw j hj with x | x
        · simp only [List.mem_cons, List.not_mem_nil, or_false] at x
          simp only [List.mem_cons, List.mem_append, List.not_mem_nil, or_false]
          omega
        · simp [x])
      have hnw' : ∀ j ∈ blk t.a, j ≠ h7.n + 1 ∧ j ≠ h7.n ∧ j ≠ p ∧ j ≠ q ∧ j ≠ h.n + 2 ∧ j ∉ blk s.A.a := fun j hj => by
        have := hnw j hj
        simp only [List.mem_cons, List.mem_append, List.not_mem_nil, or_false, not_or] at this
        obtain ⟨y1, ⟨y2, y3, y4, y5⟩, y6⟩ := this
        exact ⟨y1, y5, y2, y3, y4, y6⟩
      by_cases h5k : t.k = 5
      · refine GoR.callW rfl rfl rfl rfl rfl rfl rfl (((one5_spec h9 p q _ _ _ (c.pd s.D s.A) s.addrs s.n s.bad I9.P (by show s.A.n ≤ _; omega) t.f t.a t.cap t.z ok9 (by omega) (fun j hj => by have := hnw' j hj; simp only [List.mem_cons, not_or]; exact ⟨this.2.2.1, this.2.2.2.1, this.2.2.2.2.2⟩)).args (by rw [h5k]; rfl)).mono ?_)
        rintro _ h10 ⟨rfl, b', c', P10, ob'⟩ k10
        have w5 : ∀ j ∈ p :: q :: blk s.A.a, j ∈ [p, q, h.n + 2] ∨ j ∈ blk s.A.a := fun j hj => by
          rcases List.mem_cons.1 hj with x | hj
          · exact .inl (by simp [x])
          rcases List.mem_cons.1 hj with x | hj
          · exact .inl (by simp [x])
          · exact .inr hj
        refine ⟨wcons w5, ?_⟩
        have m10 := k10.1
        have out10 : ∀ {j : Nat}, j ∈ [h7.n + 1, h7.n, h.n + 3] → j ∉ p :: q :: blk s.A.a := fun hj hm => by
          rcases List.mem_cons.1 hm with rfl | hm
          · simp only [List.mem_cons, List.not_mem_nil, or_false] at hj; omega
          rcases List.mem_cons.1 hm with rfl | hm
          · simp only [List.mem_cons, List.not_mem_nil, or_false] at hj; omega
          · exact nA hj hm
        have l10 := k10.get l9 (out10 (by simp))
        have hDo : ∀ j ∈ blk s.D.a, j ∉ p :: q :: blk s.A.a := fun j hj hm => by
          have h1 := I9.sepD j hj
          have h2 := I9.DA j hj
          simp only [List.mem_cons, List.not_mem_nil, or_false, not_or] at hm h1
          rcases hm with x | x | x
          · exact h1.2.2.1 x
          · exact h1.2.2.2.1 x
          · exact h2 x
        have I10 : PInv h5.n (h7.n + 1) h7.n p q h.n (h.n + 1) (h.n + 2) (h.n + 3) c ⟨s.D, ⟨b', s.A.n + 1, c'⟩, s.addrs ++ [num t.z 4], s.data, s.n, bad5 s.bad t.z s.A.n⟩ h10 :=
          ⟨k10.get I9.mark (out10 (by simp)), P10, k10.get I9.g5 (out10 (by simp)), (fun x hx => (List.mem_append.1 hx).elim (I9.ab x) (fun y => by simp only [List.mem_singleton] at y; subst y; exact num_lt4 _)), I9.dl, I9.dv.keeps k10 hDo, (fun j hj => (ob' j hj).elim (I9.ownA j) (fun y => by omega)), (fun j hj => (ob' j hj).elim (I9.sepA j) (fun y hm => by simp only [List.mem_cons, List.not_mem_nil, or_false] at hm; omega)), I9.ownD, I9.sepD, (fun j hj hm => (ob' j hm).elim (I9.DA j hj) (fun y => by have := I9.dv.lt j hj; omega))⟩
        (refine Go.run (g:=?_))
        refine Go.roundEnd rfl l10 ?_
        have al := I9.P.al
        rw [h5k] at x1
        have R10 := x1.five ⟨b', s.A.n + 1, c'⟩
        rw [al] at R10
        refine ⟨⟨s.D, ⟨b', s.A.n + 1, c'⟩, s.addrs ++ [num t.z 4], s.data, s.n, bad5 s.bad t.z s.A.n⟩, fun b hb => ?_, fun _ => ⟨get_put_self l10, I10.loop ((Keeps.rfl _ _).put (by simp) _) (by omega) far, R10, by simp only; omega, by simp only; omega, by simp only [AHeap.n_put]; omega⟩, fun e => by cases e⟩
        rcases List.mem_append.1 hb with x | x
        · exact .inl (List.mem_append_left _ x)
        · rcases ob' b x with y | y
          · exact .inl (List.mem_append_right _ y)
          · exact .inr (by omega)
      by_cases h7k : t.k = 7
      · refine GoR.callW rfl rfl rfl rfl rfl rfl rfl (((one7_spec h9 p q _ _ _ (c.pd s.D s.A) s.addrs s.n s.bad I9.P (by omega) t.f t.a t.cap t.z).args (by rw [h7k]; rfl)).mono ?_)
        rintro _ h10 ⟨rfl, P10⟩ k10
        refine ⟨wcons (fun j hj => .inl hj), ?_⟩
        have m10 := k10.1
        have out10 : ∀ {j : Nat}, j ∈ [h7.n + 1, h7.n, h.n + 3] → j ∉ [p, q, h.n + 2] := fun hj hm => by
          simp only [List.mem_cons, List.not_mem_nil, or_false] at hj hm; omega
        have l10 := k10.get l9 (out10 (by simp))
        have I10 : PInv h5.n (h7.n + 1) h7.n p q h.n (h.n + 1) (h.n + 2) (h.n + 3) c ⟨⟨t.a, t.z.length, t.cap⟩, s.A, s.addrs, t.z, s.n + 1, bad7 s.bad c.k s.n t.z⟩ h10 :=
          ⟨k10.get I9.mark (out10 (by simp)), P10, k10.get I9.g5 (out10 (by simp)), I9.ab, rfl, Rv.keeps ok9 k10 (fun j hj hm => by have := hnw' j hj; simp only [List.mem_cons, List.not_mem_nil, or_false] at hm; omega), I9.ownA, I9.sepA, (fun j hj => by have := hta j hj; omega), (fun j hj hm => by have := hnw' j hj; have := hta j hj; simp only [List.mem_cons, List.not_mem_nil, or_false] at hm; omega), fun j hj => (hnw' j hj).2.2.2.2.2⟩
        (refine Go.run (g:=?_))
        refine Go.roundEnd rfl l10 ?_
        rw [h7k] at x1
        exact ⟨⟨⟨t.a, t.z.length, t.cap⟩, s.A, s.addrs, t.z, s.n + 1, bad7 s.bad c.k s.n t.z⟩, fun b hb => .inl hb, fun _ => ⟨get_put_self l10, I10.loop ((Keeps.rfl _ _).put (by simp) _) (by omega) far, x1.seven _, by simp only; omega, by simp only; omega, by simp only [AHeap.n_put]; omega⟩, fun e => by cases e⟩
      · refine GoR.call rfl rfl rfl rfl rfl rfl rfl (((oneX_spec h9 _ _ _ t.k tb.1 h5k h7k t.f t.a t.z.length t.cap).argA).mono ?_)
        rintro _ h10 rfl s10
        have m10 := s10.1
        have l10 := s10.get l9
        have I10 := I9.same s10
        by_cases hbig : 32768 ≤ t.k
        · rw [decide_eq_true hbig]
          (refine Go.run (g:=?_))
          refine Go.roundEnd rfl l10 ?_
          exact ⟨s, fun b hb => .inl hb, fun _ => ⟨get_put_self l10, I10.loop ((Keeps.rfl _ _).put (by simp) _) (by omega) far, x1.other h5k h7k hbig, by omega, by omega, by simp only [AHeap.n_put]; omega⟩, fun e => by cases e⟩
        · rw [decide_eq_false hbig]
          (refine Go.run (g:=?_))
          refine Go.roundEnd rfl l10 ?_
          exact ⟨s, fun b hb => .inl hb, (fun e => by cases e), fun _ => ⟨⟨_, _, _, _, _, get_put_self l10⟩, I10.loop ((Keeps.rfl _ _).put (by simp) _) (by omega) far, x1.stop h5k h7k (by omega)⟩⟩
    · rintro s H hbad ⟨x0, I, x1, x2, x3, x4⟩
      refine YieldS.of' x0 hN hr eps easg ebo rfl (by rfl) rfl (List.mem_cons_self ..) ?_
      (refine Go.run (g:=?_))
      refine Go.name ?_
      intro h8 e8
      have s8 : Same H h8 := by subst e8; exact ((Same.refl H).push _).put (Nat.le_refl _) _
      have n8 : h8.n = H.n + 1 := by subst e8; rfl
      skip
      clear e8
      refine Go.body (s8.get x0) ?_
      refine Go.name ?_
      intro h9 e9
      have k9 : Keeps [h7.n + 1] h8 h9 := by subst e9; exact (Keeps.rfl _ _).put (by simp) _
      have n9 : h9.n = h8.n := by subst e9; rfl
      have l9 : h9.get (h7.n + 1) = some (.loop .busy none tm ps asg bo h7.n) := by subst e9; exact get_put_self (s8.get x0)
      clear e9
      have far : ∀ j ∈ [p, q, h.n, h.n + 1, h.n + 2, h.n + 3], j ≠ h7.n + 1 := fun j hj => by simp only [List.mem_cons, List.not_mem_nil, or_false] at hj; omega
      have I9 := (I.same s8).loop k9 (by omega) far
      have gp9 := I9.P.gp
      have g29 := I9.P.g2
      obtain ⟨d1, d2, d3, d4, d5, d6, d7, d8, d9, d10⟩ := I9.P.ne
      have hWp : p ∈ (h7.n + 1) :: ([p, q, h.n + 2, h7.n] ++ blk s.A.a) ∨ H.n ≤ p := .inl (by simp)
      (refine Go.run (g:=?_))
      have l10 := get_put_other (o := some (.cells [.slice none 0 0, .bool true] 89)) (b := p) (show p ≠ h7.n + 1 by omega) l9
      refine Go.roundEnd rfl l10 ?_
      have hlp := I9.sepD
      have I10 : PInv h5.n (h7.n + 1) h7.n p q h.n (h.n + 1) (h.n + 2) (h.n + 3) c { s with bad := true } (h9.put p (some (.cells [.slice none 0 0, .bool true] 89))) :=
        ⟨get_put_other (by omega) I9.mark, ⟨get_put_other d2 I9.P.g2, get_put_other d3 I9.P.g3, get_put_other d4 I9.P.g4, get_put_other d1 I9.P.gq, get_put_self I9.P.gp, I9.P.sv.put (fun hm => I9.P.out _ hm (by simp)) _, I9.P.al, I9.P.ne, I9.P.out⟩, get_put_other (by omega) I9.g5, I9.ab, I9.dl, I9.dv.put (fun hm => I9.sepD _ hm (by simp)) _, I9.ownA, I9.sepA, I9.ownD, I9.sepD, I9.DA⟩
      have hw : (parse false zs).2 = false := by simpa using hbad
      rw [List.drop_length, hw] at x1
      exact ⟨{ s with bad := true }, ⟨_, _, _, _, _, get_put_self l10⟩, I10.loop ((Keeps.rfl _ _).put (by simp) _) (by omega) far, by rw [hw]; exact x1.ill⟩
  intro v H3 hres kp
  refine ⟨fun i hi => ?_, .inr (by omega), ?_⟩
  · simp only [List.mem_cons, List.mem_append, List.not_mem_nil, or_false, blk] at hi
    rcases hi with rfl | rfl | rfl | rfl | rfl
    · exact .inr (by omega)
    · exact .inl (by simp)
    · exact .inl (by simp)
    · exact .inr (by omega)
    · exact .inr (by omega)
  have fin : ∀ (s : Sg) (H4 : AHeap), PInv h5.n (h7.n + 1) h7.n p q h.n (h.n + 1) (h.n + 2) (h.n + 3) c s H3 → Keeps [h7.n + 1] H3 H4 → PFin c.k (parse false zs).2 (parse false zs).1 bad s → H4.get h7.n = some (.deferred true) ∧ ∃ s : Sg, (H4.put h7.n (some (.deferred false))).get q = some (.cells (c.pd s.D s.A).cs 43) ∧ RS (H4.put h7.n (some (.deferred false))) p none 0 [] s.bad ∧ Sv (H4.put h7.n (some (.deferred false))) 23 1 s.A.a s.A.n s.A.cap (w32s s.addrs) ∧ s.addrs.length = s.A.n ∧ (∀ x ∈ s.addrs, x < 4294967296) ∧ s.data.length = s.D.n ∧ Rv Try.prog (H4.put h7.n (some (.deferred false))) 1 s.D.a s.D.n s.D.cap (s.data.map bv) ∧ Own h.n s.A.a ∧ Own h.n s.D.a ∧ PFin c.k (parse false zs).2 (parse false zs).1 bad s := fun s H4 I k4 hf => by
    have far : ∀ j ∈ [p, q, h.n, h.n + 1, h.n + 2, h.n + 3], j ≠ h7.n + 1 := fun j hj => by simp only [List.mem_cons, List.not_mem_nil, or_false] at hj; omega
    have I4 := I.loop k4 (by omega) far
    refine ⟨I4.mark, s, get_put_other (by omega) I4.P.gq, ⟨get_put_other (by omega) I4.P.gp, Rv.nil, by simp [blk]⟩, I4.P.sv.put (fun hm => I4.sepA _ hm (by simp)) _, I4.P.al, I4.ab, I4.dl, I4.dv.put (fun hm => I4.sepD _ hm (by simp)) _, I4.ownA.mono (by omega), I4.ownD.mono (by omega), hf⟩
  rcases hres with ⟨s, hwell, x0, I, x1, x2, x3, x4⟩ | ⟨s, i, ⟨tm', ps', as', bo', df', hlp⟩, I, hf⟩
  · have hf : PFin c.k (parse false zs).2 (parse false zs).1 bad s := by
      rw [List.drop_length, hwell] at x1
      rw [hwell]
      exact x1.done
    refine ⟨_, _, _, _, _, _, _, .normal, x0, by rfl, rfl, ?_⟩
    refine Go.name ?_
    intro h9 e9
    have k9 : Keeps [h7.n + 1] H3 h9 := by subst e9; exact (Keeps.rfl _ _).put (by simp) _
    clear e9
    obtain ⟨mk, F⟩ := fin s h9 I k9 hf
    (refine Go.run (g:=?_))
    refine Go.fin_marks (.inl rfl) (by intro d hd; simp only [List.mem_singleton] at hd; omega) (takeAll_one mk) .nil ?_
    exact F
  · refine ⟨_, _, _, _, _, _, _, .ret, hlp, by rfl, rfl, ?_⟩
    refine Go.name ?_
    intro h9 e9
    have k9 : Keeps [h7.n + 1] H3 h9 := by subst e9; exact (Keeps.rfl _ _).put (by simp) _
    clear e9
    obtain ⟨mk, F⟩ := fin s h9 I k9 hf
    (refine Go.run (g:=?_))
    refine Go.fin_marks (.inr rfl) (by intro d hd; simp only [List.mem_singleton] at hd; omega) (takeAll_one mk) .nil ?_
    exact F
end Go.Proofs.Ytjpegoigipbmiaa