/- What the law leans on, part 6. No conditions. -/
import Derived.Test.YtcilcloieilgdaaGreatProg
import Derived.KernelRfl
import Derived.ProofKit
import Derived.OpenShut
import Derived.ChangeOld
import Derived.Test.YtcilcloieilgdaaGreatChecked
import Derived.Test.YtcilcloieilgdaaGreatModelMorePart5
set_option linter.unusedVariables false
set_option linter.unusedSimpArgs false
namespace Go.Proofs.YtcilcloieilgdaaGreat
instance : CT Tryz.prog 4 none := ⟨by kernel_rfl⟩
instance : SZ Tryz.prog 4 1 := ⟨by kernel_rfl⟩
instance : AL Tryz.prog 4 [.bool false] := ⟨by kernel_rfl⟩
instance : CT Tryz.prog 22 none := ⟨by kernel_rfl⟩
instance : CT Tryz.prog 23 none := ⟨by kernel_rfl⟩
instance : SZ Tryz.prog 23 1 := ⟨by kernel_rfl⟩
instance : EL Tryz.prog 23 (none, 4) := ⟨by kernel_rfl⟩
instance : UN Tryz.prog 23 (.slice 32) := ⟨by kernel_rfl⟩
instance : BS Tryz.prog 23 32 4 (.agg #[.int .u16 0, .bool false, .int .u32 0, .slice none 0 0]) := .of (by kernel_rfl) (by kernel_rfl) (by kernel_rfl) (by kernel_rfl) (by kernel_rfl)
instance : AP Tryz.prog 23 23 32 4 32 := .of (inf := Tryz.t32) (z := .agg #[.int .u16 0, .bool false, .int .u32 0, .slice none 0 0]) (e₂ := 32) (by kernel_rfl) (by kernel_rfl) (by kernel_rfl) (by kernel_rfl) (by kernel_rfl) (by kernel_rfl) (by decide) (by kernel_rfl) (by kernel_rfl)
instance : AL Tryz.prog 23 [.slice none 0 0] := ⟨by kernel_rfl⟩
instance : CT Tryz.prog 25 (some 5) := ⟨by kernel_rfl⟩
instance : SZ Tryz.prog 25 5 := ⟨by kernel_rfl⟩
instance : FO Tryz.prog 25 1 1 := ⟨by kernel_rfl⟩
instance : FO Tryz.prog 25 2 2 := ⟨by kernel_rfl⟩
instance : FO Tryz.prog 25 3 3 := ⟨by kernel_rfl⟩
instance : FO Tryz.prog 25 4 4 := ⟨by kernel_rfl⟩
instance : AL Tryz.prog 25 [.int .i64 0, .int .u32 0, .int .u32 0, .slice none 0 0, .slice none 0 0] := ⟨by kernel_rfl⟩
instance : CT Tryz.prog 29 none := ⟨by kernel_rfl⟩
instance : SZ Tryz.prog 29 1 := ⟨by kernel_rfl⟩
instance : CT Tryz.prog 30 none := ⟨by kernel_rfl⟩
instance : UN Tryz.prog 30 (.slice 5) := ⟨by kernel_rfl⟩
instance : CT Tryz.prog 32 (some 4) := ⟨by kernel_rfl⟩
instance : SZ Tryz.prog 32 4 := ⟨by kernel_rfl⟩
instance : FO Tryz.prog 32 0 0 := ⟨by kernel_rfl⟩
instance : FO Tryz.prog 32 1 1 := ⟨by kernel_rfl⟩
instance : FO Tryz.prog 32 2 2 := ⟨by kernel_rfl⟩
instance : FO Tryz.prog 32 3 3 := ⟨by kernel_rfl⟩
instance : AL Tryz.prog 32 [.int .u16 0, .bool false, .int .u32 0, .slice none 0 0] := ⟨by kernel_rfl⟩
instance : SZ Tryz.prog 63 0 := ⟨by kernel_rfl⟩
instance : ST Tryz.prog 63 [] [] := .of (z := .agg #[]) (fs := (match Tryz.prog.underlying 63 with | some (.struct fs) => fs | _ => #[])) (by kernel_rfl) (by kernel_rfl) (by kernel_rfl) (by kernel_rfl) (by kernel_rfl)
instance : AL Tryz.prog 63 [] := ⟨by kernel_rfl⟩
instance : BY Tryz.prog 30 9 := ⟨⟨5, by kernel_rfl, by kernel_rfl⟩, by kernel_rfl⟩
theorem noGlobals : Tryz.prog.globals.size = 0 := by kernel_rfl
end Go.Proofs.YtcilcloieilgdaaGreat
namespace Go.Proofs.YtcilcloieilgdaaGreat
set_option maxRecDepth 100000
open Go.ChangeShapes Go.WideShapes Go.ChangeAt Go.RowKit
structure MV where
  sid : Nat
  un : Bool
  pp : Nat
  z : List UInt8
  a : Option Addr
  cap : Nat
def MV.key (m : MV) : MKey := (m.sid, m.un, m.pp, m.z)
abbrev MV.cs (m : MV) : List Value := [.int .u16 m.sid, .bool m.un, .int .u32 m.pp, .slice m.a m.z.length m.cap]
abbrev MV.v (m : MV) : Value := .agg #[.int .u16 m.sid, .bool m.un, .int .u32 m.pp, .slice m.a m.z.length m.cap]
def mcs (l : List MV) : List Value := (l.map MV.cs).flatten
theorem mcs_cons (m : MV) (l : List MV) : mcs (m :: l) = m.cs ++ mcs l := rfl
theorem mcs_len : ∀ l : List MV, (mcs l).length = l.length * 4
  | [] => rfl
  | t :: l => by rw [mcs_cons, List.length_append, mcs_len l, List.length_cons]; simp only [List.length_cons, List.length_nil]; omega
theorem mcs_snoc (l : List MV) (m : MV) : mcs (l ++ [m]) = mcs l ++ m.cs := by simp [mcs]
theorem mcs_app (l l' : List MV) : mcs (l ++ l') = mcs l ++ mcs l' := by simp [mcs]
theorem mcs_get {l : List MV} {i : Nat} (hi : i < l.length) : ((mcs l).drop (i * 4)).take 4 = [.int .u16 l[i].sid, .bool l[i].un, .int .u32 l[i].pp, .slice l[i].a l[i].z.length l[i].cap] := by
  induction l generalizing i with
  | nil => simp at hi
  | cons a l ih =>
    cases i with
    | zero => rw [mcs_cons, Nat.zero_mul, List.drop_zero]; exact List.take_left' rfl
    | succ i =>
      rw [mcs_cons, show (i + 1) * 4 = (MV.cs a).length + i * 4 from by simp only [List.length_cons, List.length_nil]; omega, ← List.drop_drop, List.drop_left' rfl]
      simpa using ih (by simpa using hi)
theorem mcs_drop (l : List MV) (n : Nat) : (mcs l).drop (n * 4) = mcs (l.drop n) := by
  induction l generalizing n with
  | nil => simp [mcs]
  | cons a l ih =>
    cases n with
    | zero => simp
    | succ n => rw [mcs_cons, show (n + 1) * 4 = (MV.cs a).length + n * 4 from by simp only [List.length_cons, List.length_nil]; omega, ← List.drop_drop, List.drop_left' rfl, ih, List.drop_succ_cons]
theorem mcs_take (l : List MV) (n : Nat) : (mcs l).take (n * 4) = mcs (l.take n) := by
  rcases Nat.lt_or_ge l.length n with h | h
  · rw [List.take_of_length_le (by rw [mcs_len]; omega), List.take_of_length_le (by omega)]
  · have e : mcs l = mcs (l.take n) ++ mcs (l.drop n) := by rw [← mcs_app, List.take_append_drop]
    rw [e, List.take_left' (by rw [mcs_len, List.length_take, Nat.min_eq_left h])]
def MsgOk (h : AHeap) (m : MV) : Prop := Rv Tryz.prog h 1 m.a m.z.length m.cap (m.z.map bv)
theorem MsgOk.same {h h' : AHeap} {m : MV} (k : MsgOk h m) (s : Same h h') : MsgOk h' m := Rv.same k s
structure MS (h : AHeap) (a : Option Addr) (n cap : Nat) (l : List MV) : Prop where
  len : l.length = n
  rv : Rv Tryz.prog h 4 a n cap (mcs l)
  ok : ∀ m ∈ l, MsgOk h m
theorem MS.same {h h' : AHeap} {a : Option Addr} {n cap : Nat} {l : List MV} (k : MS h a n cap l) (s : Same h h') : MS h' a n cap l := ⟨k.len, k.rv.same s, fun x hx => (k.ok x hx).same s⟩
theorem u8b : Tryz.prog.underlying 5 = some (.int .u8) := by kernel_rfl
theorem u16b : Tryz.prog.underlying 29 = some (.int .u16) := by kernel_rfl
theorem u32b : Tryz.prog.underlying 22 = some (.int .u32) := by kernel_rfl
theorem bytesB : Tryz.prog.underlying 30 = some (.slice 5) := by kernel_rfl
theorem boolU : Tryz.prog.underlying 4 = some .bool := by kernel_rfl
theorem intB : Tryz.prog.underlying 3 = some (.int .i64) := by kernel_rfl
theorem msgsB : Tryz.prog.underlying 23 = some (.slice 32) := by kernel_rfl
theorem u8W5 : Tryz.prog.bytesOf 5 = 1 := by kernel_rfl
theorem cells_ofP {α : Type} {f : α → List Value} {p : α → Prop} {sz : Nat} (hf : ∀ x, (f x).length = sz) : ∀ (len : Nat) (c : List Value), c.length = len * sz → (∀ i, i < len → ∃ x, (c.drop (i * sz)).take sz = f x ∧ p x) → ∃ l : List α, l.length = len ∧ c = (l.map f).flatten ∧ ∀ x ∈ l, p x
  | 0, c, hl, _ => ⟨[], rfl, by simpa using hl, fun x hx => by cases hx⟩
  | n + 1, c, hl, each => by
    obtain ⟨x, e, hp⟩ := each 0 (by omega)
    rw [Nat.zero_mul, List.drop_zero] at e
    obtain ⟨l, h1, h2, h3⟩ := cells_ofP hf n (c.drop sz) (by rw [List.length_drop, hl, Nat.succ_mul]; omega) (fun i hi => by
      have := each (i + 1) (by omega)
      rwa [show (i + 1) * sz = sz + i * sz from by rw [Nat.succ_mul]; omega, ← List.drop_drop] at this)
    refine ⟨x :: l, by simp [h1], ?_, fun y hy => ?_⟩
    · rw [← List.take_append_drop sz c, e, h2]; simp
    · rcases List.mem_cons.1 hy with rfl | hy
      · exact hp
      · exact h3 y hy
theorem len_le {n b : Nat} (hb : 0 < b) (h : n * b ≤ reachBytes) : n ≤ 140737488355328 := by
  have := reachBytes_lt
  have : n ≤ n * b := Nat.le_mul_of_pos_right n hb
  omega
structure MIn (h : AHeap) (m : MV) : Prop where
  ok : MsgOk h m
  sid : m.sid < 65536
  pp : m.pp < 4294967296
  len : m.z.length ≤ 140737488355328
theorem MIn.same {h h' : AHeap} {m : MV} (k : MIn h m) (s : Same h h') : MIn h' m := { k with ok := k.ok.same s }
theorem msg_of {h : AHeap} {H : Type} {cs : List Value} {d : DataW H} (r : ARd Tryz.prog h 32 cs d) (z : Sized Tryz.prog 32 d) : ∃ m : MV, cs = m.cs ∧ MIn h m := by
  obtain ⟨hl, hf⟩ := r.fieldZ z Tryz.underlying32
  rw [show Tryz.prog.cellsOf 32 = 4 from by kernel_rfl] at hl
  match cs, hl with
  | [c0, c1, c2, c3], _ =>
    obtain ⟨d0, r0, -⟩ := hf 0 29 0 1 rfl (by kernel_rfl)
    obtain ⟨d1, r1, -⟩ := hf 1 4 1 1 rfl (by kernel_rfl)
    obtain ⟨d2, r2, -⟩ := hf 2 22 2 1 rfl (by kernel_rfl)
    obtain ⟨d3, r3, z3⟩ := hf 3 30 3 1 rfl (by kernel_rfl)
    obtain ⟨n, e0, b0⟩ := r0.u_inv rfl u16b
    obtain ⟨b, e1⟩ := r1.bool_inv boolU
    obtain ⟨p, e2, b2⟩ := r2.u_inv rfl u32b
    obtain ⟨a, cap, zs, e3, hR, hm, hZ⟩ := r3.bytesZ z3 bytesB u8b (by kernel_rfl) u8W5
    simp at e0 e1 e2 e3
    subst e0 e1 e2 e3
    exact ⟨⟨n, b, p, zs, a, cap⟩, rfl, hR, b0, b2, hZ⟩
theorem msgs_of {h : AHeap} {H : Type} {cs : List Value} {d : DataW H} (r : ARd Tryz.prog h 23 cs d) (z : Sized Tryz.prog 23 d) : ∃ (a : Option Addr) (cap : Nat) (l : List MV), cs = [.slice a l.length cap] ∧ MS h a l.length cap l ∧ (∀ x ∈ l, MIn h x) ∧ l.length ≤ 140737488355328 := by
  obtain ⟨a, len, cap, c, rfl, hR, hm, hlen, hel⟩ := r.slice_invZ z msgsB
  rw [show Tryz.prog.cellsOf 32 = 4 from by kernel_rfl] at hR hel
  obtain ⟨l, rfl, rfl, hp⟩ := cells_ofP (f := MV.cs) (p := MIn h) (sz := 4) (fun _ => rfl) len c hR.length fun i hi => by
    obtain ⟨d', r', z'⟩ := hel i hi
    exact msg_of r' z'
  exact ⟨a, cap, l, rfl, ⟨rfl, hR, fun x hx => (hp x hx).ok⟩, hp, len_le (show 0 < Tryz.prog.bytesOf 32 from of_decide_eq_true (by kernel_rfl)) hlen⟩
structure LV where
  id : Int
  mine : Nat
  peer : Nat
  sa : Option Addr
  sc : Nat
  sent : List MV
  ga : Option Addr
  gc : Nat
  got : List MV
abbrev LV.cs (x : LV) : List Value := [.int .i64 x.id, .int .u32 x.mine, .int .u32 x.peer, .slice x.sa x.sent.length x.sc, .slice x.ga x.got.length x.gc]
abbrev LV.v (x : LV) : Value := .agg #[.int .i64 x.id, .int .u32 x.mine, .int .u32 x.peer, .slice x.sa x.sent.length x.sc, .slice x.ga x.got.length x.gc]
structure LIn (h : AHeap) (x : LV) : Prop where
  s : MS h x.sa x.sent.length x.sc x.sent
  g : MS h x.ga x.got.length x.gc x.got
  sm : ∀ m ∈ x.sent, MIn h m
  gm : ∀ m ∈ x.got, MIn h m
  sl : x.sent.length ≤ 140737488355328
  gl : x.got.length ≤ 140737488355328
theorem LIn.same {h h' : AHeap} {x : LV} (k : LIn h x) (e : Same h h') : LIn h' x := { k with s := k.s.same e, g := k.g.same e, sm := fun m hm => (k.sm m hm).same e, gm := fun m hm => (k.gm m hm).same e }
theorem line_of {h : AHeap} {H : Type} {cs : List Value} {d : DataW H} (r : ARd Tryz.prog h 25 cs d) (z : Sized Tryz.prog 25 d) : ∃ x : LV, cs = x.cs ∧ LIn h x := by
  obtain ⟨hl, hf⟩ := r.fieldZ z Tryz.underlying25
  rw [show Tryz.prog.cellsOf 25 = 5 from by kernel_rfl] at hl
  match cs, hl with
  | [c0, c1, c2, c3, c4], _ =>
    obtain ⟨d0, r0, -⟩ := hf 0 3 0 1 rfl (by kernel_rfl)
    obtain ⟨d1, r1, -⟩ := hf 1 22 1 1 rfl (by kernel_rfl)
    obtain ⟨d2, r2, -⟩ := hf 2 22 2 1 rfl (by kernel_rfl)
    obtain ⟨d3, r3, z3⟩ := hf 3 23 3 1 rfl (by kernel_rfl)
    obtain ⟨d4, r4, z4⟩ := hf 4 23 4 1 rfl (by kernel_rfl)
    obtain ⟨n, e0, -⟩ := r0.int_inv intB
    obtain ⟨b, e1, -⟩ := r1.u_inv rfl u32b
    obtain ⟨p, e2, -⟩ := r2.u_inv rfl u32b
    obtain ⟨a, cap, l, e3, hs, hp, hn⟩ := msgs_of r3 z3
    obtain ⟨a', cap', l', e4, hs', hp', hn'⟩ := msgs_of r4 z4
    simp at e0 e1 e2 e3 e4
    subst e0 e1 e2 e3 e4
    exact ⟨⟨n, b, p, a, cap, l, a', cap', l'⟩, rfl, hs, hs', hp, hp', hn, hn'⟩
theorem plainLine : plainB Tryz.prog 6 25 = true := by kernel_rfl
theorem plainMsgs : plainB Tryz.prog 6 23 = true := by kernel_rfl
end Go.Proofs.YtcilcloieilgdaaGreat
namespace Go.Proofs.YtcilcloieilgdaaGreat
set_option maxRecDepth 100000
attribute [local irreducible] Go GoR GoL
theorem Keeps.rfl (wr : List Nat) (h : AHeap) : Keeps wr h h := ⟨Nat.le_refl _, fun _ _ _ => Eq.refl _⟩
theorem Keeps.put {wr : List Nat} {h h' : AHeap} (k : Keeps wr h h') {b : Nat} (hb : b ∈ wr) (o : Option AObj) : Keeps wr h (h'.put b o) := ⟨k.1, fun i hi hn => by rw [AHeap.get_put_ne _ _ (fun e => hn (by rw [← e]; exact hb))]; exact k.2 i hi hn⟩
theorem bequal_spec (a : Option Addr) (cap : Nat) (zs : List UInt8) (a' : Option Addr) (cap' : Nat) (zs' : List UInt8) (h : AHeap) (hz : Rv Tryz.prog h 1 a zs.length cap (zs.map bv)) (hz' : Rv Tryz.prog h 1 a' zs'.length cap' (zs'.map bv)) : CallS Tryz.prog [] 33 [.slice a zs.length cap, .slice a' zs'.length cap'] h fun v h' => v = .bool (decide (zs = zs')) := by
  (refine CallS.of2 Tryz.func33 rfl Tryz.ntmps33 Tryz.results33 rfl ?_)
  (refine Go.run (g:=?_))
  (first|refine Go.finT (by first|exact .inr rfl|exact .inl rfl) rfl ?_|refine Go.fin1 (by first|exact .inr rfl|exact .inl rfl) rfl (hq:=?_))
  rfl
set_option maxHeartbeats 4000000 in
theorem sameM_spec (m m' : MV) (h : AHeap) (hz : MsgOk h m) (hz' : MsgOk h m') : CallS Tryz.prog [] 25 [m.v, m'.v] h fun v h' => v = .bool (decide (m.key = m'.key)) := by
  obtain ⟨sid, un, pp, z, a, cap⟩ := m
  obtain ⟨sid', un', pp', z', a', cap'⟩ := m'
  simp only [MV.v, MV.key, MsgOk] at *
  by_cases e1 : sid = sid'
  · subst e1
    by_cases e2 : un = un'
    · subst e2
      by_cases e3 : pp = pp'
      · subst e3
        (refine CallS.of2 Tryz.func25 rfl Tryz.ntmps25 Tryz.results25 rfl ?_)
        (refine Go.run (g:=?_))
        refine GoR.boolEq rfl rfl rfl rfl rfl rfl boolU ?_
        rw [beq_self_eq_true]
        (refine Go.run (g:=?_))
        refine GoR.call rfl rfl rfl rfl rfl rfl rfl (((bequal_spec a cap z a' cap' z' _ (hz.same (((Same.refl h).push _).push _)) (hz'.same (((Same.refl h).push _).push _))).argA).mono ?_)
        rintro _ h9 rfl s9
        (refine Go.run (g:=?_))
        (first|refine Go.finT (by first|exact .inr rfl|exact .inl rfl) rfl ?_|refine Go.fin1 (by first|exact .inr rfl|exact .inl rfl) rfl (hq:=?_))
        simp [retV]
      · have e3' : ¬ (pp : Int) = (pp' : Int) := by omega
        (refine CallS.of2 Tryz.func25 rfl Tryz.ntmps25 Tryz.results25 rfl ?_)
        (refine Go.run (g:=?_))
        refine GoR.boolEq rfl rfl rfl rfl rfl rfl boolU ?_
        rw [beq_self_eq_true]
        (refine Go.run (g:=?_))
        (first|refine Go.finT (by first|exact .inr rfl|exact .inl rfl) rfl ?_|refine Go.fin1 (by first|exact .inr rfl|exact .inl rfl) rfl (hq:=?_))
        simp [retV, e3]
    · have e2' : (un == un') = false := by cases un <;> cases un' <;> simp_all
      (refine CallS.of2 Tryz.func25 rfl Tryz.ntmps25 Tryz.results25 rfl ?_)
      (refine Go.run (g:=?_))
      refine GoR.boolEq rfl rfl rfl rfl rfl rfl boolU ?_
      rw [e2']
      (refine Go.run (g:=?_))
      (first|refine Go.finT (by first|exact .inr rfl|exact .inl rfl) rfl ?_|refine Go.fin1 (by first|exact .inr rfl|exact .inl rfl) rfl (hq:=?_))
      simp [retV, e2]
  · have e1' : ¬ (sid : Int) = (sid' : Int) := by omega
    (refine CallS.of2 Tryz.func25 rfl Tryz.ntmps25 Tryz.results25 rfl ?_)
    (refine Go.run (g:=?_))
    (first|refine Go.finT (by first|exact .inr rfl|exact .inl rfl) rfl ?_|refine Go.fin1 (by first|exact .inr rfl|exact .inl rfl) rfl (hq:=?_))
    simp [retV, e1]
theorem mcs_at {l : List MV} {i j : Nat} (hi : i < l.length) (hj : j < 4) : (mcs l)[i * 4 + j]? = (l[i].cs)[j]? := by
  rw [← show ((mcs l).drop (i * 4)).take 4 = l[i].cs from mcs_get hi, List.getElem?_take_of_lt hj, List.getElem?_drop]
theorem mcs_3 {l : List MV} {i : Nat} (hi : i < l.length) : (mcs l)[i * 4 + 3]? = some (.slice l[i].a l[i].z.length l[i].cap) := mcs_at (j := 3) hi (by decide)
def pickV (l : List MV) (sid : Nat) (un : Bool) : List MV := l.filter fun m => decide (m.sid = sid) && decide (m.un = un)
theorem pickV_key (l : List MV) (sid : Nat) (un : Bool) : (pickV l sid un).map MV.key = pickM (l.map MV.key) sid un := by
  simp only [pickV, pickM, List.filter_map]; rfl
theorem pickV_len (l : List MV) (sid : Nat) (un : Bool) : (pickV l sid un).length ≤ l.length := List.length_filter_le _ _
theorem pickV_mem {l : List MV} {sid : Nat} {un : Bool} {m : MV} (h : m ∈ pickV l sid un) : m ∈ l := (List.mem_filter.1 h).1
theorem pickV_in {l : List MV} {sid : Nat} {un : Bool} {i : Nat} (hi : i < l.length) (h1 : l[i].sid = sid) (h2 : l[i].un = un) : pickV (l.take (i + 1)) sid un = pickV (l.take i) sid un ++ [l[i]] := by
  rw [take_snoc hi]; unfold pickV; rw [List.filter_append, List.filter_cons_of_pos (by simp [h1, h2]), List.filter_nil]
theorem pickV_out {l : List MV} {sid : Nat} {un : Bool} {i : Nat} (hi : i < l.length) (h : ¬ (l[i].sid = sid ∧ l[i].un = un)) : pickV (l.take (i + 1)) sid un = pickV (l.take i) sid un := by
  rw [take_snoc hi]; simp only [pickV, List.filter_append]
  rw [List.filter_cons_of_neg (by simpa using h)]; simp
structure MRow (B : Nat) (h : AHeap) (a : Option Addr) (cap : Nat) (ms : List MV) : Prop where
  sv : Sv h 32 4 a ms.length cap (mcs ms)
  own : Own B a
theorem MRow.same {B : Nat} {h h' : AHeap} {a : Option Addr} {cap : Nat} {ms : List MV} (k : MRow B h a cap ms) (s : Same h h') : MRow B h' a cap ms := ⟨k.sv.same s, k.own⟩
end Go.Proofs.YtcilcloieilgdaaGreat
namespace Go.Proofs.YtcilcloieilgdaaGreat
set_option maxRecDepth 100000
attribute [local irreducible] Go GoR GoL
theorem Same.keepsN {h₀ h h' : AHeap} {wr : List Nat} (s : Same h₀ h) (k : Keeps wr h h') (hw : ∀ b ∈ wr, h₀.n ≤ b) : Same h₀ h' := ⟨Nat.le_trans s.1 k.1, fun i hi => (k.2 i (by have := s.1; omega) (fun hm => by have := hw i hm; omega)).trans (s.2 i hi)⟩
theorem pickV_hit {l : List MV} {sid : Nat} {un : Bool} {i : Nat} (hi : i < l.length) (h1 : l[i].sid = sid) (h2 : l[i].un = un) : (pickV l sid un)[(pickV (l.take i) sid un).length]? = some l[i] := by
  have e : pickV l sid un = pickV (l.take i) sid un ++ (l[i] :: pickV (l.drop (i + 1)) sid un) := by
    conv => lhs; rw [← List.take_append_drop i l, List.drop_eq_getElem_cons hi]
    simp only [pickV, List.filter_append]
    rw [List.filter_cons_of_pos (by simp [h1, h2])]
  rw [e, List.getElem?_append_right (Nat.le_refl _), Nat.sub_self]; rfl
structure OfC (h : AHeap) (bb cb db : Nat) (a : Option Addr) (cap : Nat) (l : List MV) (sid : Nat) (un : Bool) : Prop where
  b : h.get bb = some (.cells [.slice a l.length cap] 23)
  c : h.get cb = some (.cells [.int .u16 sid] 29)
  d : h.get db = some (.cells [.bool un] 4)
  s : MS h a l.length cap l
  n : l.length ≤ 1000000
theorem OfC.same {h h' : AHeap} {bb cb db : Nat} {a : Option Addr} {cap : Nat} {l : List MV} {sid : Nat} {un : Bool} (k : OfC h bb cb db a cap l sid un) (s : Same h h') : OfC h' bb cb db a cap l sid un := ⟨s.get k.b, s.get k.c, s.get k.d, k.s.same s, k.n⟩
abbrev ofV (bb cb db : Nat) : Value := .func (.func 26) #[] #[.pointer (some ⟨bb, 0, none⟩), .pointer (some ⟨cb, 0, none⟩), .pointer (some ⟨db, 0, none⟩)]
theorem of_spec (a : Option Addr) (cap : Nat) (l : List MV) (sid : Nat) (un : Bool) (hl : l.length ≤ 1000000) (h : AHeap) (hz : MS h a l.length cap l) : CallS Tryz.prog [] 19 [.slice a l.length cap, .int .u16 sid, .bool un] h fun v h' => ∃ bb cb db, v = ofV bb cb db ∧ OfC h' bb cb db a cap l sid un := by
  (refine CallS.of3 Tryz.func19 rfl Tryz.ntmps19 Tryz.results19 rfl ?_)
  (refine Go.run (g:=?_))
  (first|refine Go.finT (by first|exact .inr rfl|exact .inl rfl) rfl ?_|refine Go.fin1 (by first|exact .inr rfl|exact .inl rfl) rfl (hq:=?_))
  have s : Same h (((h.push (.cells [.slice a l.length cap] 23)).push (.cells [.int .u16 sid] 29)).push (.cells [.bool un] 4)) := (((Same.refl h).push _).push _).push _
  exact ⟨h.n, h.n + 1, h.n + 2, rfl, get_push_lt (get_push_lt (AHeap.get_push_same h _)), get_push_lt (AHeap.get_push_same (h.push _) _), AHeap.get_push_same ((h.push _).push _) _, hz.same s, hl⟩
structure Yo (h0 : AHeap) (l : Nat) {σ : Type} (wrO : σ → List Nat) (inv stop : σ → Nat → AHeap → Prop) (items : List MV) : Prop where
  same : ∀ s i h h', inv s i h → Same h h' → inv s i h'
  low : ∀ s i h, inv s i h → Same h0 h ∧ ∀ b ∈ l :: wrO s, h0.n ≤ b ∧ b < h.n
  item : ∀ s i h (t : MV), inv s i h → items[i]? = some t → MsgOk h0 t → YieldS Tryz.prog (l :: wrO s) l [t.v] h fun c h' => ∃ s', (∀ b ∈ wrO s', b ∈ wrO s ∨ h.n ≤ b) ∧ (c = true → inv s' (i + 1) h') ∧ (c = false → stop s' (i + 1) h')
set_option maxHeartbeats 16000000 in
theorem of1_spec {l : Nat} {σ : Type} {wrO : σ → List Nat} {inv stop : σ → Nat → AHeap → Prop} (h0 : AHeap) (bb cb db : Nat) (a : Option Addr) (cap : Nat) (L : List MV) (sid : Nat) (un : Bool) (O : OfC h0 bb cb db a cap L sid un) (h : AHeap) (s0 : σ) (Y : Yo h0 l wrO inv stop (pickV L sid un)) (hi0 : inv s0 0 h) :
    CallS Tryz.prog (l :: wrO s0) 26 [.func (.yield l) #[] #[], .pointer (some ⟨bb, 0, none⟩), .pointer (some ⟨cb, 0, none⟩), .pointer (some ⟨db, 0, none⟩)] h fun v h' => (∃ s, inv s (pickV L sid un).length h') ∨ ∃ s i, stop s i h' := by
  have hS := (Y.low _ _ _ hi0).1
  have O1 := O.same hS
  have ob := O1.b
  have orv := O1.s.rv
  have hL := O.n
  (refine CallS.of4 Tryz.func26 rfl Tryz.ntmps26 Tryz.results26 rfl ?_)
  (refine Go.run (g:=?_))
  refine Go.loop (α := Nat × σ × AHeap) (fun x => [(9, .int .i64 x.1), (8, .int .i64 L.length), (7, .slice a L.length cap), (0, .func (.yield l) #[] #[]), (2, .pointer (some ⟨cb, 0, none⟩)), (3, .pointer (some ⟨db, 0, none⟩))]) (fun _ => []) (fun x => x.2.2) (fun x => x.1 ≤ L.length ∧ inv x.2.1 (pickV (L.take x.1) sid un).length x.2.2 ∧ (∀ b ∈ wrO x.2.1, b ∈ wrO s0 ∨ h.n ≤ b) ∧ h.n ≤ x.2.2.n) (fun x => L.length - x.1) (0, s0, h) ?_ ?_ rfl rfl ?_
  · exact ⟨Nat.zero_le _, hi0, fun b hb => .inl hb, Nat.le_refl _⟩
  · exact ⟨rfl, rfl, rfl, rfl, rfl, rfl, trivial⟩
  rintro ⟨i, s, h1⟩ ⟨hi, hi1, hw1, hn1⟩
  simp only at hi hi1 hw1 hn1 ⊢
  rcases Nat.lt_or_ge i L.length with i0 | i0
  · have S1 := (Y.low _ _ _ hi1).1
    have r1 := O.s.rv.same S1
    have oc := S1.get O.c
    have od := S1.get O.d
    have om := O.s.ok L[i] (List.getElem_mem i0)
    have cr0 := mcs_get i0
    have hbr : i * 4 + 4 ≤ (mcs L).length := by rw [mcs_len]; omega
    have hit := pickV_hit (sid := sid) (un := un) i0
    have pin := pickV_in (sid := sid) (un := un) i0
    have pout := pickV_out (sid := sid) (un := un) i0
    generalize hm : L[i] = m at *
    obtain ⟨sid', un', pp, z, a', cap'⟩ := m
    simp only at cr0 hit pin pout
    (refine Go.run (g:=?_))
    refine GoR.name ?_
    intro h4 e4
    have s4 : Same h1 h4 := by subst e4; exact ((Same.refl h1).push _).put (Nat.le_refl _) _
    have gm4 : h4.get h1.n = some (.cells [.int .u16 sid', .bool un', .int .u32 pp, .slice a' z.length cap'] 32) := by subst e4; exact AHeap.get_put_same _ (by simp) _
    clear e4 cr0 hbr
    have oc4 := s4.get oc
    have od4 := s4.get od
    have hi4 := Y.same _ _ _ _ hi1 s4
    have n4 := s4.1
    by_cases e1 : sid' = sid
    · subst e1
      by_cases e2 : un' = un
      · subst e2
        have hit := hit rfl rfl
        have pin := pin rfl rfl
        (refine Go.run (g:=?_))
        refine GoR.boolEq rfl rfl rfl rfl rfl rfl boolU ?_
        rw [beq_self_eq_true]
        (refine Go.run (g:=?_))
        refine GoR.yield rfl rfl rfl rfl rfl rfl ((Y.item s _ h4 ⟨sid', un', pp, z, a', cap'⟩ hi4 hit om).mono ?_)
        rintro cc h9 ⟨s', hw', ht, hf⟩ k9
        have m9 := k9.1
        refine ⟨fun b hb => ?_, ?_⟩
        · rcases List.mem_cons.1 hb with rfl | hb
          · exact .inl (List.mem_cons_self ..)
          · exact (hw1 b hb).imp (fun x => List.mem_cons_of_mem _ x) id
        cases cc
        · (refine Go.run (g:=?_))
          (first|refine Go.finT (by first|exact .inr rfl|exact .inl rfl) rfl ?_|refine Go.fin1 (by first|exact .inr rfl|exact .inl rfl) rfl (hq:=?_))
          exact .inr ⟨s', _, hf rfl⟩
        · have hi9 := ht rfl
          (refine Go.run (g:=?_))
          refine Go.again (i + 1, s', h9) ⟨by simp only; omega, ?_, fun b hb => ?_, by simp only; omega⟩ (by simp only; omega) ⟨rfl, rfl, rfl, rfl, rfl, rfl, trivial⟩ rfl rfl
          · simp only; rw [pin, List.length_append]; exact hi9
          · rcases hw' b hb with x | x
            · exact hw1 b x
            · exact .inr (by omega)
      · have e2' : (un' == un) = false := by simpa using e2
        have pout := pout (fun x => e2 x.2)
        (refine Go.run (g:=?_))
        refine GoR.boolEq rfl rfl rfl rfl rfl rfl boolU ?_
        rw [e2']
        (refine Go.run (g:=?_))
        exact Go.again (i + 1, s, h4) ⟨by simp only; omega, by simp only; rw [pout]; exact hi4, hw1, by simp only; omega⟩ (by simp only; omega) ⟨rfl, rfl, rfl, rfl, rfl, rfl, trivial⟩ rfl rfl
    · have e1' : ¬ (sid' : Int) = (sid : Int) := by omega
      have pout := pout (fun x => e1 x.1)
      (refine Go.run (g:=?_))
      exact Go.again (i + 1, s, h4) ⟨by simp only; omega, by simp only; rw [pout]; exact hi4, hw1, by simp only; omega⟩ (by simp only; omega) ⟨rfl, rfl, rfl, rfl, rfl, rfl, trivial⟩ rfl rfl
  · rw [List.take_of_length_le i0] at hi1
    (refine Go.run (g:=?_))
    (first|refine Go.finT (by first|exact .inr rfl|exact .inl rfl) rfl ?_|refine Go.fin1 (by first|exact .inr rfl|exact .inl rfl) rfl (hq:=?_))
    exact .inl ⟨s, hi1⟩
end Go.Proofs.YtcilcloieilgdaaGreat
namespace Go.Proofs.YtcilcloieilgdaaGreat
set_option maxRecDepth 100000
attribute [local irreducible] Go GoR GoL
theorem takeAll_one {h : AHeap} {d : Nat} (g : h.get d = some (.deferred true)) : takeAll h [d] = some (h.put d (some (.deferred false))) := by simp [takeAll, g]
theorem MRow.keeps {B : Nat} {h h' : AHeap} {a : Option Addr} {cap : Nat} {ms : List MV} {wr : List Nat} (k : MRow B h a cap ms) (kp : Keeps wr h h') (h1 : ∀ i ∈ blk a, i ∉ wr) : MRow B h' a cap ms := ⟨k.sv.keeps kp h1, k.own⟩
theorem MRow.snoc {B : Nat} {h h' : AHeap} {a a₂ : Option Addr} {cap cap₂ : Nat} {ms : List MV} {t : MV} (k : MRow B h a cap ms) (hn : B ≤ h.n) (sv : Sv h' 32 4 a₂ (ms.length + 1) cap₂ (mcs ms ++ t.cs)) (o : ∀ i ∈ blk a₂, i ∈ blk a ∨ h.n ≤ i) : MRow B h' a₂ cap₂ (ms ++ [t]) := ⟨by rw [mcs_snoc, List.length_append]; exact sv, fun j hj => (o j hj).elim (k.own j) (fun x => by omega)⟩
structure CInv (h0 : AHeap) (tm : List Value) (ps : Array Tmp) (asg bo : Code) (l d ob : Nat) (items : List MV) (s : Option Addr × Nat) (i : Nat) (h : AHeap) : Prop where
  loop : h.get l = some (.loop .ready none tm ps asg bo d)
  mark : h.get d = some (.deferred true)
  out : h.get ob = some (.cells [.slice s.1 (items.take i).length s.2] 23)
  row : MRow (l + 1) h s.1 s.2 (items.take i)
  le : i ≤ items.length
  same : Same h0 h
  n : l + 1 ≤ h.n
set_option maxHeartbeats 16000000 in
theorem aseq_spec (bb cb db : Nat) (a : Option Addr) (cap : Nat) (L : List MV) (sid : Nat) (un : Bool) (h : AHeap) (O : OfC h bb cb db a cap L sid un) : CallS Tryz.prog [] 32 [.slice none 0 0, ofV bb cb db] h fun v h' => ∃ b c, v = .slice b (pickV L sid un).length c ∧ MRow h.n h' b c (pickV L sid un) := by
  have hpl := Nat.le_trans (pickV_len L sid un) O.n
  (refine CallS.of2 Tryz.func32 rfl Tryz.ntmps32 Tryz.results32 rfl ?_)
  (refine Go.run (g:=?_))
  refine Go.name ?_
  intro h1 e1
  have s1 : Same h h1 := by subst e1; exact (Same.refl h).push _
  have n1 : h1.n = h.n + 1 := by subst e1; rfl
  have g1 : h1.get h.n = some (.cells [.slice none 0 0] 23) := by subst e1; exact AHeap.get_push_same h _
  clear e1
  refine Go.rangeFunc' (wr := [h1.n + 1, h.n, h1.n]) rfl (by rfl) (by kernel_rfl) ?_
  intro tm ps asg bo HH eps easg ebo eH hN hr
  have Hs : Same h1 HH := by subst eH; exact ((Same.refl h1).push _).push _
  have Hl : HH.get (h1.n + 1) = some (.loop .ready none tm ps asg bo h1.n) := by subst eH; exact AHeap.get_push_same (h1.push _) _
  have Hd : HH.get h1.n = some (.deferred true) := by subst eH; exact get_push_lt (AHeap.get_push_same _ _)
  have Hn : HH.n = h1.n + 2 := by subst eH; rfl
  clear eH
  have go0 := Hs.get g1
  have S0 := s1.trans Hs
  generalize hit0 : pickV L sid un = items at *
  refine ((of1_spec (l := h1.n + 1) (σ := Option Addr × Nat) (wrO := fun s => [h.n, h1.n] ++ blk s.1) (inv := fun s i H => CInv h tm ps asg bo (h1.n + 1) h1.n h.n items s i H) (stop := fun s i H => False) h bb cb db a cap L sid un O HH (none, 0) ?Y ?i0).args rfl).mono ?_
  case i0 => exact ⟨Hl, Hd, go0, ⟨.nil, Own.nil _⟩, Nat.zero_le _, S0, by omega⟩
  case Y =>
    rw [hit0]
    refine ⟨?_, ?_, ?_⟩
    · rintro s i H H' I sm
      exact ⟨sm.get I.loop, sm.get I.mark, sm.get I.out, I.row.same sm, I.le, I.same.trans sm, Nat.le_trans I.n sm.1⟩
    · rintro s i H I
      refine ⟨I.same, fun b hb => ?_⟩
      have hIn := I.n
      simp only [List.mem_cons, List.mem_append, List.not_mem_nil, or_false] at hb
      rcases hb with rfl | (rfl | rfl) | hb
      · omega
      · omega
      · omega
      · have := I.row.own _ hb
        exact ⟨by omega, I.row.sv.lt _ hb⟩
    · rintro ⟨oa, oc⟩ i H t I hit hok
      have hib : i < items.length := (List.getElem?_eq_some_iff.1 hit).1
      have etk : items.take (i + 1) = items.take i ++ [t] := by rw [List.take_add_one, hit]; rfl
      have hlt : (items.take i).length = i := by rw [List.length_take]; omega
      have hIn := I.n
      refine YieldS.of' I.loop hN hr eps easg ebo rfl (by rfl) rfl (List.mem_cons_self ..) ?_
      (refine Go.run (g:=?_))
      refine Go.name ?_
      intro h5 e5
      have s5 : Same H h5 := by subst e5; exact ((Same.refl H).push _).put (Nat.le_refl _) _
      have n5 : h5.n = H.n + 1 := by subst e5; rfl
      have g5 : h5.get H.n = some (.cells [.int .u16 t.sid, .bool t.un, .int .u32 t.pp, .slice t.a t.z.length t.cap] 32) := by subst e5; exact AHeap.get_put_same _ (by simp) _
      clear e5
      refine Go.body (s5.get I.loop) ?_
      refine Go.name ?_
      intro h6 e6
      have k6 : Keeps [h1.n + 1] h5 h6 := by subst e6; exact (Keeps.rfl _ _).put (by simp) _
      have n6 : h6.n = h5.n := by subst e6; rfl
      have l6 : h6.get (h1.n + 1) = some (.loop .busy none tm ps asg bo h1.n) := by subst e6; exact get_put_self (s5.get I.loop)
      clear e6
      have Iout : H.get h.n = some (.cells [.slice oa (items.take i).length oc] 23) := I.out
      have go6 := k6.get (s5.get Iout) (by simp; omega)
      have gt6 := k6.get g5 (by simp; omega)
      have md6 := k6.get (s5.get I.mark) (by simp)
      have Irow : MRow (h1.n + 1 + 1) H oa oc (items.take i) := I.row
      have row6 := (Irow.same s5).keeps k6 (fun j hj hm => by simp only [List.mem_singleton] at hm; have := Irow.own _ hj; omega)
      have hltH := Irow.sv.lt
      (refine Go.run (g:=?_))
      refine GoR.buildRo (c := t.cs) rfl rfl rfl rfl rfl (by decide) (by rfl) (by rfl) ?_
      intro b8 h8 hb8 rb8 ob8 s8 n8
      have r8 := row6.same s8
      refine GoR.appendV rfl rfl rfl rfl rfl rfl r8.sv hb8 (fun j hj => .inl (by simp [hj])) (by omega) (by omega) (by rfl) ?_
      intro b9 c9 h9 hs9 k9 o9
      have m9 := k9.1
      have r9 := r8.snoc (by omega) hs9 o9
      have nob : ∀ j, j < h1.n + 2 → j ∉ blk oa := fun j hj hm => by have := Irow.own _ hm; omega
      have go9 := k9.get (s8.get go6) (nob _ (by omega))
      have md9 := k9.get (s8.get md6) (nob _ (by omega))
      have ml9 := k9.get (s8.get l6) (nob _ (by omega))
      refine GoR.store rfl rfl rfl rfl rfl go9 rfl rfl (by simp [cellsL]) rfl rfl (.inl (by simp)) ?_
      (refine Go.run (g:=?_))
      refine Go.roundEnd rfl (get_put_other (by omega) ml9) ?_
      have nob9 : ∀ j, j < h1.n + 2 → j ∉ blk b9 := fun j hj hm => by have := r9.own _ hm; omega
      have S9 : Same h h9 := ((I.same.trans s5).keepsN k6 (by simp; omega)).trans s8 |>.keepsN k9 (fun b hb => by have := Irow.own _ hb; omega)
      refine ⟨(b9, c9), fun b hb => ?_, fun _ => ⟨AHeap.get_put_same _ (by simp only [AHeap.n_put]; omega) _, ?_, ?_, ?_, by omega, ?_, ?_⟩, fun e => by cases e⟩
      · rcases List.mem_append.1 hb with x | x
        · exact .inl (List.mem_append_left _ x)
        · rcases o9 b x with y | y
          · exact .inl (List.mem_append_right _ y)
          · exact .inr (by omega)
      · exact get_put_other (by omega) (get_put_other (by omega) md9)
      · refine get_put_other (by omega) ?_
        rw [etk, List.length_append]
        exact AHeap.get_put_same h9 (show h.n < h9.n by omega) _
      · rw [etk]
        exact r9.keeps (((Keeps.rfl [h.n, h1.n + 1] h9).put (by simp) _).put (by simp) _) (fun j hj hm => by simp only [List.mem_cons, List.not_mem_nil, or_false] at hm; exact nob9 j (by omega) hj)
      · exact S9.keepsN (((Keeps.rfl [h.n, h1.n + 1] h9).put (by simp) _).put (by simp) _) (by simp; omega)
      · simp only [AHeap.n_put]; omega
  intro v H3 hres kp
  refine ⟨fun i hi => .inr (by simp only [List.mem_cons, List.not_mem_nil, or_false] at hi; omega), .inr (by omega), ?_⟩
  rcases hres with ⟨⟨oa, oc⟩, I⟩ | ⟨_, _, x⟩
  case inr => exact x.elim
  rw [hit0] at I
  refine ⟨_, _, _, _, _, _, _, .normal, I.loop, by rfl, rfl, ?_⟩
  have Iout : H3.get h.n = some (.cells [.slice oa (items.take items.length).length oc] 23) := I.out
  have Irow : MRow (h1.n + 1 + 1) H3 oa oc (items.take items.length) := I.row
  rw [List.take_length] at Iout Irow
  have hIn := I.n
  refine Go.name ?_
  intro h9 e9
  have k9 : Keeps [h1.n + 1] H3 h9 := by subst e9; exact (Keeps.rfl _ _).put (by simp) _
  have n9 : h9.n = H3.n := by subst e9; rfl
  clear e9
  have go9 := k9.get Iout (by simp; omega)
  have gd9 := k9.get I.mark (by simp)
  have row9 := Irow.keeps k9 (fun j hj hm => by simp only [List.mem_singleton] at hm; have := Irow.own _ hj; omega)
  (refine Go.run (g:=?_))
  refine Go.fin_marks (.inr rfl) (by intro d hd; simp only [List.mem_singleton] at hd; omega) (takeAll_one gd9) (.tmp rfl .nil) ?_
  exact ⟨oa, oc, rfl, (row9.keeps ((Keeps.rfl [h1.n] h9).put (by simp) _) (fun j hj hm => by simp only [List.mem_singleton] at hm; have := row9.own _ hj; omega)).sv, fun j hj => by have := row9.own _ hj; omega⟩
theorem collect_spec (bb cb db : Nat) (a : Option Addr) (cap : Nat) (L : List MV) (sid : Nat) (un : Bool) (h : AHeap) (O : OfC h bb cb db a cap L sid un) : CallS Tryz.prog [] 24 [ofV bb cb db] h fun v h' => ∃ b c, v = .slice b (pickV L sid un).length c ∧ MRow h.n h' b c (pickV L sid un) := by
  have sp := aseq_spec bb cb db a cap L sid un h O
  (refine CallS.of1 Tryz.func24 rfl Tryz.ntmps24 Tryz.results24 rfl ?_)
  (refine Go.run (g:=?_))
  refine GoR.call rfl rfl rfl rfl rfl rfl rfl (((sp).argA).mono ?_)
  rintro _ h2 ⟨b, c, rfl, R⟩ s2
  (refine Go.run (g:=?_))
  (first|refine Go.finT (by first|exact .inr rfl|exact .inl rfl) rfl ?_|refine Go.fin1 (by first|exact .inr rfl|exact .inl rfl) rfl (hq:=?_))
  exact ⟨b, c, rfl, R⟩
end Go.Proofs.YtcilcloieilgdaaGreat
namespace Go.Proofs.YtcilcloieilgdaaGreat
set_option maxRecDepth 100000
attribute [local irreducible] Go GoR GoL
structure FInv (h0 : AHeap) (tm : List Value) (ps : Array Tmp) (asg bo : Code) (l d p4 p5 : Nat) (B : Nat) (G X : List MV) (c : Nat) (s : Option Addr) (i : Nat) (h : AHeap) : Prop where
  loop : h.get l = some (.loop .ready none tm ps asg bo d)
  mark : h.get d = some (.deferred true)
  c4 : h.get p4 = some (.cells [.bool false] 4)
  c5 : h.get p5 = some (.cells [.slice s (X.length - i) (c - i)] 23)
  rv : Rv Tryz.prog h 4 s (X.length - i) (c - i) (mcs (X.drop i))
  bl : ∀ j ∈ blk s, B ≤ j ∧ j < p5
  le : i ≤ X.length
  eq : isFirst (G.map MV.key) (X.map MV.key) = isFirst ((G.map MV.key).drop i) ((X.map MV.key).drop i)
  same : Same h0 h
  n : l + 1 ≤ h.n
set_option maxHeartbeats 16000000 in
theorem first_spec (gb gc gd : Nat) (ga : Option Addr) (gcap : Nat) (GL : List MV) (sid : Nat) (un : Bool) (sb sc sd : Nat) (sa : Option Addr) (scap : Nat) (SL : List MV) (sid' : Nat) (un' : Bool) (h : AHeap) (OG : OfC h gb gc gd ga gcap GL sid un) (OS : OfC h sb sc sd sa scap SL sid' un') : CallS Tryz.prog [] 18 [ofV gb gc gd, ofV sb sc sd] h fun v h' => v = .bool (isFirst ((pickV GL sid un).map MV.key) ((pickV SL sid' un').map MV.key)) := by
  have hok : ∀ m ∈ pickV SL sid' un', MsgOk h m := fun m hm => OS.s.ok m (pickV_mem hm)
  (refine CallS.of2 Tryz.func18 rfl Tryz.ntmps18 Tryz.results18 rfl ?_)
  (refine Go.run (g:=?_))
  refine GoR.name ?_
  intro h1 e1
  have s1 : Same h h1 := by subst e1; exact (Same.refl h).push _
  have n1 : h1.n = h.n + 1 := by subst e1; rfl
  have g1 : h1.get h.n = some (.cells [.bool false] 4) := by subst e1; exact AHeap.get_push_same h _
  clear e1
  have cs := collect_spec sb sc sd sa scap SL sid' un' h1 (OS.same s1)
  refine GoR.call rfl rfl rfl rfl rfl rfl rfl (((cs).argA).mono ?_)
  rintro _ h2 ⟨b, c, rfl, R⟩ s2
  have S2 := s1.trans s2
  have g2 := s2.get g1
  have m2 := s2.1
  clear cs
  generalize hit0 : pickV GL sid un = G at *
  generalize hit1 : pickV SL sid' un' = X at *
  (refine Go.run (g:=?_))
  refine Go.name ?_
  intro h3 e3
  have s3 : Same h2 h3 := by subst e3; exact ((Same.refl h2).push _).put (Nat.le_refl _) _
  have n3 : h3.n = h2.n + 1 := by subst e3; rfl
  have g5 : h3.get h2.n = some (.cells [.slice b X.length c] 23) := by subst e3; exact AHeap.get_put_same _ (by simp) _
  clear e3
  have S3 := S2.trans s3
  have g3 := s3.get g2
  have hRlt := R.sv.lt
  have R3 := R.same s3
  refine Go.rangeFunc' (wr := [h3.n + 1, h.n, h2.n, h3.n]) rfl (by rfl) (by kernel_rfl) ?_
  intro tm ps asg bo HH eps easg ebo eH hN hr
  have Hs : Same h3 HH := by subst eH; exact ((Same.refl h3).push _).push _
  have Hl : HH.get (h3.n + 1) = some (.loop .ready none tm ps asg bo h3.n) := by subst eH; exact AHeap.get_push_same (h3.push _) _
  have Hd : HH.get h3.n = some (.deferred true) := by subst eH; exact get_push_lt (AHeap.get_push_same _ _)
  have Hn : HH.n = h3.n + 2 := by subst eH; rfl
  clear eH
  have S4 := S3.trans Hs
  refine ((of1_spec (l := h3.n + 1) (σ := Option Addr) (wrO := fun s => [h.n, h2.n, h3.n]) (inv := fun s i H => FInv h tm ps asg bo (h3.n + 1) h3.n h.n h2.n h1.n G X c s i H) (stop := fun s i H => isFirst (G.map MV.key) (X.map MV.key) = false ∧ (∃ tm' ps' as' bo' df', H.get (h3.n + 1) = some (.loop .done (some .ret) tm' ps' as' bo' df')) ∧ H.get h3.n = some (.deferred true) ∧ H.get h.n = some (.cells [.bool false] 4)) h gb gc gd ga gcap GL sid un OG HH b ?Y ?i0).args rfl).mono ?_
  case i0 => exact ⟨Hl, Hd, Hs.get g3, Hs.get g5, (R3.same Hs).sv.rv, fun j hj => ⟨R.own j hj, hRlt j hj⟩, Nat.zero_le _, rfl, S4, by omega⟩
  case Y =>
    rw [hit0]
    refine ⟨?_, ?_, ?_⟩
    · rintro s i H H' I sm
      exact ⟨sm.get I.loop, sm.get I.mark, sm.get I.c4, sm.get I.c5, I.rv.same sm, I.bl, I.le, I.eq, I.same.trans sm, Nat.le_trans I.n sm.1⟩
    · rintro s i H I
      refine ⟨I.same, fun b hb => ?_⟩
      have hIn := I.n
      simp only [List.mem_cons, List.not_mem_nil, or_false] at hb
      omega
    · rintro s i H t I hit hok'
      have hib : i < G.length := (List.getElem?_eq_some_iff.1 hit).1
      have het : G[i] = t := (List.getElem?_eq_some_iff.1 hit).2
      have hIn := I.n
      have hle := I.le
      have hF := I.eq
      rw [isFirst_step (by simpa using hib)] at hF
      refine YieldS.of' I.loop hN hr eps easg ebo rfl (by rfl) rfl (List.mem_cons_self ..) ?_
      (refine Go.run (g:=?_))
      refine Go.name ?_
      intro h5 e5
      have s5 : Same H h5 := by subst e5; exact ((Same.refl H).push _).put (Nat.le_refl _) _
      have n5 : h5.n = H.n + 1 := by subst e5; rfl
      have g5 : h5.get H.n = some (.cells [.int .u16 t.sid, .bool t.un, .int .u32 t.pp, .slice t.a t.z.length t.cap] 32) := by subst e5; exact AHeap.get_put_same _ (by simp) _
      clear e5
      refine Go.body (s5.get I.loop) ?_
      refine Go.name ?_
      intro h6 e6
      have k6 : Keeps [h3.n + 1] h5 h6 := by subst e6; exact (Keeps.rfl _ _).put (by simp) _
      have n6 : h6.n = h5.n := by subst e6; rfl
      have l6 : h6.get (h3.n + 1) = some (.loop .busy none tm ps asg bo h3.n) := by subst e6; exact get_put_self (s5.get I.loop)
      clear e6
      have gt6 := k6.get g5 (by simp; omega)
      have md6 := k6.get (s5.get I.mark) (by simp)
      have c46 := k6.get (s5.get I.c4) (by simp; omega)
      have c56 := k6.get (s5.get I.c5) (by simp; omega)
      have rv6 := (I.rv.same s5).keeps k6 (fun j hj hm => by simp only [List.mem_singleton] at hm; have := (I.bl j hj).2; omega)
      have S6 := (I.same.trans s5).keepsN k6 (by simp; omega)
      have stop : ∀ h8 : AHeap, isFirst (G.map MV.key) (X.map MV.key) = false → Same h6 h8 → ∀ (q : True), h8.get (h3.n + 1) = some (.loop .busy none tm ps asg bo h3.n) := fun h8 _ s8 _ => s8.get l6
      have fk6 : FInv h tm ps asg bo (h3.n + 1) h3.n h.n h2.n h1.n G X c s i h6 → True := fun _ => trivial
      rcases Nat.lt_or_ge i X.length with x0 | x0
      · rw [dif_pos (by simpa using x0), List.getElem_map, List.getElem_map, het] at hF
        have hx0 : 0 < (X.drop i).length := by rw [List.length_drop]; omega
        have cr0 := mcs_get hx0
        rw [Nat.zero_mul] at cr0
        have hbr : 0 + 4 ≤ (mcs (X.drop i)).length := by rw [mcs_len]; omega
        have hxi : (X.drop i)[0] = X[i] := by rw [List.getElem_drop]; rfl
        rw [hxi] at cr0
        have sp := sameM_spec t X[i] h6 (hok'.same S6) ((hok _ (List.getElem_mem x0)).same S6)
        have hxl : 0 < X.length - i := by omega
        (refine Go.run (g:=?_))
        refine GoR.call rfl rfl rfl rfl rfl rfl rfl (((sp).argA).mono ?_)
        rintro _ h7 rfl s7
        have m7 := s7.1
        have gt7 := s7.get gt6
        have md7 := s7.get md6
        have c47 := s7.get c46
        have c57 := s7.get c56
        have l7 := s7.get l6
        have rv7 := rv6.same s7
        have S7 := S6.trans s7
        by_cases e : t.key = X[i].key
        · rw [decide_eq_true e, Bool.true_and] at hF
          rw [decide_eq_true e]
          (refine Go.run (g:=?_))
          have hsub := rv7.sub (l := 1) (r := X.length - i) (by omega) (Nat.le_refl _)
          have hle2 := rv7.le
          refine GoR.sliceV (lo' := some (.int .i64 1)) (hi' := none) (l := 1) (r := X.length - i) rfl rfl rfl rfl rfl rfl rfl rv7 rfl rfl (by omega) hle2 ?_
          have hbl : ∀ j ∈ blk (subA s (1 * 4)), h1.n ≤ j ∧ j < h2.n := fun j hj => I.bl j (by rwa [subA_blk] at hj)
          generalize subA s (1 * 4) = a8 at *
          have e1 : X.length - i - 1 = X.length - (i + 1) := by omega
          have e2 : c - i - 1 = c - (i + 1) := by omega
          have e3 : ((mcs (X.drop i)).drop (1 * 4)).take ((X.length - (i + 1)) * 4) = mcs (X.drop (i + 1)) := by rw [mcs_drop, List.drop_drop, mcs_take, List.take_of_length_le (by rw [List.length_drop]; omega)]
          rw [e1, e2, e3] at hsub
          rw [e1, e2]
          (refine Go.run (g:=?_))
          refine Go.roundEnd rfl (get_put_other (by omega) l7) ?_
          have hn5 : h2.n < h7.n := by omega
          refine ⟨a8, fun b hb => .inl hb, fun _ => ⟨AHeap.get_put_same _ (by simp only [AHeap.n_put]; omega) _, ?_, ?_, ?_, ?_, hbl, by omega, hF, ?_, ?_⟩, fun e => by cases e⟩
          · exact get_put_other (by omega) (get_put_other (by omega) md7)
          · exact get_put_other (by omega) (get_put_other (by omega) c47)
          · exact get_put_other (by omega) (AHeap.get_put_same h7 hn5 _)
          · exact hsub.keeps (((Keeps.rfl [h2.n, h3.n + 1] h7).put (by simp) _).put (by simp) _) (fun j hj hm => by have := hbl j hj; simp only [List.mem_cons, List.not_mem_nil, or_false] at hm; omega)
          · exact S7.keepsN (((Keeps.rfl [h2.n, h3.n + 1] h7).put (by simp) _).put (by simp) _) (by simp; omega)
          · simp only [AHeap.n_put]; omega
        · rw [decide_eq_false e, Bool.false_and] at hF
          rw [decide_eq_false e]
          (refine Go.run (g:=?_))
          refine Go.roundEnd rfl (get_put_other (by omega) l7) ?_
          refine ⟨s, fun b hb => .inl hb, (fun e => by cases e), fun _ => ⟨hF, ⟨_, _, _, _, _, AHeap.get_put_same _ (by simp only [AHeap.n_put]; omega) _⟩, ?_, ?_⟩⟩
          · exact get_put_other (by omega) (get_put_other (by omega) md7)
          · exact get_put_other (by omega) (AHeap.get_put_same h7 (by omega) _)
      · rw [dif_neg (by simpa using x0)] at hF
        have hxe : X.length - i = 0 := by omega
        (refine Go.run (g:=?_))
        refine Go.roundEnd rfl (get_put_other (by omega) l6) ?_
        refine ⟨s, fun b hb => .inl hb, (fun e => by cases e), fun _ => ⟨hF, ⟨_, _, _, _, _, AHeap.get_put_same _ (by simp only [AHeap.n_put]; omega) _⟩, ?_, ?_⟩⟩
        · exact get_put_other (by omega) (get_put_other (by omega) md6)
        · exact get_put_other (by omega) (AHeap.get_put_same h6 (by omega) _)
  intro v H3 hres kp
  refine ⟨fun i hi => .inr (by simp only [List.mem_cons, List.not_mem_nil, or_false] at hi; omega), .inr (by omega), ?_⟩
  rcases hres with ⟨s, I⟩ | ⟨s, i, hbad, ⟨tm', ps', as', bo', df', hl⟩, hd, h4⟩
  · rw [hit0] at I
    have hF := I.eq
    rw [isFirst_done (by simp)] at hF
    have hIn := I.n
    refine ⟨_, _, _, _, _, _, _, .normal, I.loop, by rfl, rfl, ?_⟩
    refine Go.name ?_
    intro h9 e9
    have k9 : Keeps [h3.n + 1] H3 h9 := by subst e9; exact (Keeps.rfl _ _).put (by simp) _
    have n9 : h9.n = H3.n := by subst e9; rfl
    clear e9
    have g49 := k9.get I.c4 (by simp; omega)
    have gd9 := k9.get I.mark (by simp)
    (refine Go.run (g:=?_))
    refine Go.fin_marks (.inr rfl) (by intro d hd; simp only [List.mem_singleton] at hd; omega) (takeAll_one (get_put_other (by omega) gd9)) (.cell rfl inferInstance (get_put_other (by omega) (AHeap.get_put_same h9 (by omega) _)) rfl .nil) ?_
    rw [hF]; rfl
  · refine ⟨_, _, _, _, _, _, _, .ret, hl, by rfl, rfl, ?_⟩
    have hln := AHeap.lt hl
    (refine Go.run (g:=?_))
    refine Go.fin_marks (.inr rfl) (by intro d hd; simp only [List.mem_singleton] at hd; omega) (takeAll_one (get_put_other (by omega) hd)) (.cell rfl inferInstance (get_put_other (by omega) (get_put_other (by omega) h4)) rfl .nil) ?_
    rw [hbad]; rfl
end Go.Proofs.YtcilcloieilgdaaGreat
namespace Go.Proofs.YtcilcloieilgdaaGreat
set_option maxRecDepth 100000
attribute [local irreducible] Go GoR GoL
theorem some1_spec (p : Nat) (m n : MV) (h : AHeap) (g : h.get p = some (.cells [.int .u16 m.sid, .bool m.un, .int .u32 m.pp, .slice m.a m.z.length m.cap] 32)) (hm : MsgOk h m) (hn : MsgOk h n) : CallS Tryz.prog [] 28 [n.v, .pointer (some ⟨p, 0, none⟩)] h fun v h' => v = .bool (decide (m.key = n.key)) := by
  unfold MV.v
  (refine CallS.of2 Tryz.func28 rfl Tryz.ntmps28 Tryz.results28 rfl ?_)
  (refine Go.run (g:=?_))
  refine GoR.call rfl rfl rfl rfl rfl rfl rfl (((sameM_spec m n _ (hm.same ((Same.refl h).push _)) (hn.same ((Same.refl h).push _))).argA).mono ?_)
  rintro _ h2 rfl s2
  (refine Go.run (g:=?_))
  (first|refine Go.finT (by first|exact .inr rfl|exact .inl rfl) rfl ?_|refine Go.fin1 (by first|exact .inr rfl|exact .inl rfl) rfl (hq:=?_))
  rfl
def atI : Option Nat → Int
  | some i => i
  | none => -1
set_option maxHeartbeats 8000000 in
theorem index_spec (p : Nat) (m : MV) (a : Option Addr) (cap : Nat) (l : List MV) (hl : l.length ≤ 1000000) (h : AHeap) (g : h.get p = some (.cells [.int .u16 m.sid, .bool m.un, .int .u32 m.pp, .slice m.a m.z.length m.cap] 32)) (hm : MsgOk h m) (hz : Rv Tryz.prog h 4 a l.length cap (mcs l)) (ho : ∀ x ∈ l, MsgOk h x) : CallS Tryz.prog [] 27 [.slice a l.length cap, .func (.func 28) #[] #[.pointer (some ⟨p, 0, none⟩)]] h fun v h' => v = .int .i64 (atI (at1 m.key (l.map MV.key))) := by
  (refine CallS.of2 Tryz.func27 rfl Tryz.ntmps27 Tryz.results27 rfl ?_)
  (refine Go.run (g:=?_))
  refine Go.loop (α := Nat × AHeap) (fun x => [(8, .int .i64 x.1), (7, .int .i64 l.length), (0, .slice a l.length cap), (1, .func (.func 28) #[] #[.pointer (some ⟨p, 0, none⟩)])]) (fun _ => []) (fun x => x.2) (fun x => Same h x.2 ∧ x.1 ≤ l.length ∧ ∀ j (hj : j < (l.map MV.key).length), j < x.1 → m.key ≠ (l.map MV.key)[j]) (fun x => l.length - x.1) (0, h) ?_ ?_ rfl rfl ?_
  · exact ⟨Same.refl h, Nat.zero_le _, fun j hj h0 => by simp only at h0; omega⟩
  · exact ⟨rfl, rfl, rfl, rfl, trivial⟩
  rintro ⟨i, h4⟩ ⟨s4, hi, hp⟩
  simp only at s4 hi hp ⊢
  rcases Nat.lt_or_ge i l.length with i0 | i0
  · have r4 := hz.same s4
    have cr0 := mcs_get i0
    have hbr : i * 4 + 4 ≤ (mcs l).length := by rw [mcs_len]; omega
    have ox := (ho _ (List.getElem_mem i0)).same s4
    have sp := some1_spec p m l[i] h4 (s4.get g) (hm.same s4) ox
    have hk : (l.map MV.key)[i]'(by simpa using i0) = l[i].key := by rw [List.getElem_map]
    (refine Go.run (g:=?_))
    refine GoR.call rfl rfl rfl rfl rfl rfl rfl (((sp).argA).mono ?_)
    rintro _ h5 rfl s5
    clear sp
    by_cases e : m.key = l[i].key
    · have hat := at1_here (by simpa using i0) hp (e.trans hk.symm)
      rw [decide_eq_true e]
      (refine Go.run (g:=?_))
      (first|refine Go.finT (by first|exact .inr rfl|exact .inl rfl) rfl ?_|refine Go.fin1 (by first|exact .inr rfl|exact .inl rfl) rfl (hq:=?_))
      rw [hat]; rfl
    · rw [decide_eq_false e]
      (refine Go.run (g:=?_))
      refine Go.again (i + 1, h5) ⟨s4.trans s5, by simp only; omega, fun j hj hji => ?_⟩ (by simp only; omega) ⟨rfl, rfl, rfl, rfl, trivial⟩ rfl rfl
      simp only at hji
      rcases Nat.lt_or_ge j i with q | q
      · exact hp j hj q
      · have : j = i := by omega
        subst this
        rw [hk]; exact e
  · have hat := at1_not fun j hj => hp j hj (by simp at hj; omega)
    (refine Go.run (g:=?_))
    (first|refine Go.finT (by first|exact .inr rfl|exact .inl rfl) rfl ?_|refine Go.fin1 (by first|exact .inr rfl|exact .inl rfl) rfl (hq:=?_))
    rw [hat]; rfl
end Go.Proofs.YtcilcloieilgdaaGreat
namespace Go.Proofs.YtcilcloieilgdaaGreat
set_option maxRecDepth 100000
attribute [local irreducible] Go GoR GoL
instance clMsgs : CL Tryz.prog 23 32 4 := ⟨.agg #[.int .u16 0, .bool false, .int .u32 0, .slice none 0 0], by kernel_rfl, by kernel_rfl, rfl, rfl, rfl⟩
theorem mcs_one (l : List MV) : (mcs l).all Value.oneCell' = true := by
  induction l with
  | nil => rfl
  | cons m l ih => rw [mcs_cons, List.all_append, ih]; rfl
set_option maxHeartbeats 16000000 in
theorem delete_spec (b : Option Addr) (c : Nat) (ms : List MV) (i : Nat) (hi : i < ms.length) (hl : ms.length ≤ 1000000) (h : AHeap) (R : Sv h 32 4 b ms.length c (mcs ms)) : CallS Tryz.prog (blk b) 29 [.slice b ms.length c, .int .i64 i, .int .i64 (i + 1 : Nat)] h fun v h' => v = .slice b (ms.eraseIdx i).length c ∧ Sv h' 32 4 b (ms.eraseIdx i).length c (mcs (ms.eraseIdx i)) := by
  have hrv := R.rv (P := Tryz.prog)
  have hle := hrv.le
  (refine CallS.of3 Tryz.func29 rfl Tryz.ntmps29 Tryz.results29 rfl ?_)
  (refine Go.run (g:=?_))
  refine GoR.slice3V (lo' := some (.int .i64 i)) (hi := .int .i64 (i + 1 : Nat)) (mx := .int .i64 ms.length) (l := i) (r := i + 1) (xx := ms.length) rfl rfl rfl rfl rfl rfl rfl rfl hrv (by simp [bnd]) (by simp [bnd]; omega) (by simp [bnd]) (by omega) (by omega) hle ?_
  (repeat (first|refine GoR.end ?_|(refine GoR.gd rfl ?_;first|refine GoR.wanted' rfl rfl rfl rfl (g:=?_)|refine GoR.unwanted' rfl rfl rfl rfl (hd:=rfl) (hN:=rfl) (g:=?_)|refine GoR.unwantedU rfl rfl rfl rfl rfl rfl ?_)|(refine GoR.kk 0 rfl ?_;first|refine GoR.move rfl rfl rfl rfl rfl ?_|refine GoR.assign rfl rfl rfl rfl rfl ?_)|(refine GoR.kk 1 rfl ?_;first|refine GoR.load' rfl rfl rfl rfl rfl (g:=?_)|refine GoR.loadA' rfl rfl rfl rfl rfl (hv:=rfl) (g:=?_)|refine GoR.loadV' rfl rfl rfl rfl rfl (g:=?_)|refine GoR.loadVN' rfl rfl rfl rfl rfl (g:=?_))|(refine GoR.kk 2 rfl ?_;first|refine GoR.store' rfl rfl rfl rfl rfl (hl:=rfl) (h1:=rfl) (h3:=rfl) (g:=?_))|(refine GoR.kk 3 rfl ?_;first|refine GoR.fieldAddr rfl rfl rfl rfl rfl ?_|refine GoR.indexN' rfl rfl rfl rfl rfl rfl (g:=?_)|refine GoR.indexNs' rfl rfl rfl rfl rfl rfl (g:=?_)|refine GoR.indexV' rfl rfl rfl rfl rfl rfl (g:=?_)|refine GoR.indexA' rfl rfl rfl rfl rfl rfl (g:=?_)|refine GoR.fieldV' rfl rfl rfl rfl rfl (g:=?_))|(refine GoR.kk 4 rfl ?_;first|refine GoR.eq rfl rfl rfl rfl rfl rfl ?_|refine GoR.ne rfl rfl rfl rfl rfl rfl ?_|refine GoR.lt rfl rfl rfl rfl rfl rfl ?_|refine GoR.le rfl rfl rfl rfl rfl rfl ?_|refine GoR.gt rfl rfl rfl rfl rfl rfl ?_|refine GoR.ge rfl rfl rfl rfl rfl rfl ?_|refine GoR.addN' rfl rfl rfl rfl rfl rfl (g:=?_)|refine GoR.subN' rfl rfl rfl rfl rfl rfl (g:=?_)|refine GoR.add' rfl rfl rfl rfl rfl rfl (g:=?_)|refine GoR.sub' rfl rfl rfl rfl rfl rfl (g:=?_)|refine GoR.addM' rfl rfl rfl rfl rfl rfl (g:=?_)|refine GoR.subM' rfl rfl rfl rfl rfl rfl (g:=?_)|refine GoR.mulM' rfl rfl rfl rfl rfl rfl (g:=?_)|refine GoR.shrN rfl rfl rfl rfl rfl rfl rfl ?_|refine GoR.structEq rfl rfl rfl rfl rfl rfl (by rfl) (by rfl) ?_|refine GoR.structNe rfl rfl rfl rfl rfl rfl (by rfl) (by rfl) ?_|refine GoR.strEq rfl rfl rfl rfl rfl rfl ?_|refine GoR.strNe rfl rfl rfl rfl rfl rfl ?_|refine GoR.remN' rfl rfl rfl rfl rfl rfl (g:=?_)|refine GoR.quoN' rfl rfl rfl rfl rfl rfl (g:=?_)|refine GoR.shlN' rfl rfl rfl rfl rfl rfl rfl (g:=?_)|refine GoR.orN' rfl rfl rfl rfl rfl rfl (g:=?_))|(refine GoR.kk 5 rfl ?_;first|refine GoR.len rfl rfl rfl rfl rfl ?_|refine GoR.lenStr rfl rfl rfl rfl rfl ?_|refine GoR.capB rfl rfl rfl rfl rfl ?_)|(refine GoR.kk 7 rfl ?_;first|refine GoR.pickE' rfl rfl rfl rfl rfl (hx:=rfl) (hy:=rfl) (g:=?_)|refine GoR.pickN' rfl rfl rfl rfl rfl (hx:=rfl) (hy:=rfl) (g:=?_)|refine GoR.pickB rfl rfl rfl rfl rfl rfl rfl ?_)|(refine GoR.kk 8 rfl ?_;first|refine GoR.boxA rfl rfl rfl rfl rfl ?_|refine GoR.boxS rfl rfl rfl rfl rfl rfl ?_|refine GoR.alloc rfl rfl rfl rfl ?_)|(refine GoR.kk 9 rfl ?_;first|refine GoR.strV' rfl rfl rfl rfl rfl (g:=?_)|refine GoR.conv_u8 rfl rfl rfl rfl rfl ?_|refine GoR.convW' rfl rfl rfl rfl rfl (g:=?_)|refine GoR.conv_u16 rfl rfl rfl rfl rfl ?_|refine GoR.conv_u32 rfl rfl rfl rfl rfl ?_)|(refine GoR.kk 10 rfl ?_;first|refine GoR.build' rfl rfl rfl rfl rfl rfl (g:=?_))|(refine GoR.kk 11 rfl ?_;first|refine GoR.extract rfl rfl rfl rfl rfl rfl ?_|refine GoR.not rfl rfl rfl rfl rfl ?_|refine GoR.nilCheck rfl rfl rfl rfl rfl ?_|refine GoR.nilCheckF rfl rfl rfl rfl rfl ?_|refine GoR.makeFunc rfl rfl rfl rfl rfl rfl ?_)|(refine Go.kk 0 rfl ?_;refine Go.seq ?_)|(refine Go.kk 1 rfl ?_;refine Go.region (by kernel_rfl) rfl ?_)|(refine Go.kk 3 rfl ?_;first|refine Go.cond_t' rfl (g:=?_)|refine Go.cond_f' rfl (g:=?_))|(refine Go.kk 4 rfl ?_;refine Go.block ?_)|(refine Go.kk 5 rfl ?_;first|refine Go.skip ?_|refine Go.ret ?_|refine Go.exit ?_|refine Go.scope ?_)|refine Go.leave_normal ?_|refine Go.leave_same ?_|refine Go.leave_ret ?_|refine Go.ret_code ?_|refine Go.exit_code ?_|refine Go.leave_other rfl ?_|refine Go.sc_normal ?_|refine Go.sc_ret ?_|refine Go.sc_exit ?_|refine Go.exit_back ?_|refine Go.ret_back ?_))
  refine Go.kk 2 rfl ?_
  refine Go.loud (by kernel_rfl) rfl ?_
  (refine Go.runL (g:=?_))
  refine GoL.sliceV (lo' := none) (hi' := some (.int .i64 i)) (l := 0) (r := i) rfl rfl rfl rfl rfl rfl rfl hrv rfl (by simp [bnd]) (by omega) (by omega) ?_
  (refine Go.runL (g:=?_))
  refine GoL.sliceV (lo' := some (.int .i64 (i + 1 : Nat))) (hi' := none) (l := i + 1) (r := ms.length) rfl rfl rfl rfl rfl rfl rfl hrv (by simp [bnd]; omega) rfl (by omega) hle ?_
  have hsub := hrv.sub (l := i + 1) (r := ms.length) (by omega) (Nat.le_refl _)
  have hb0 : subA b (0 * 4) = b := by cases b <;> simp [subA]
  rw [hb0]
  have efr : (mcs ms).take (i * 4) = mcs (ms.take i) := mcs_take ms i
  have hfr := R.front (Nat.le_of_lt hi)
  rw [efr] at hfr
  have esb : ((mcs ms).drop ((i + 1) * 4)).take ((ms.length - (i + 1)) * 4) = mcs (ms.drop (i + 1)) := by rw [mcs_drop, mcs_take, List.take_of_length_le (by rw [List.length_drop]; omega)]
  rw [esb] at hsub
  have eer : ms.eraseIdx i = ms.take i ++ ms.drop (i + 1) := List.eraseIdx_eq_take_drop_succ ms i
  have ele : (ms.eraseIdx i).length = ms.length - 1 := by rw [List.length_eraseIdx, if_pos hi]
  refine GoL.appendIn (len := i) (cap := c) (n := ms.length - (i + 1)) rfl rfl rfl rfl rfl rfl hfr hsub (by omega) (fun j hj => .inl hj) (mcs_one _) ?_
  intro h2 rd wr hwr hrd k2 hin
  obtain ⟨cs', hs2, ht2⟩ := hin ms.length (by omega) hle
  (refine Go.runL (g:=?_))
  (refine GoL.end_ (g:=?_))
  have en : i + (ms.length - (i + 1)) = ms.length - 1 := by omega
  rw [en] at ht2 ⊢
  (refine Go.run (g:=?_))
  refine GoR.sliceV (lo' := some (.int .i64 (ms.length - 1 : Nat))) (hi' := some (.int .i64 ms.length)) (l := ms.length - 1) (r := ms.length) rfl rfl rfl rfl rfl rfl rfl (hs2.front (r := ms.length - 1) (by omega)).rv (by simp [bnd]) (by simp [bnd]) (by omega) hle ?_
  refine GoR.clearV (len := ms.length - 1) (n := ms.length - (ms.length - 1)) (m := ms.length) rfl rfl rfl rfl hs2 (by omega) (fun j hj => .inl hj) ?_
  intro h3 hs3 k3
  rw [ht2] at hs3
  (refine Go.run (g:=?_))
  (first|refine Go.finT (by first|exact .inr rfl|exact .inl rfl) rfl ?_|refine Go.fin1 (by first|exact .inr rfl|exact .inl rfl) rfl (hq:=?_))
  refine ⟨by rw [ele]; rfl, ?_⟩
  rw [ele, eer, mcs_app]
  exact hs3
end Go.Proofs.YtcilcloieilgdaaGreat
namespace Go.Proofs.YtcilcloieilgdaaGreat
set_option maxRecDepth 100000
attribute [local irreducible] Go GoR GoL
theorem mapErase {α β : Type} (f : α → β) : ∀ (l : List α) (k : Nat), (l.map f).eraseIdx k = (l.eraseIdx k).map f
  | [], k => by simp
  | x :: l, 0 => rfl
  | x :: l, k + 1 => by simp [mapErase f l k]
structure SInv (h0 : AHeap) (tm : List Value) (ps : Array Tmp) (asg bo : Code) (l d p4 p5 : Nat) (B : Nat) (G X : List MV) (b : Option Addr) (c : Nat) (s : List MV) (i : Nat) (h : AHeap) : Prop where
  loop : h.get l = some (.loop .ready none tm ps asg bo d)
  mark : h.get d = some (.deferred true)
  c4 : h.get p4 = some (.cells [.bool false] 4)
  c5 : h.get p5 = some (.cells [.slice b s.length c] 23)
  sv : Sv h 32 4 b s.length c (mcs s)
  sub : ∀ x ∈ s, x ∈ X
  len : s.length ≤ 1000000
  eq : isSome_ (G.map MV.key) (X.map MV.key) = isSome_ ((G.map MV.key).drop i) (s.map MV.key)
  same : Same h0 h
  n : l + 1 ≤ h.n
set_option maxHeartbeats 16000000 in
theorem some_spec (gb gc gd : Nat) (ga : Option Addr) (gcap : Nat) (GL : List MV) (sid : Nat) (un : Bool) (sb sc sd : Nat) (sa : Option Addr) (scap : Nat) (SL : List MV) (sid' : Nat) (un' : Bool) (h : AHeap) (OG : OfC h gb gc gd ga gcap GL sid un) (OS : OfC h sb sc sd sa scap SL sid' un') : CallS Tryz.prog [] 20 [ofV gb gc gd, ofV sb sc sd] h fun v h' => v = .bool (isSome_ ((pickV GL sid un).map MV.key) ((pickV SL sid' un').map MV.key)) := by
  have hok : ∀ m ∈ pickV SL sid' un', MsgOk h m := fun m hm => OS.s.ok m (pickV_mem hm)
  have hXl := Nat.le_trans (pickV_len SL sid' un') OS.n
  (refine CallS.of2 Tryz.func20 rfl Tryz.ntmps20 Tryz.results20 rfl ?_)
  (refine Go.run (g:=?_))
  refine GoR.name ?_
  intro h1 e1
  have s1 : Same h h1 := by subst e1; exact (Same.refl h).push _
  have n1 : h1.n = h.n + 1 := by subst e1; rfl
  have g1 : h1.get h.n = some (.cells [.bool false] 4) := by subst e1; exact AHeap.get_push_same h _
  clear e1
  have cs := collect_spec sb sc sd sa scap SL sid' un' h1 (OS.same s1)
  refine GoR.call rfl rfl rfl rfl rfl rfl rfl (((cs).argA).mono ?_)
  rintro _ h2 ⟨b, c, rfl, R⟩ s2
  have S2 := s1.trans s2
  have g2 := s2.get g1
  have m2 := s2.1
  clear cs
  generalize hit0 : pickV GL sid un = G at *
  generalize hit1 : pickV SL sid' un' = X at *
  (refine Go.run (g:=?_))
  refine Go.name ?_
  intro h3 e3
  have s3 : Same h2 h3 := by subst e3; exact ((Same.refl h2).push _).put (Nat.le_refl _) _
  have n3 : h3.n = h2.n + 1 := by subst e3; rfl
  have g5 : h3.get h2.n = some (.cells [.slice b X.length c] 23) := by subst e3; exact AHeap.get_put_same _ (by simp) _
  clear e3
  have S3 := S2.trans s3
  have g3 := s3.get g2
  have bl : ∀ j ∈ blk b, h1.n ≤ j ∧ j < h2.n := fun j hj => ⟨R.own j hj, R.sv.lt j hj⟩
  have R3 := R.same s3
  refine Go.rangeFunc' (wr := [h3.n + 1, h.n, h2.n, h3.n] ++ blk b) rfl (by rfl) (by kernel_rfl) ?_
  intro tm ps asg bo HH eps easg ebo eH hN hr
  have Hs : Same h3 HH := by subst eH; exact ((Same.refl h3).push _).push _
  have Hl : HH.get (h3.n + 1) = some (.loop .ready none tm ps asg bo h3.n) := by subst eH; exact AHeap.get_push_same (h3.push _) _
  have Hd : HH.get h3.n = some (.deferred true) := by subst eH; exact get_push_lt (AHeap.get_push_same _ _)
  have Hn : HH.n = h3.n + 2 := by subst eH; rfl
  clear eH
  have S4 := S3.trans Hs
  refine ((of1_spec (l := h3.n + 1) (σ := List MV) (wrO := fun s => [h.n, h2.n, h3.n] ++ blk b) (inv := fun s i H => SInv h tm ps asg bo (h3.n + 1) h3.n h.n h2.n h1.n G X b c s i H) (stop := fun s i H => isSome_ (G.map MV.key) (X.map MV.key) = false ∧ (∃ tm' ps' as' bo' df', H.get (h3.n + 1) = some (.loop .done (some .ret) tm' ps' as' bo' df')) ∧ H.get h3.n = some (.deferred true) ∧ H.get h.n = some (.cells [.bool false] 4)) h gb gc gd ga gcap GL sid un OG HH X ?Y ?i0).args rfl).mono ?_
  case i0 => exact ⟨Hl, Hd, Hs.get g3, Hs.get g5, (R3.same Hs).sv, fun x hx => hx, hXl, rfl, S4, by omega⟩
  case Y =>
    rw [hit0]
    refine ⟨?_, ?_, ?_⟩
    · rintro s i H H' I sm
      exact ⟨sm.get I.loop, sm.get I.mark, sm.get I.c4, sm.get I.c5, I.sv.same sm, I.sub, I.len, I.eq, I.same.trans sm, Nat.le_trans I.n sm.1⟩
    · rintro s i H I
      refine ⟨I.same, fun q hq => ?_⟩
      have hIn := I.n
      simp only [List.mem_cons, List.mem_append, List.not_mem_nil, or_false] at hq
      rcases hq with hq | (hq | hq | hq) | hq
      · omega
      · omega
      · omega
      · omega
      · have := bl q hq; omega
    · rintro s i H t I hit hok'
      have hib : i < G.length := (List.getElem?_eq_some_iff.1 hit).1
      have het : G[i] = t := (List.getElem?_eq_some_iff.1 hit).2
      have hIn := I.n
      have hsl := I.len
      have hF := I.eq
      rw [isSome_more (by simpa using hib), List.getElem_map, het] at hF
      refine YieldS.of' I.loop hN hr eps easg ebo rfl (by rfl) rfl (List.mem_cons_self ..) ?_
      (refine Go.run (g:=?_))
      refine Go.name ?_
      intro h5 e5
      have s5 : Same H h5 := by subst e5; exact ((Same.refl H).push _).put (Nat.le_refl _) _
      have n5 : h5.n = H.n + 1 := by subst e5; rfl
      have g5 : h5.get H.n = some (.cells [.int .u16 t.sid, .bool t.un, .int .u32 t.pp, .slice t.a t.z.length t.cap] 32) := by subst e5; exact AHeap.get_put_same _ (by simp) _
      clear e5
      refine Go.body (s5.get I.loop) ?_
      refine Go.name ?_
      intro h6 e6
      have k6 : Keeps [h3.n + 1] h5 h6 := by subst e6; exact (Keeps.rfl _ _).put (by simp) _
      have n6 : h6.n = h5.n := by subst e6; rfl
      have l6 : h6.get (h3.n + 1) = some (.loop .busy none tm ps asg bo h3.n) := by subst e6; exact get_put_self (s5.get I.loop)
      clear e6
      have gt6 := k6.get g5 (by simp; omega)
      have md6 := k6.get (s5.get I.mark) (by simp)
      have c46 := k6.get (s5.get I.c4) (by simp; omega)
      have c56 := k6.get (s5.get I.c5) (by simp; omega)
      have sv6 := (I.sv.same s5).keeps k6 (fun j hj hm => by simp only [List.mem_singleton] at hm; have := (bl j hj).2; omega)
      have S6 := (I.same.trans s5).keepsN k6 (by simp; omega)
      have sp := index_spec H.n t b c s hsl h6 gt6 (hok'.same S6) (sv6.rv (P := Tryz.prog)) (fun x hx => (hok x (I.sub x hx)).same S6)
      (refine Go.run (g:=?_))
      refine GoR.call rfl rfl rfl rfl rfl rfl rfl (((sp).argA).mono ?_)
      rintro _ h7 rfl s7
      have m7 := s7.1
      have md7 := s7.get md6
      have c47 := s7.get c46
      have c57 := s7.get c56
      have l7 := s7.get l6
      have sv7 := sv6.same s7
      have S7 := S6.trans s7
      cases hat : at1 t.key (s.map MV.key) with
      | none =>
        rw [hat] at hF
        simp only [atI]
        (refine Go.run (g:=?_))
        refine Go.roundEnd rfl (get_put_other (by omega) l7) ?_
        refine ⟨s, fun b hb => .inl hb, (fun e => by cases e), fun _ => ⟨hF, ⟨_, _, _, _, _, AHeap.get_put_same _ (by simp only [AHeap.n_put]; omega) _⟩, ?_, ?_⟩⟩
        · exact get_put_other (by omega) (get_put_other (by omega) md7)
        · exact get_put_other (by omega) (AHeap.get_put_same h7 (by omega) _)
      | some k =>
        rw [hat] at hF
        have hk : k < s.length := by simpa using (at1_some hat).1
        have hel : (s.eraseIdx k).length = s.length - 1 := by rw [List.length_eraseIdx, if_pos hk]
        simp only [atI]
        (refine Go.run (g:=?_))
        refine GoR.callW rfl rfl rfl rfl rfl rfl rfl (((delete_spec b c s k hk hsl h7 sv7).argA).mono ?_)
        rintro _ h8 ⟨rfl, sv8⟩ k8
        refine ⟨fun j hj => .inl (by simp [hj]), ?_⟩
        have m8 := k8.1
        have nb : ∀ j, (j < h1.n ∨ h2.n ≤ j) → j ∉ blk b := fun j hj hm => by have := bl j hm; omega
        have md8 := k8.get md7 (nb _ (by omega))
        have c48 := k8.get c47 (nb _ (by omega))
        have c58 := k8.get c57 (nb _ (by omega))
        have l8 := k8.get l7 (nb _ (by omega))
        have S8 := S7.keepsN k8 (fun j hj => by have := bl j hj; omega)
        (refine Go.run (g:=?_))
        refine Go.roundEnd rfl (get_put_other (by omega) l8) ?_
        have hn5 : h2.n < h8.n := by omega
        refine ⟨s.eraseIdx k, fun b hb => .inl hb, fun _ => ⟨AHeap.get_put_same _ (by simp only [AHeap.n_put]; omega) _, ?_, ?_, ?_, ?_, fun x hx => I.sub x (List.mem_of_mem_eraseIdx hx), by omega, ?_, ?_, ?_⟩, fun e => by cases e⟩
        · exact get_put_other (by omega) (get_put_other (by omega) md8)
        · exact get_put_other (by omega) (get_put_other (by omega) c48)
        · exact get_put_other (by omega) (AHeap.get_put_same h8 hn5 _)
        · exact sv8.keeps (((Keeps.rfl [h2.n, h3.n + 1] h8).put (by simp) _).put (by simp) _) (fun j hj hm => by have := bl j hj; simp only [List.mem_cons, List.not_mem_nil, or_false] at hm; omega)
        · rw [hF, ← mapErase]
        · exact S8.keepsN (((Keeps.rfl [h2.n, h3.n + 1] h8).put (by simp) _).put (by simp) _) (by simp; omega)
        · simp only [AHeap.n_put]; omega
  intro v H3 hres kp
  refine ⟨fun i hi => .inr (by
    simp only [List.mem_cons, List.mem_append, List.not_mem_nil, or_false] at hi
    rcases hi with (hi | hi | hi | hi) | hi
    · omega
    · omega
    · omega
    · omega
    · have := bl i hi; omega), .inr (by omega), ?_⟩
  rcases hres with ⟨s, I⟩ | ⟨s, i, hbad, ⟨tm', ps', as', bo', df', hl⟩, hd, h4⟩
  · rw [hit0] at I
    have hF := I.eq
    rw [isSome_done (by simp)] at hF
    have hIn := I.n
    refine ⟨_, _, _, _, _, _, _, .normal, I.loop, by rfl, rfl, ?_⟩
    refine Go.name ?_
    intro h9 e9
    have k9 : Keeps [h3.n + 1] H3 h9 := by subst e9; exact (Keeps.rfl _ _).put (by simp) _
    have n9 : h9.n = H3.n := by subst e9; rfl
    clear e9
    have g49 := k9.get I.c4 (by simp; omega)
    have gd9 := k9.get I.mark (by simp)
    (refine Go.run (g:=?_))
    refine Go.fin_marks (.inr rfl) (by intro d hd; simp only [List.mem_singleton] at hd; omega) (takeAll_one (get_put_other (by omega) gd9)) (.cell rfl inferInstance (get_put_other (by omega) (AHeap.get_put_same h9 (by omega) _)) rfl .nil) ?_
    rw [hF]; rfl
  · refine ⟨_, _, _, _, _, _, _, .ret, hl, by rfl, rfl, ?_⟩
    have hln := AHeap.lt hl
    (refine Go.run (g:=?_))
    refine Go.fin_marks (.inr rfl) (by intro d hd; simp only [List.mem_singleton] at hd; omega) (takeAll_one (get_put_other (by omega) hd)) (.cell rfl inferInstance (get_put_other (by omega) (get_put_other (by omega) h4)) rfl .nil) ?_
    rw [hbad]; rfl
end Go.Proofs.YtcilcloieilgdaaGreat
namespace Go.Proofs.YtcilcloieilgdaaGreat
set_option maxRecDepth 100000
attribute [local irreducible] Go GoR GoL
set_option maxHeartbeats 8000000 in
theorem great28_spec (A B : LV) (h : AHeap) (ia : LIn h A) (ib : LIn h B) : CallS Tryz.prog [] 5 [A.v, B.v] h fun v h' => ∃ g : Bool, v = .bool g ∧ (g = false → A.sent.length + B.got.length ≤ 400) := by
  have hsl := ia.sl
  have hgl := ib.gl
  unfold LV.v
  (refine CallS.of2 Tryz.func5 rfl Tryz.ntmps5 Tryz.results5 rfl ?_)
  (refine Go.run (g:=?_))
  refine Go.name ?_
  intro h2 e2
  have s2 : Same h h2 := by subst e2; exact ((Same.refl h).push _).push _
  have n2 : h2.n = h.n + 2 := by subst e2; rfl
  have ga : h2.get h.n = some (.cells [.int .i64 A.id, .int .u32 A.mine, .int .u32 A.peer, .slice A.sa A.sent.length A.sc, .slice A.ga A.got.length A.gc] 25) := by subst e2; exact get_push_lt (AHeap.get_push_same h _)
  have gb : h2.get (h.n + 1) = some (.cells [.int .i64 B.id, .int .u32 B.mine, .int .u32 B.peer, .slice B.sa B.sent.length B.sc, .slice B.ga B.got.length B.gc] 25) := by subst e2; exact AHeap.get_push_same (h.push _) _
  clear e2
  have rs := (ia.same s2).s.rv
  have rg := (ib.same s2).g.rv
  refine Go.loop (α := Nat × Nat) (fun x => [(6, .int .i64 x.1), (5, .int .i64 x.2), (2, .pointer (some ⟨h.n, 0, none⟩)), (3, .pointer (some ⟨h.n + 1, 0, none⟩))]) (fun _ => []) (fun x => h2) (fun x => x.1 ≤ A.sent.length ∧ A.sent.length + B.got.length ≤ x.2 ∧ x.2 ≤ 300000000000000) (fun x => A.sent.length - x.1) (0, A.sent.length + B.got.length) ?_ ?_ rfl rfl ?_
  · exact ⟨Nat.zero_le _, Nat.le_refl _, by simp only; omega⟩
  · exact ⟨rfl, rfl, rfl, rfl, trivial⟩
  rintro ⟨i, n⟩ ⟨hi, hn, hm⟩
  simp only at hi hn hm ⊢
  by_cases hgo : i < A.sent.length ∧ n ≤ 400
  · obtain ⟨i0, n0⟩ := hgo
    have v3 := mcs_3 i0
    have hb0 : i * 4 < (mcs A.sent).length := by rw [mcs_len]; omega
    have zl := (ia.sm _ (List.getElem_mem i0)).len
    have hq : A.sent[i].z.length / 64 ≤ 140737488355328 := Nat.le_trans (Nat.div_le_self _ _) zl
    (refine Go.run (g:=?_))
    exact Go.again (i + 1, n + A.sent[i].z.length / 64) ⟨by simp only; omega, by simp only; omega, by simp only; omega⟩ (by simp only; omega) ⟨rfl, rfl, rfl, rfl, trivial⟩ rfl rfl
  have fin : ∀ m : Nat, n ≤ m → (decide ((m : Int) > 400) = false → A.sent.length + B.got.length ≤ 400) := fun m hm hd => by
    have := of_decide_eq_false hd; omega
  have nx : (decide ((i : Int) < A.sent.length) = false) ∨ (i < A.sent.length ∧ ¬ n ≤ 400) := by
    rcases Nat.lt_or_ge i A.sent.length with x | x
    · exact .inr ⟨x, fun y => hgo ⟨x, y⟩⟩
    · exact .inl (decide_eq_false (by omega))
  rcases Nat.lt_or_ge i A.sent.length with i0 | i0
  · have n0 : 400 < n := by omega
    (refine Go.run (g:=?_))
    refine Go.loop (α := Nat × Nat) (fun x => [(7, .int .i64 x.1), (5, .int .i64 x.2), (2, .pointer (some ⟨h.n, 0, none⟩)), (3, .pointer (some ⟨h.n + 1, 0, none⟩))]) (fun _ => []) (fun x => h2) (fun x => x.1 ≤ B.got.length ∧ n ≤ x.2 ∧ x.2 ≤ 600000000000000) (fun x => B.got.length - x.1) (0, n) ?_ ?_ rfl rfl ?_
    · exact ⟨Nat.zero_le _, Nat.le_refl _, by simp only; omega⟩
    · exact ⟨rfl, rfl, rfl, rfl, trivial⟩
    rintro ⟨j, m⟩ ⟨hj, hnm, hm2⟩
    simp only at hj hnm hm2 ⊢
    rcases Nat.lt_or_ge j B.got.length with j0 | j0
    · rcases Nat.lt_or_ge 400 m with m0 | m0
      · (refine Go.run (g:=?_))
        (first|refine Go.finT (by first|exact .inr rfl|exact .inl rfl) rfl ?_|refine Go.fin1 (by first|exact .inr rfl|exact .inl rfl) rfl (hq:=?_))
        exact ⟨_, rfl, fin m hnm⟩
      · have v3 := mcs_3 j0
        have hb0 : j * 4 < (mcs B.got).length := by rw [mcs_len]; omega
        have zl := (ib.gm _ (List.getElem_mem j0)).len
        have hq : B.got[j].z.length / 64 ≤ 140737488355328 := Nat.le_trans (Nat.div_le_self _ _) zl
        (refine Go.run (g:=?_))
        exact Go.again (j + 1, m + B.got[j].z.length / 64) ⟨by simp only; omega, by simp only; omega, by simp only; omega⟩ (by simp only; omega) ⟨rfl, rfl, rfl, rfl, trivial⟩ rfl rfl
    · (refine Go.run (g:=?_))
      (first|refine Go.finT (by first|exact .inr rfl|exact .inl rfl) rfl ?_|refine Go.fin1 (by first|exact .inr rfl|exact .inl rfl) rfl (hq:=?_))
      exact ⟨_, rfl, fin m hnm⟩
  · (refine Go.run (g:=?_))
    refine Go.loop (α := Nat × Nat) (fun x => [(7, .int .i64 x.1), (5, .int .i64 x.2), (2, .pointer (some ⟨h.n, 0, none⟩)), (3, .pointer (some ⟨h.n + 1, 0, none⟩))]) (fun _ => []) (fun x => h2) (fun x => x.1 ≤ B.got.length ∧ n ≤ x.2 ∧ x.2 ≤ 600000000000000) (fun x => B.got.length - x.1) (0, n) ?_ ?_ rfl rfl ?_
    · exact ⟨Nat.zero_le _, Nat.le_refl _, by simp only; omega⟩
    · exact ⟨rfl, rfl, rfl, rfl, trivial⟩
    rintro ⟨j, m⟩ ⟨hj, hnm, hm2⟩
    simp only at hj hnm hm2 ⊢
    rcases Nat.lt_or_ge j B.got.length with j0 | j0
    · rcases Nat.lt_or_ge 400 m with m0 | m0
      · (refine Go.run (g:=?_))
        (first|refine Go.finT (by first|exact .inr rfl|exact .inl rfl) rfl ?_|refine Go.fin1 (by first|exact .inr rfl|exact .inl rfl) rfl (hq:=?_))
        exact ⟨_, rfl, fin m hnm⟩
      · have v3 := mcs_3 j0
        have hb0 : j * 4 < (mcs B.got).length := by rw [mcs_len]; omega
        have zl := (ib.gm _ (List.getElem_mem j0)).len
        have hq : B.got[j].z.length / 64 ≤ 140737488355328 := Nat.le_trans (Nat.div_le_self _ _) zl
        (refine Go.run (g:=?_))
        exact Go.again (j + 1, m + B.got[j].z.length / 64) ⟨by simp only; omega, by simp only; omega, by simp only; omega⟩ (by simp only; omega) ⟨rfl, rfl, rfl, rfl, trivial⟩ rfl rfl
    · (refine Go.run (g:=?_))
      (first|refine Go.finT (by first|exact .inr rfl|exact .inl rfl) rfl ?_|refine Go.fin1 (by first|exact .inr rfl|exact .inl rfl) rfl (hq:=?_))
      exact ⟨_, rfl, fin m hnm⟩
end Go.Proofs.YtcilcloieilgdaaGreat
namespace Go.Proofs.YtcilcloieilgdaaGreat
set_option maxRecDepth 100000
attribute [local irreducible] Go GoR GoL
instance miDone : MI Tryz.prog 62 .u16 (.agg #[]) := ⟨29, 63, by kernel_rfl, by kernel_rfl, by kernel_rfl, rfl, fun em n => by kernel_rfl⟩
def dn (ks : List Int) : List (Int × Value) := ks.map fun k => (k, .agg #[])
theorem al_dn (ks : List Int) (n : Int) : al (dn ks) n = if n ∈ ks then some (.agg #[]) else none := by
  induction ks with
  | nil => rfl
  | cons k ks ih =>
    show (if k = n then some (Value.agg #[]) else al (dn ks) n) = _
    rw [ih]
    by_cases h : k = n
    · subst h; simp
    · rw [if_neg h]; simp [Ne.symm h]
theorem aset_dn (ks : List Int) (n : Int) (h : n ∉ ks) : aset (dn ks) n (.agg #[]) = dn (ks ++ [n]) := by
  induction ks with
  | nil => rfl
  | cons k ks ih =>
    simp only [List.mem_cons, not_or] at h
    show (if k = n then _ else _) = _
    rw [if_neg (Ne.symm h.1)]
    show (k, Value.agg #[]) :: aset (dn ks) n (.agg #[]) = _
    rw [ih h.2]; rfl
set_option maxHeartbeats 16000000 in
theorem got_spec (A B : LV) (hsl : A.sent.length ≤ 1000000) (hgl : B.got.length ≤ 1000000) (h : AHeap) (ia : LIn h A) (ib : LIn h B) : CallS Tryz.prog [] 8 [A.v, B.v] h fun v h' => v = .bool (decide (A.mine = B.peer ∧ A.peer = B.mine) && gotM (A.sent.map MV.key) (B.got.map MV.key)) := by
  unfold LV.v
  by_cases e1 : A.mine = B.peer
  case neg =>
    have e1' : ¬ (A.mine : Int) = (B.peer : Int) := by omega
    (refine CallS.of2 Tryz.func8 rfl Tryz.ntmps8 Tryz.results8 rfl ?_)
    (refine Go.run (g:=?_))
    (first|refine Go.finT (by first|exact .inr rfl|exact .inl rfl) rfl ?_|refine Go.fin1 (by first|exact .inr rfl|exact .inl rfl) rfl (hq:=?_))
    simp [retV, e1]
  by_cases e2 : A.peer = B.mine
  case neg =>
    have e1' : (A.mine : Int) = (B.peer : Int) := by omega
    have e2' : ¬ (A.peer : Int) = (B.mine : Int) := by omega
    (refine CallS.of2 Tryz.func8 rfl Tryz.ntmps8 Tryz.results8 rfl ?_)
    (refine Go.run (g:=?_))
    (first|refine Go.finT (by first|exact .inr rfl|exact .inl rfl) rfl ?_|refine Go.fin1 (by first|exact .inr rfl|exact .inl rfl) rfl (hq:=?_))
    simp [retV, e2]
  have e1' : (A.mine : Int) = (B.peer : Int) := by omega
  have e2' : (A.peer : Int) = (B.mine : Int) := by omega
  rw [decide_eq_true (⟨e1, e2⟩ : A.mine = B.peer ∧ A.peer = B.mine), Bool.true_and]
  (refine CallS.of2 Tryz.func8 rfl Tryz.ntmps8 Tryz.results8 rfl ?_)
  (refine Go.run (g:=?_))
  refine GoR.name ?_
  intro h2 e2
  have s2 : Same h h2 := by subst e2; exact ((Same.refl h).push _).push _
  have n2 : h2.n = h.n + 2 := by subst e2; rfl
  have ga : h2.get h.n = some (.cells [.int .i64 A.id, .int .u32 A.mine, .int .u32 A.peer, .slice A.sa A.sent.length A.sc, .slice A.ga A.got.length A.gc] 25) := by subst e2; exact get_push_lt (AHeap.get_push_same h _)
  have gb : h2.get (h.n + 1) = some (.cells [.int .i64 B.id, .int .u32 B.mine, .int .u32 B.peer, .slice B.sa B.sent.length B.sc, .slice B.ga B.got.length B.gc] 25) := by subst e2; exact AHeap.get_push_same (h.push _) _
  clear e2
  have rs := (ia.same s2).s
  have rg := (ib.same s2).g
  refine GoR.makeMap rfl rfl rfl rfl ?_
  intro h3 M3 s3 n3
  have ga3 := s3.get ga
  have gb3 := s3.get gb
  (refine Go.run (g:=?_))
  refine Go.loop (α := Nat × List Int × AHeap) (fun x => [(26, .int .i64 x.1), (25, .int .i64 B.got.length), (24, .slice B.ga B.got.length B.gc), (5, .map (some h2.n)), (2, .pointer (some ⟨h.n, 0, none⟩)), (3, .pointer (some ⟨h.n + 1, 0, none⟩))]) (fun _ => []) (fun x => x.2.2) (fun x => x.1 ≤ B.got.length ∧ Same h2 x.2.2 ∧ h3.n ≤ x.2.2.n ∧ IMap x.2.2 h2.n .u16 (dn x.2.1) ∧ (∀ j (hj : j < B.got.length), j < x.1 → (B.got[j].sid : Int) ∈ x.2.1) ∧ ∀ n : Nat, (n : Int) ∈ x.2.1 → gotB (A.sent.map MV.key) (B.got.map MV.key) n = true) (fun x => B.got.length - x.1) (0, [], h3) ?_ ?_ rfl rfl ?_
  · exact ⟨Nat.zero_le _, s3, Nat.le_refl _, M3 _, fun j hj h0 => by simp only at h0; omega, fun n hn => by cases hn⟩
  · exact ⟨rfl, rfl, rfl, rfl, rfl, rfl, trivial⟩
  rintro ⟨i, ks, H⟩ ⟨hi, s4, n4, M4, hin, hgd⟩
  simp only at hi s4 n4 M4 hin hgd ⊢
  rcases Nat.lt_or_ge i B.got.length with i0 | i0
  case inr =>
    have hall : gotM (A.sent.map MV.key) (B.got.map MV.key) = true := by
      rw [gotM_all, List.all_eq_true]
      intro x hx
      obtain ⟨m, hm, rfl⟩ := List.mem_map.1 hx
      obtain ⟨j, hj, rfl⟩ := List.getElem_of_mem hm
      exact hgd _ (hin j hj (by omega))
    (refine Go.run (g:=?_))
    (first|refine Go.finT (by first|exact .inr rfl|exact .inl rfl) rfl ?_|refine Go.fin1 (by first|exact .inr rfl|exact .inl rfl) rfl (hq:=?_))
    rw [hall]; rfl
  have rg4 := rg.rv.same s4
  have cr0 := mcs_get i0
  have hbr : i * 4 + 4 ≤ (mcs B.got).length := by rw [mcs_len]; omega
  have ga4 := s4.get ga
  have gb4 := s4.get gb
  have nH : h.n ≤ H.n := by omega
  have nx : ∀ (ks' : List Int), (∀ x ∈ ks, x ∈ ks') → (B.got[i].sid : Int) ∈ ks' → ∀ j (hj : j < B.got.length), j < i + 1 → (B.got[j].sid : Int) ∈ ks' := fun ks' h1 h2 j hj hji => by
    rcases Nat.lt_or_ge j i with q | q
    · exact h1 _ (hin j hj q)
    · obtain rfl : j = i := by omega
      exact h2
  generalize hm : B.got[i] = m at *
  obtain ⟨sid, un, pp, z, a, cap⟩ := m
  simp only at cr0 nx
  clear hin
  (refine Go.run (g:=?_))
  refine GoR.name ?_
  intro h5 e5
  have s5 : Same H h5 := by subst e5; exact ((Same.refl H).push _).put (Nat.le_refl _) _
  have gm5 : h5.get H.n = some (.cells [.int .u16 sid, .bool un, .int .u32 pp, .slice a z.length cap] 32) := by subst e5; exact AHeap.get_put_same _ (by simp) _
  clear e5 cr0 hbr
  have n5 := s5.1
  have S5 := s4.trans s5
  have M5 := M4.same s5
  have ga5 := s5.get ga4
  have gb5 := s5.get gb4
  refine GoR.lookup2 rfl rfl rfl rfl rfl rfl M5 ?_
  rw [al_dn]
  by_cases hk : (sid : Int) ∈ ks
  · rw [if_pos hk]
    simp only [Option.getD_some, Option.isSome_some]
    (refine Go.run (g:=?_))
    refine Go.again (i + 1, ks, _) ⟨by simp only; omega, S5.trans (((Same.refl h5).push _).put (Nat.le_refl _) _), by simp; omega, M5.same (((Same.refl h5).push _).put (Nat.le_refl _) _), nx ks (fun x hx => hx) hk, hgd⟩ (by simp only; omega) ⟨rfl, rfl, rfl, rfl, rfl, rfl, trivial⟩ rfl rfl
  · rw [if_neg hk]
    simp only [Option.getD_none, Option.isSome_none]
    (refine Go.run (g:=?_))
    refine GoR.name ?_
    intro h6 e6
    have s6 : Same h5 h6 := by subst e6; exact ((Same.refl h5).push _).put (Nat.le_refl _) _
    clear e6
    have n6 := s6.1
    have M6 := M5.same s6
    have ga6 := s6.get ga5
    have gb6 := s6.get gb5
    have gm6 := s6.get gm5
    have S6 := S5.trans s6
    clear ga4 gb4 ga5 gb5 gm5 M5 M4
    (refine Go.run (g:=?_))
    refine GoR.mapUpdate (.inl rfl) rfl rfl rfl rfl rfl M6 (.inr (by omega)) ?_
    intro h7 M7 k7 n7
    rw [aset_dn ks _ hk] at M7
    have S7 := S6.keepsN k7 (by simp)
    have gm7 := k7.get gm6 (by simp; omega)
    have ga7 := k7.get ga6 (by simp; omega)
    have gb7 := k7.get gb6 (by simp; omega)
    (refine Go.run (g:=?_))
    refine GoR.call rfl rfl rfl rfl rfl rfl rfl (((of_spec B.ga B.gc B.got sid false hgl _ (rg.same S7)).argA).mono ?_)
    rintro _ h8 ⟨b1, c1, d1, rfl, O1⟩ s8
    have S8 := S7.trans s8
    have gm8 := s8.get gm7
    have ga8 := s8.get ga7
    have gb8 := s8.get gb7
    (refine Go.run (g:=?_))
    refine GoR.call rfl rfl rfl rfl rfl rfl rfl (((of_spec A.sa A.sc A.sent sid false hsl _ (rs.same S8)).argA).mono ?_)
    rintro _ h9 ⟨b2, c2, d2, rfl, O2⟩ s9
    have S9 := S8.trans s9
    have gm9 := s9.get gm8
    have ga9 := s9.get ga8
    have gb9 := s9.get gb8
    (refine Go.run (g:=?_))
    refine GoR.call rfl rfl rfl rfl rfl rfl rfl (((first_spec b1 c1 d1 B.ga B.gc B.got sid false b2 c2 d2 A.sa A.sc A.sent sid false _ (O1.same s9) O2).argA).mono ?_)
    rintro _ h10 rfl s10
    rw [pickV_key, pickV_key]
    have S10 := S9.trans s10
    have gm10 := s10.get gm9
    have ga10 := s10.get ga9
    have gb10 := s10.get gb9
    have bad : gotB (A.sent.map MV.key) (B.got.map MV.key) sid = false → gotM (A.sent.map MV.key) (B.got.map MV.key) = false := fun hb => by
      rw [gotM_all]
      refine all_false (i := i) (by simpa using i0) ?_
      rw [List.getElem_map, hm]; exact hb
    cases hF : isFirst (pickM (B.got.map MV.key) sid false) (pickM (A.sent.map MV.key) sid false) with
    | false =>
      (refine Go.run (g:=?_))
      (first|refine Go.finT (by first|exact .inr rfl|exact .inl rfl) rfl ?_|refine Go.fin1 (by first|exact .inr rfl|exact .inl rfl) rfl (hq:=?_))
      rw [bad (by simp [gotB, hF])]; rfl
    | true =>
      (refine Go.run (g:=?_))
      refine GoR.call rfl rfl rfl rfl rfl rfl rfl (((of_spec B.ga B.gc B.got sid true hgl _ (rg.same S10)).argA).mono ?_)
      rintro _ h11 ⟨b3, c3, d3, rfl, O3⟩ s11
      have S11 := S10.trans s11
      have gm11 := s11.get gm10
      have ga11 := s11.get ga10
      have gb11 := s11.get gb10
      (refine Go.run (g:=?_))
      refine GoR.call rfl rfl rfl rfl rfl rfl rfl (((of_spec A.sa A.sc A.sent sid true hsl _ (rs.same S11)).argA).mono ?_)
      rintro _ h12 ⟨b4, c4, d4, rfl, O4⟩ s12
      have S12 := S11.trans s12
      have gm12 := s12.get gm11
      have ga12 := s12.get ga11
      have gb12 := s12.get gb11
      (refine Go.run (g:=?_))
      refine GoR.call rfl rfl rfl rfl rfl rfl rfl (((some_spec b3 c3 d3 B.ga B.gc B.got sid true b4 c4 d4 A.sa A.sc A.sent sid true _ (O3.same s12) O4).argA).mono ?_)
      rintro _ h13 rfl s13
      rw [pickV_key, pickV_key]
      have S13 := S12.trans s13
      have K : Same h7 h13 := ((((s8.trans s9).trans s10).trans s11).trans s12).trans s13
      cases hG : isSome_ (pickM (B.got.map MV.key) sid true) (pickM (A.sent.map MV.key) sid true) with
      | false =>
        (refine Go.run (g:=?_))
        (first|refine Go.finT (by first|exact .inr rfl|exact .inl rfl) rfl ?_|refine Go.fin1 (by first|exact .inr rfl|exact .inl rfl) rfl (hq:=?_))
        rw [bad (by simp [gotB, hG])]; rfl
      | true =>
        have n13 := K.1
        (refine Go.run (g:=?_))
        refine Go.again (i + 1, ks ++ [(sid : Int)], h13) ⟨by simp only; omega, S13, by simp only; omega, M7.same K, nx _ (fun x hx => by simp [hx]) (by simp), fun n hn => ?_⟩ (by simp only; omega) ⟨rfl, rfl, rfl, rfl, rfl, rfl, trivial⟩ rfl rfl
        rcases List.mem_append.1 hn with q | q
        · exact hgd n q
        · have : n = sid := by simp at q; omega
          subst this
          simp [gotB, hF, hG]
end Go.Proofs.YtcilcloieilgdaaGreat
namespace Go.Proofs.YtcilcloieilgdaaGreat
open Go.RowKit
def rowNats : List Nat := [
  0, 4067132163, 3778769143, 324072436, 3348797215, 904991772, 648144872, 3570033899,
  2329499855, 2024987596, 1809983544, 2575936315, 1296289744, 3207089363, 2893594407, 1578318884,
  274646895, 3795141740, 4049975192, 51262619, 3619967088, 632279923, 922689671, 3298075524,
  2592579488, 1760304291, 2075979607, 2312596564, 1562183871, 2943781820, 3156637768, 1313733451,
  549293790, 3537243613, 3246849577, 871202090, 3878099393, 357341890, 102525238, 4101499445,
  2858735121, 1477399826, 1264559846, 3107202533, 1845379342, 2677391885, 2361733625, 2125378298,
  820201905, 3263744690, 3520608582, 598981189, 4151959214, 85089709, 373468761, 3827903834,
  3124367742, 1213305469, 1526817161, 2842354314, 2107672161, 2412447074, 2627466902, 1861252501,
  1098587580, 3004210879, 2688576843, 1378610760, 2262928035, 1955203488, 1742404180, 2511436119,
  3416409459, 969524848, 714683780, 3639785095, 205050476, 4266873199, 3976438427, 526918040,
  1361435347, 2739821008, 2954799652, 1114974503, 2529119692, 1691668175, 2005155131, 2247081528,
  3690758684, 697762079, 986182379, 3366744552, 476452099, 3993867776, 4250756596, 255256311,
  1640403810, 2477592673, 2164122517, 1922457750, 2791048317, 1412925310, 1197962378, 3037525897,
  3944729517, 427051182, 170179418, 4165941337, 746937522, 3740196785, 3451792453, 1070968646,
  1905808397, 2213795598, 2426610938, 1657317369, 3053634322, 1147748369, 1463399397, 2773627110,
  4215344322, 153784257, 444234805, 3893493558, 1021025245, 3467647198, 3722505002, 797665321,
  2197175160, 1889384571, 1674398607, 2443626636, 1164749927, 3070701412, 2757221520, 1446797203,
  137323447, 4198817972, 3910406976, 461344835, 3484808360, 1037989803, 781091935, 3705997148,
  2460548119, 1623424788, 1939049696, 2180517859, 1429367560, 2807687179, 3020495871, 1180866812,
  410100952, 3927582683, 4182430767, 186734380, 3756733383, 763408580, 1053836080, 3434856499,
  2722870694, 1344288421, 1131464017, 2971354706, 1708204729, 2545590714, 2229949006, 1988219213,
  680717673, 3673779818, 3383336350, 1002577565, 4010310262, 493091189, 238226049, 4233660802,
  2987750089, 1082061258, 1395524158, 2705686845, 1972364758, 2279892693, 2494862625, 1725896226,
  952904198, 3399985413, 3656866545, 731699698, 4283874585, 222117402, 510512622, 3959836397,
  3280807620, 837199303, 582374963, 3504198960, 68661723, 4135334616, 3844915500, 390545967,
  1230274059, 3141532936, 2825850620, 1510247935, 2395924756, 2091215383, 1878366691, 2644384480,
  3553878443, 565732008, 854102364, 3229815391, 340358836, 3861050807, 4117890627, 119113024,
  1493875044, 2875275879, 3090270611, 1247431312, 2660249211, 1828433272, 2141937292, 2378227087,
  3811616794, 291187481, 34330861, 4032846830, 615137029, 3603020806, 3314634738, 939183345,
  1776939221, 2609017814, 2295496738, 2058945313, 2926798794, 1545135305, 1330124605, 3173225534,
  4084100981, 17165430, 307568514, 3762199681, 888469610, 3332340585, 3587147933, 665062302,
  2042050490, 2346497209, 2559330125, 1793573966, 3190661285, 1279665062, 1595330642, 2910671697]
def u32s (ns : List Nat) : List Value := ns.map fun n => .int .u32 (.ofNat n)
def rowVal : Value := .agg (u32s rowNats).toArray
def eqU32 : List Value → List Nat → Bool
  | [], [] => true
  | .int .u32 (.ofNat a) :: l, n :: ns => Nat.beq a n && eqU32 l ns
  | _, _ => false
theorem eqU32_eq : ∀ {l : List Value} {ns : List Nat}, eqU32 l ns = true → l = u32s ns
  | [], [], _ => rfl
  | [], n :: ns, h => by cases h
  | v :: l, [], h => by unfold eqU32 at h; split at h <;> simp_all
  | v :: l, n :: ns, h => by
    unfold eqU32 at h
    split at h
    · simp_all
    · rename_i a l' n' ns' e1 e2
      cases e1; cases e2
      rw [Bool.and_eq_true] at h
      rw [Nat.eq_of_beq_eq_true h.1, eqU32_eq h.2]
      rfl
    · cases h
def isRow : Value → AHeap → List Nat → Option Bool
  | .agg a, _, _ => some (eqU32 a.toList rowNats)
  | _, _, _ => none
theorem isRow_eq {v : Value} {h : AHeap} {wr : List Nat} (e : isRow v h wr = some true) : v = rowVal := by
  unfold isRow at e
  split at e
  · rename_i a
    simp only [Option.some.injEq] at e
    show Value.agg a = .agg (u32s rowNats).toArray
    rw [← eqU32_eq e]
  · cases e
theorem CallRun.const {P : Program} {W : Nat → Prop} {f : FuncId} {v : Value} {h' : AHeap} (hg : P.globals.size = 0) (hc : CallRun P W f #[] emptyH v h') (hv : flatB v = true) (h : AHeap) : CallRun P (fun _ => False) f #[] h v h := by
  refine ⟨.refl _ _, fun m w args' hm hf ha hh => ?_⟩
  obtain rfl : args' = #[] := Array.eq_empty_of_size_eq_zero ha.1.symm
  refine (hc.run (fun _ => none) w #[] (fun g hlt => by omega) (fun i _ _ => rfl) (ARel.empty _) (hrel_empty P Ev w)).mono ?_
  rintro e w' ⟨v', m', rfl, hF, hV, _⟩
  have keep : ∀ b, b < w.heap.size → w'.heap[b]? = w.heap[b]? := fun b hb => hF.keep b hb fun j k hj => absurd hj (Nat.not_lt_zero j)
  refine ⟨v', m, rfl, ⟨fun _ _ => rfl, fun i l a b _ => by omega, fun b hb _ => keep b hb, hF.size, hF.os, hF.tape, hF.output⟩, ?_, ?_⟩
  · rw [VRel.eq_of_flat hV hv]; exact VRel.flat m hv
  · exact { lt := fun i l e => Nat.lt_of_lt_of_le (hh.lt i l e) hF.size
            typ := hh.typ
            inj := hh.inj
            roS := hh.roS
            obj := fun i l o hd e g => by
              obtain ⟨o', a, b⟩ := hh.obj i l o hd e g
              exact ⟨o', by rw [keep l.b (hh.lt i l e)]; exact a, b⟩ }
theorem rowRun : callK (A := Bool) Tryz.prog noS (fev Tryz.prog noS 5000) 261 [] emptyH isRow = some true := by kernel_rfl
theorem rowFlat : flatB rowVal = true := by kernel_rfl
theorem row_const (h : AHeap) : CallRun Tryz.prog (fun _ => False) 261 #[] h rowVal h := by
  obtain ⟨v, h', wr, hc, he⟩ := callRun_of (noS_ok _) rowRun
  obtain rfl := isRow_eq he
  exact CallRun.const (by kernel_rfl) hc rowFlat h
noncomputable def rowS : Summ := fun f args h => Bool.rec none (List.rec (some (rowVal, h, [])) (fun _ _ _ => none) args) (Nat.beq f 261)
theorem rowS_ok : SOk Tryz.prog rowS := fun f args h v h' wr e => by
  unfold rowS at e
  cases hb : Nat.beq f 261 with
  | false => rw [hb] at e; cases e
  | true =>
    rw [hb] at e
    cases args with
    | cons a l => cases e
    | nil =>
      cases e
      obtain rfl := Nat.eq_of_beq_eq_true hb
      exact (row_const h).weak fun i hi => hi.elim
def asB : Value → AHeap → List Nat → Option Bool
  | .bool b, _, _ => some b
  | _, _, _ => none
theorem asB_true {v : Value} {h : AHeap} {wr : List Nat} (e : asB v h wr = some true) : v = .bool true := by
  unfold asB at e
  split at e
  · cases e; rfl
  · cases e
end Go.Proofs.YtcilcloieilgdaaGreat
namespace Go.Proofs.YtcilcloieilgdaaGreat
open Go.RowKit
set_option maxRecDepth 100000
theorem works28Run : callK (A := Bool) Tryz.prog rowS (fev Tryz.prog rowS 200000) 6 [] emptyH asB = some true := by kernel_rfl
theorem works28 (h : AHeap) : CallS Tryz.prog [] 6 [] h fun u h' => u = .bool true ∧ h' = h := by
  obtain ⟨v, h', wr, hc, he⟩ := callRun_of rowS_ok works28Run
  obtain rfl := asB_true he
  exact CallS.known noGlobals hc rfl h
end Go.Proofs.YtcilcloieilgdaaGreat
namespace Go.Proofs.YtcilcloieilgdaaGreat
set_option maxRecDepth 100000
attribute [local irreducible] Go GoR GoL
set_option maxHeartbeats 8000000 in
theorem whole_spec (A B : LV) (hsl : A.sent.length ≤ 1000000) (hgl : B.got.length ≤ 1000000) (h : AHeap) (ia : LIn h A) (ib : LIn h B) : CallS Tryz.prog [] 9 [A.v, B.v] h fun v h' => v = .bool ((decide (A.mine = B.peer ∧ A.peer = B.mine) && gotM (A.sent.map MV.key) (B.got.map MV.key)) && decide (A.sent.length = B.got.length)) := by
  unfold LV.v
  (refine CallS.of2 Tryz.func9 rfl Tryz.ntmps9 Tryz.results9 rfl ?_)
  (refine Go.run (g:=?_))
  refine GoR.name ?_
  intro h2 e2
  have s2 : Same h h2 := by subst e2; exact ((Same.refl h).push _).push _
  have ga : h2.get h.n = some (.cells [.int .i64 A.id, .int .u32 A.mine, .int .u32 A.peer, .slice A.sa A.sent.length A.sc, .slice A.ga A.got.length A.gc] 25) := by subst e2; exact get_push_lt (AHeap.get_push_same h _)
  have gb : h2.get (h.n + 1) = some (.cells [.int .i64 B.id, .int .u32 B.mine, .int .u32 B.peer, .slice B.sa B.sent.length B.sc, .slice B.ga B.got.length B.gc] 25) := by subst e2; exact AHeap.get_push_same (h.push _) _
  clear e2
  have sp := got_spec A B hsl hgl h2 (ia.same s2) (ib.same s2)
  refine GoR.call rfl rfl rfl rfl rfl rfl rfl (((sp).argA).mono ?_)
  rintro _ h3 rfl s3
  have ga3 := s3.get ga
  have gb3 := s3.get gb
  cases hG : (decide (A.mine = B.peer ∧ A.peer = B.mine) && gotM (A.sent.map MV.key) (B.got.map MV.key)) with
  | false =>
    (refine Go.run (g:=?_))
    (first|refine Go.finT (by first|exact .inr rfl|exact .inl rfl) rfl ?_|refine Go.fin1 (by first|exact .inr rfl|exact .inl rfl) rfl (hq:=?_))
    rfl
  | true =>
    (refine Go.run (g:=?_))
    (first|refine Go.finT (by first|exact .inr rfl|exact .inl rfl) rfl ?_|refine Go.fin1 (by first|exact .inr rfl|exact .inl rfl) rfl (hq:=?_))
    simp [retV]
    try omega
end Go.Proofs.YtcilcloieilgdaaGreat
namespace Go.Proofs.YtcilcloieilgdaaGreat
set_option maxRecDepth 100000
attribute [local irreducible] Go GoR GoL
theorem aEqNil28 {P : Program} {h : AHeap} {t e : TypeId} (hu : P.underlying t = some (.slice e)) (a : Option Addr) (len cap : Nat) : aEq P h t (.slice a len cap) (.slice none 0 0) = some (a.isNone, []) := by
  unfold aEq
  rw [hu]
  cases a <;> rfl
set_option maxHeartbeats 8000000 in
theorem clone28_spec (a : Option Addr) (cap : Nat) (l : List MV) (hl : l.length ≤ 1000000) (h : AHeap) (hz : Rv Tryz.prog h 4 a l.length cap (mcs l)) : CallS Tryz.prog [] 10 [.slice a l.length cap] h fun v h' => ∃ b c, v = .slice b l.length c ∧ MRow h.n h' b c l := by
  have hone := mcs_one l
  generalize hlen : l.length = len at *
  cases a with
  | none =>
    obtain ⟨rfl, rfl⟩ : len = 0 ∧ cap = 0 := by
      generalize mcs l = cs at hz
      cases hz
      exact ⟨rfl, rfl⟩
    obtain rfl : l = [] := List.eq_nil_of_length_eq_zero hlen
    (refine CallS.of1 Tryz.func10 rfl Tryz.ntmps10 Tryz.results10 rfl ?_)
    (refine Go.run (g:=?_))
    refine GoR.eqRef rfl rfl rfl rfl (.inl rfl) rfl rfl (aEqNil28 msgsB _ _ _) ?_
    (refine Go.run (g:=?_))
    (first|refine Go.finT (by first|exact .inr rfl|exact .inl rfl) rfl ?_|refine Go.fin1 (by first|exact .inr rfl|exact .inl rfl) rfl (hq:=?_))
    exact ⟨none, 0, rfl, .nil, Own.nil _⟩
  | some a =>
    (refine CallS.of1 Tryz.func10 rfl Tryz.ntmps10 Tryz.results10 rfl ?_)
    (refine Go.run (g:=?_))
    refine GoR.eqRef rfl rfl rfl rfl (.inl rfl) rfl rfl (aEqNil28 msgsB _ _ _) ?_
    (refine Go.run (g:=?_))
    refine GoR.buildO (c := []) rfl rfl rfl rfl rfl (by decide) (by rfl) (by rfl) ?_
    intro b h1 hb ob s1 n1
    (refine Go.run (g:=?_))
    refine GoR.appendV rfl rfl rfl rfl rfl rfl hb (hz.same s1) (Own.ok ob (by omega)) (by omega) (by omega) hone ?_
    intro b2 c2 h2 hb2 k2 o2
    (refine Go.run (g:=?_))
    (first|refine Go.finT (by first|exact .inr rfl|exact .inl rfl) rfl ?_|refine Go.fin1 (by first|exact .inr rfl|exact .inl rfl) rfl (hq:=?_))
    subst hlen
    rw [Nat.zero_add] at hb2 ⊢
    exact ⟨b2, c2, rfl, hb2, fun j hj => by rcases o2 j hj with x | x; exact ob j x; omega⟩
set_option maxHeartbeats 32000000 in
theorem modelMore_spec (A B : LV) (l : List MV) (a : Option Addr) (cap : Nat) (h : AHeap) (ia : LIn h A) (ib : LIn h B) (hs : MS h a l.length cap l) (hp : ∀ m ∈ l, MIn h m) (hn : l.length ≤ 140737488355328) : CallS Tryz.prog [] 4 [A.v, B.v, .slice a l.length cap] h fun v h' => v = .bool true := by
  unfold LV.v
  (refine CallS.of3 Tryz.func4 rfl Tryz.ntmps4 Tryz.results4 rfl ?_)
  (refine Go.run (g:=?_))
  refine GoR.name ?_
  intro h2 e2
  have s2 : Same h h2 := by subst e2; exact ((Same.refl h).push _).push _
  have n2 : h2.n = h.n + 2 := by subst e2; rfl
  have ga : h2.get h.n = some (.cells [.int .i64 A.id, .int .u32 A.mine, .int .u32 A.peer, .slice A.sa A.sent.length A.sc, .slice A.ga A.got.length A.gc] 25) := by subst e2; exact get_push_lt (AHeap.get_push_same h _)
  have gb : h2.get (h.n + 1) = some (.cells [.int .i64 B.id, .int .u32 B.mine, .int .u32 B.peer, .slice B.sa B.sent.length B.sc, .slice B.ga B.got.length B.gc] 25) := by subst e2; exact AHeap.get_push_same (h.push _) _
  clear e2
  have gsp := great28_spec A B h2 (ia.same s2) (ib.same s2)
  refine GoR.call rfl rfl rfl rfl rfl rfl rfl (((gsp).argA).mono ?_)
  rintro _ h3 ⟨g, rfl, hg⟩ s3
  have S3 := s2.trans s3
  have m3 := s3.1
  have ga3 := s3.get ga
  have gb3 := s3.get gb
  clear gsp
  cases g with
  | true =>
    (refine Go.run (g:=?_))
    refine GoR.call rfl rfl rfl rfl rfl rfl rfl (((works28 _).argA).mono ?_)
    rintro _ h4 ⟨rfl, rfl⟩ -
    (refine Go.run (g:=?_))
    (first|refine Go.finT (by first|exact .inr rfl|exact .inl rfl) rfl ?_|refine Go.fin1 (by first|exact .inr rfl|exact .inl rfl) rfl (hq:=?_))
    rfl
  | false =>
  have hl := hg rfl
  clear hg
  rcases Nat.lt_or_ge 100 l.length with hm | hm
  · (refine Go.run (g:=?_))
    refine GoR.call rfl rfl rfl rfl rfl rfl rfl (((works28 _).argA).mono ?_)
    rintro _ h4 ⟨rfl, rfl⟩ -
    (refine Go.run (g:=?_))
    (first|refine Go.finT (by first|exact .inr rfl|exact .inl rfl) rfl ?_|refine Go.fin1 (by first|exact .inr rfl|exact .inl rfl) rfl (hq:=?_))
    rfl
  (refine Go.run (g:=?_))
  have sp1 := got_spec A B (by omega) (by omega) h3 (ia.same S3) (ib.same S3)
  refine GoR.call rfl rfl rfl rfl rfl rfl rfl (((sp1).argA).mono ?_)
  rintro _ h4 rfl s4
  have S4 := S3.trans s4
  have m4 := s4.1
  have ga4 := s4.get ga3
  have gb4 := s4.get gb3
  have wsp := whole_spec A B (by omega) (by omega) h4 (ia.same S4) (ib.same S4)
  clear sp1
  cases hG : (decide (A.mine = B.peer ∧ A.peer = B.mine) && gotM (A.sent.map MV.key) (B.got.map MV.key)) with
  | false =>
    rw [hG] at wsp
    (refine Go.run (g:=?_))
    refine GoR.call rfl rfl rfl rfl rfl rfl rfl (((wsp).argA).mono ?_)
    rintro _ h5 rfl s5
    simp only [Bool.false_and]
    (refine Go.run (g:=?_))
    refine GoR.call rfl rfl rfl rfl rfl rfl rfl (((works28 _).argA).mono ?_)
    rintro _ h6 ⟨rfl, rfl⟩ -
    (refine Go.run (g:=?_))
    (first|refine Go.finT (by first|exact .inr rfl|exact .inl rfl) rfl ?_|refine Go.fin1 (by first|exact .inr rfl|exact .inl rfl) rfl (hq:=?_))
    rfl
  | true =>
  clear wsp
  rw [Bool.and_eq_true, decide_eq_true_eq] at hG
  obtain ⟨hT, hGM⟩ := hG
  (repeat (first|refine GoR.end ?_|(refine GoR.gd rfl ?_;first|refine GoR.wanted' rfl rfl rfl rfl (g:=?_)|refine GoR.unwanted' rfl rfl rfl rfl (hd:=rfl) (hN:=rfl) (g:=?_)|refine GoR.unwantedU rfl rfl rfl rfl rfl rfl ?_)|(refine GoR.kk 0 rfl ?_;first|refine GoR.move rfl rfl rfl rfl rfl ?_|refine GoR.assign rfl rfl rfl rfl rfl ?_)|(refine GoR.kk 1 rfl ?_;first|refine GoR.load' rfl rfl rfl rfl rfl (g:=?_)|refine GoR.loadA' rfl rfl rfl rfl rfl (hv:=rfl) (g:=?_)|refine GoR.loadV' rfl rfl rfl rfl rfl (g:=?_)|refine GoR.loadVN' rfl rfl rfl rfl rfl (g:=?_))|(refine GoR.kk 2 rfl ?_;first|refine GoR.store' rfl rfl rfl rfl rfl (hl:=rfl) (h1:=rfl) (h3:=rfl) (g:=?_))|(refine GoR.kk 3 rfl ?_;first|refine GoR.fieldAddr rfl rfl rfl rfl rfl ?_|refine GoR.indexN' rfl rfl rfl rfl rfl rfl (g:=?_)|refine GoR.indexNs' rfl rfl rfl rfl rfl rfl (g:=?_)|refine GoR.indexV' rfl rfl rfl rfl rfl rfl (g:=?_)|refine GoR.indexA' rfl rfl rfl rfl rfl rfl (g:=?_)|refine GoR.fieldV' rfl rfl rfl rfl rfl (g:=?_))|(refine GoR.kk 4 rfl ?_;first|refine GoR.eq rfl rfl rfl rfl rfl rfl ?_|refine GoR.ne rfl rfl rfl rfl rfl rfl ?_|refine GoR.lt rfl rfl rfl rfl rfl rfl ?_|refine GoR.le rfl rfl rfl rfl rfl rfl ?_|refine GoR.gt rfl rfl rfl rfl rfl rfl ?_|refine GoR.ge rfl rfl rfl rfl rfl rfl ?_|refine GoR.addN' rfl rfl rfl rfl rfl rfl (g:=?_)|refine GoR.subN' rfl rfl rfl rfl rfl rfl (g:=?_)|refine GoR.add' rfl rfl rfl rfl rfl rfl (g:=?_)|refine GoR.sub' rfl rfl rfl rfl rfl rfl (g:=?_)|refine GoR.addM' rfl rfl rfl rfl rfl rfl (g:=?_)|refine GoR.subM' rfl rfl rfl rfl rfl rfl (g:=?_)|refine GoR.mulM' rfl rfl rfl rfl rfl rfl (g:=?_)|refine GoR.shrN rfl rfl rfl rfl rfl rfl rfl ?_|refine GoR.structEq rfl rfl rfl rfl rfl rfl (by rfl) (by rfl) ?_|refine GoR.structNe rfl rfl rfl rfl rfl rfl (by rfl) (by rfl) ?_|refine GoR.strEq rfl rfl rfl rfl rfl rfl ?_|refine GoR.strNe rfl rfl rfl rfl rfl rfl ?_|refine GoR.remN' rfl rfl rfl rfl rfl rfl (g:=?_)|refine GoR.quoN' rfl rfl rfl rfl rfl rfl (g:=?_)|refine GoR.shlN' rfl rfl rfl rfl rfl rfl rfl (g:=?_)|refine GoR.orN' rfl rfl rfl rfl rfl rfl (g:=?_))|(refine GoR.kk 5 rfl ?_;first|refine GoR.len rfl rfl rfl rfl rfl ?_|refine GoR.lenStr rfl rfl rfl rfl rfl ?_|refine GoR.capB rfl rfl rfl rfl rfl ?_)|(refine GoR.kk 7 rfl ?_;first|refine GoR.pickE' rfl rfl rfl rfl rfl (hx:=rfl) (hy:=rfl) (g:=?_)|refine GoR.pickN' rfl rfl rfl rfl rfl (hx:=rfl) (hy:=rfl) (g:=?_)|refine GoR.pickB rfl rfl rfl rfl rfl rfl rfl ?_)|(refine GoR.kk 8 rfl ?_;first|refine GoR.boxA rfl rfl rfl rfl rfl ?_|refine GoR.boxS rfl rfl rfl rfl rfl rfl ?_|refine GoR.alloc rfl rfl rfl rfl ?_)|(refine GoR.kk 9 rfl ?_;first|refine GoR.strV' rfl rfl rfl rfl rfl (g:=?_)|refine GoR.conv_u8 rfl rfl rfl rfl rfl ?_|refine GoR.convW' rfl rfl rfl rfl rfl (g:=?_)|refine GoR.conv_u16 rfl rfl rfl rfl rfl ?_|refine GoR.conv_u32 rfl rfl rfl rfl rfl ?_)|(refine GoR.kk 10 rfl ?_;first|refine GoR.build' rfl rfl rfl rfl rfl rfl (g:=?_))|(refine GoR.kk 11 rfl ?_;first|refine GoR.extract rfl rfl rfl rfl rfl rfl ?_|refine GoR.not rfl rfl rfl rfl rfl ?_|refine GoR.nilCheck rfl rfl rfl rfl rfl ?_|refine GoR.nilCheckF rfl rfl rfl rfl rfl ?_|refine GoR.makeFunc rfl rfl rfl rfl rfl rfl ?_)|(refine Go.kk 0 rfl ?_;refine Go.seq ?_)|(refine Go.kk 1 rfl ?_;refine Go.region (by kernel_rfl) rfl ?_)|(refine Go.kk 3 rfl ?_;first|refine Go.cond_t' rfl (g:=?_)|refine Go.cond_f' rfl (g:=?_))|(refine Go.kk 4 rfl ?_;refine Go.block ?_)|(refine Go.kk 5 rfl ?_;first|refine Go.skip ?_|refine Go.ret ?_|refine Go.exit ?_|refine Go.scope ?_)|refine Go.leave_normal ?_|refine Go.leave_same ?_|refine Go.leave_ret ?_|refine Go.ret_code ?_|refine Go.exit_code ?_|refine Go.leave_other rfl ?_|refine Go.sc_normal ?_|refine Go.sc_ret ?_|refine Go.sc_exit ?_|refine Go.exit_back ?_|refine Go.ret_back ?_))
  refine Go.loud (by kernel_rfl) rfl ?_
  (refine Go.runL (g:=?_))
  refine GoL.store' rfl rfl rfl rfl rfl (hl:=rfl) (h1:=rfl) (h3:=rfl) (g:=?_)
  (refine Go.runL (g:=?_))
  refine GoL.store' rfl rfl rfl rfl rfl (hl:=rfl) (h1:=rfl) (h3:=rfl) (g:=?_)
  (refine Go.runL (g:=?_))
  (refine GoL.end_ (hl := by (simp only [List.nil_append, List.cons_append, AHeap.n_push, AHeap.n_put]); repeat (first | exact loudP.nil | refine loudP.none ?_ | refine loudP.new (fun _ hb => absurd hb List.not_mem_nil) ?_ | refine loudP.row (by repeat (first | exact loudRowP.nil | refine loudRowP.none ?_ | refine loudRowP.bef (by decide +kernel) ?_ | refine loudRowP.apart (by first | exact .inl rfl | exact .inr (by simp)) rfl (fun i hi => by simp only [List.mem_cons, List.not_mem_nil, or_false] at hi; subst hi; first | (simp; fail_if_success focus skip) | (simp; omega)) ?_)) ?_)) ?_)
  refine Go.name ?_
  intro h5 e5
  have s5 : Same h4 h5 := by subst e5; exact ((((Same.refl h4).push _).push _).put (Nat.le_refl _) _).put (show h4.n ≤ h4.n + 1 from by omega) _
  have n5 : h5.n = h4.n + 2 := by subst e5; rfl
  have gw5 : h5.get h4.n = some (.cells [.int .i64 A.id, .int .u32 A.mine, .int .u32 A.peer, .slice A.sa A.sent.length A.sc, .slice A.ga A.got.length A.gc] 25) := by subst e5; exact get_put_other (show h4.n + 1 ≠ h4.n from by omega) (AHeap.get_put_same _ (by simp; omega) _)
  have gl5 : h5.get (h4.n + 1) = some (.cells [.int .i64 B.id, .int .u32 B.mine, .int .u32 B.peer, .slice B.sa B.sent.length B.sc, .slice B.ga B.got.length B.gc] 25) := by subst e5; exact AHeap.get_put_same _ (by simp) _
  clear e5
  have S5 := S4.trans s5
  have ga5 := s5.get ga4
  have gb5 := s5.get gb4
  (refine Go.run (g:=?_))
  have csp := clone28_spec A.sa A.sc A.sent (by omega) h5 (ia.same S5).s.rv
  refine GoR.call rfl rfl rfl rfl rfl rfl rfl (((csp).argA).mono ?_)
  rintro _ h6 ⟨b, c, rfl, R⟩ s6
  have S6 := S5.trans s6
  have m6 := s6.1
  have gw6 := s6.get gw5
  have gl6 := s6.get gl5
  have ga6 := s6.get ga5
  have gb6 := s6.get gb5
  clear csp
  have hone := mcs_one l
  (refine Go.run (g:=?_))
  refine GoR.appendV rfl rfl rfl rfl rfl rfl R.sv (hs.same S6).rv (Own.ok R.own (by omega)) (by omega) (by omega) hone ?_
  intro b7 c7 h7 hv7 k7 o7
  have own7 : Own h5.n b7 := fun j hj => by rcases o7 j hj with x | x; exact R.own j x; omega
  have m7 := k7.1
  have nob : ∀ j, j < h5.n → j ∉ blk b := fun j hj hm => by have := R.own _ hm; omega
  have gw7 := k7.get gw6 (nob _ (by omega))
  have gl7 := k7.get gl6 (nob _ (by omega))
  have ga7 := k7.get ga6 (nob _ (by omega))
  have gb7 := k7.get gb6 (nob _ (by omega))
  have S7 := S6.keepsN k7 (fun i hi => by have := R.own _ hi; omega)
  (refine Go.run (g:=?_))
  refine GoR.name ?_
  intro h8 e8
  have k8 : Keeps [h4.n] h7 h8 := by subst e8; exact (Keeps.rfl _ _).put (by simp) _
  have n8 : h8.n = h7.n := by subst e8; rfl
  have gw8 : h8.get h4.n = some (.cells [.int .i64 A.id, .int .u32 A.mine, .int .u32 A.peer, .slice b7 (A.sent.length + l.length) c7, .slice A.ga A.got.length A.gc] 25) := by subst e8; exact get_put_self gw7
  clear e8
  have gl8 := k8.get gl7 (by simp)
  have ga8 := k8.get ga7 (by simp; omega)
  have gb8 := k8.get gb7 (by simp; omega)
  have S8 := S7.keepsN k8 (by simp; omega)
  have hv8 := hv7.keeps k8 (fun j hj hm => by simp only [List.mem_singleton] at hm; have := own7 _ hj; omega)
  rw [← mcs_app] at hv8
  have iw : LIn h8 ⟨A.id, A.mine, A.peer, b7, c7, A.sent ++ l, A.ga, A.gc, A.got⟩ := by
    have q := ia.same S8
    have ml : ∀ m ∈ A.sent ++ l, MIn h8 m := fun m hm => by
      rcases List.mem_append.1 hm with x | x
      · exact q.sm m x
      · exact (hp m x).same S8
    exact ⟨⟨rfl, by simpa using hv8.rv, fun m hm => (ml m hm).ok⟩, q.g, ml, q.gm, by simp; omega, q.gl⟩
  have gsp8 := got_spec ⟨A.id, A.mine, A.peer, b7, c7, A.sent ++ l, A.ga, A.gc, A.got⟩ B (by simp; omega) (by omega) h8 iw (ib.same S8)
  rw [show (decide (A.mine = B.peer ∧ A.peer = B.mine) && gotM ((A.sent ++ l).map MV.key) (B.got.map MV.key)) = true from by
    rw [decide_eq_true hT, List.map_append, got_more _ hGM]; rfl] at gsp8
  simp only [LV.v, List.length_append] at gsp8
  clear iw
  (refine Go.run (g:=?_))
  refine GoR.call rfl rfl rfl rfl rfl rfl rfl (((gsp8).argA).mono ?_)
  rintro _ h9 rfl s9
  clear gsp8
  have S9 := S8.trans s9
  have m9 := s9.1
  have gl9 := s9.get gl8
  have ga9 := s9.get ga8
  have gb9 := s9.get gb8
  clear gw5 gw6 gw7 gw8 gl5 gl6 gl7 gl8 ga gb ga3 gb3 ga4 gb4 ga5 gb5 ga6 gb6 ga7 gb7 ga8 gb8 hv7 hv8
  (refine Go.run (g:=?_))
  refine Go.loop (α := Nat × Option Addr × Nat × Nat × AHeap) (fun x => [(45, .int .i64 x.1), (44, .int .i64 B.got.length), (3, .pointer (some ⟨h.n, 0, none⟩)), (4, .pointer (some ⟨h.n + 1, 0, none⟩)), (8, .pointer (some ⟨h4.n + 1, 0, none⟩))]) (fun _ => []) (fun x => x.2.2.2.2) (fun x => x.1 ≤ B.got.length ∧ Same h x.2.2.2.2 ∧ h9.n ≤ x.2.2.2.2.n ∧ x.2.2.2.2.get h.n = some (.cells [.int .i64 A.id, .int .u32 A.mine, .int .u32 A.peer, .slice A.sa A.sent.length A.sc, .slice A.ga A.got.length A.gc] 25) ∧ x.2.2.2.2.get (h.n + 1) = some (.cells [.int .i64 B.id, .int .u32 B.mine, .int .u32 B.peer, .slice B.sa B.sent.length B.sc, .slice B.ga B.got.length B.gc] 25) ∧ x.2.2.2.2.get (h4.n + 1) = some (.cells [.int .i64 B.id, .int .u32 B.mine, .int .u32 B.peer, .slice B.sa B.sent.length B.sc, .slice x.2.1 x.2.2.1 x.2.2.2.1] 25)) (fun x => B.got.length - x.1) (0, B.ga, B.got.length, B.gc, h9) ?_ ?_ rfl rfl ?_
  · exact ⟨Nat.zero_le _, S9, Nat.le_refl _, ga9, gb9, gl9⟩
  · exact ⟨rfl, rfl, rfl, rfl, rfl, trivial⟩
  rintro ⟨i, la, ll, lc, H⟩ ⟨hi, S10, n10, ga10, gb10, gl10⟩
  simp only at hi S10 n10 ga10 gb10 gl10 ⊢
  rcases Nat.lt_or_ge i B.got.length with i0 | i0
  case inr =>
    (refine Go.run (g:=?_))
    refine GoR.call rfl rfl rfl rfl rfl rfl rfl (((works28 _).argA).mono ?_)
    rintro _ h11 ⟨rfl, rfl⟩ -
    (refine Go.run (g:=?_))
    (first|refine Go.finT (by first|exact .inr rfl|exact .inl rfl) rfl ?_|refine Go.fin1 (by first|exact .inr rfl|exact .inl rfl) rfl (hq:=?_))
    rfl
  have q10 := ib.same S10
  have hrv := q10.g.rv
  have hle := hrv.le
  (refine Go.run (g:=?_))
  refine GoR.sliceV (lo' := none) (hi' := some (.int .i64 (i : Nat))) (l := 0) (r := i) rfl rfl rfl rfl rfl rfl rfl hrv rfl rfl (by omega) (by omega) ?_
  rw [Nat.sub_zero, Nat.sub_zero]
  (refine Go.run (g:=?_))
  refine GoR.name ?_
  intro h11 e11
  have k11 : Keeps [h4.n + 1] H h11 := by subst e11; exact (Keeps.rfl _ _).put (by simp) _
  have n11 : h11.n = H.n := by subst e11; rfl
  have gl11 : h11.get (h4.n + 1) = some (.cells [.int .i64 B.id, .int .u32 B.mine, .int .u32 B.peer, .slice B.sa B.sent.length B.sc, .slice (subA B.ga (0 * 4)) i B.gc] 25) := by subst e11; exact get_put_self gl10
  clear e11
  have ga11 := k11.get ga10 (by simp; omega)
  have gb11 := k11.get gb10 (by simp; omega)
  have S11 := S10.keepsN k11 (by simp; omega)
  have q11 := ib.same S11
  have sub11 := q11.g.rv.sub (l := 0) (r := i) (by omega) (by omega)
  rw [Nat.sub_zero, Nat.sub_zero, Nat.zero_mul, List.drop_zero, mcs_take] at sub11
  have tl : (B.got.take i).length = i := by rw [List.length_take]; omega
  have il : LIn h11 ⟨B.id, B.mine, B.peer, B.sa, B.sc, B.sent, subA B.ga 0, B.gc, B.got.take i⟩ := by
    exact ⟨q11.s, ⟨rfl, by rw [tl]; exact sub11, fun m hm => (q11.gm m (List.mem_of_mem_take hm)).ok⟩, q11.sm, fun m hm => q11.gm m (List.mem_of_mem_take hm), q11.sl, by rw [tl]; have := q11.gl; omega⟩
  have gsp11 := got_spec A ⟨B.id, B.mine, B.peer, B.sa, B.sc, B.sent, subA B.ga 0, B.gc, B.got.take i⟩ (by omega) (by rw [tl]; omega) h11 (ia.same S11) il
  rw [show (decide (A.mine = B.peer ∧ A.peer = B.mine) && gotM (A.sent.map MV.key) ((B.got.take i).map MV.key)) = true from by
    rw [decide_eq_true hT, List.map_take, got_less _ hGM]; rfl] at gsp11
  simp only [LV.v, tl] at gsp11
  rw [Nat.zero_mul] at gl11
  clear il sub11 q11 hrv q10
  (refine Go.run (g:=?_))
  refine GoR.call rfl rfl rfl rfl rfl rfl rfl (((gsp11).argA).mono ?_)
  rintro _ h12 rfl s12
  clear gsp11
  (refine Go.run (g:=?_))
  refine Go.again (i + 1, subA B.ga 0, i, B.gc, h12) ⟨by simp only; omega, S11.trans s12, by have := s12.1; simp only; omega, s12.get ga11, s12.get gb11, s12.get gl11⟩ (by simp only; omega) ⟨rfl, rfl, rfl, rfl, rfl, trivial⟩ rfl rfl
end Go.Proofs.YtcilcloieilgdaaGreat
namespace Go.Proofs.YtcilcloieilgdaaGreat
open Go.ChangeShapes Go.WideShapes Go.ChangeAt Go.RowKit
set_option maxRecDepth 100000
theorem modelMoreWalk {H : Type} {enc : TypeId × Value → H} {base : Nat} {d0 d1 d2 : DataW H} {p0 p1 p2 : List MemPlace} (v0 v1 v2 : Value) (W : World) (o0 : Value.okWide Tryz.prog W .any base 25 v0) (h0 : DataW.Trod enc Tryz.prog W 0 (fun _ => true) true 25 v0 d0 p0) (z0 : Sized Tryz.prog 25 d0) (o1 : Value.okWide Tryz.prog W .any base 25 v1) (h1 : DataW.Trod enc Tryz.prog W 0 (fun _ => true) true 25 v1 d1 p1) (z1 : Sized Tryz.prog 25 d1) (o2 : Value.okWide Tryz.prog W .any base 23 v2) (h2 : DataW.Trod enc Tryz.prog W 0 (fun _ => true) true 23 v2 d2 p2) (z2 : Sized Tryz.prog 23 d2) : Calls Tryz.prog 4 #[v0, v1, v2] W fun e w' => e = .returned (.bool true) ∧ Below W.heap.size W w' := by
  obtain ⟨c0, rfl, hsz0⟩ := okWide_struct Tryz.underlying25 o0
  obtain ⟨c1, rfl, hsz1⟩ := okWide_struct Tryz.underlying25 o1
  obtain ⟨a0, l0, k0, rfl⟩ := WideShapes.okWide_slice msgsB o2
  obtain ⟨m, h, cs, I, _, _, hA, hR, hl⟩ := imp_val plainLine h0 (Im.empty Tryz.prog W)
  obtain ⟨m1, h', cs1, I1, hm1, s1, hA1, hR1, hl1⟩ := imp_val plainLine h1 I
  obtain ⟨m2, h'', cs2, I2, hm2, s2, hA2, hR2, hl2⟩ := imp_val plainMsgs h2 I1
  have hv := vrel_agg hA
  have hv1 := vrel_agg hA1
  obtain ⟨x, rfl, hv2⟩ := vrel_one hA2 (by rw [hl2]; kernel_rfl) rfl
  obtain ⟨A, rfl, ia⟩ := line_of hR z0
  obtain ⟨B, rfl, ib⟩ := line_of hR1 z1
  obtain ⟨a, cap, l, e, hs, hp, hn⟩ := msgs_of hR2 z2
  cases e
  exact calls_imp noGlobals I2 rfl (modelMore_spec A B l a cap h'' ((ia.same s1).same s2) (ib.same s2) hs hp hn) (((ARel.single ((hv.mono hm1).mono hm2)).push (hv1.mono hm2)).push hv2)
end Go.Proofs.YtcilcloieilgdaaGreat