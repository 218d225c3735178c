/- What ootb.Quiet and ootb.Answer, and the document's, return: the walks. -/
import Derived.Test.YtefdedjnkmpkjaaProg
import Derived.Test.YtefdedjnkmpkjaaBase
namespace Go.Proofs.Ytefdedjnkmpkjaa
set_option linter.unusedVariables false
open Go.RowKit

/-- The fifteen cells of a chunk of kind k. -/
def ChCells (k : Nat) (cs : List Value) : Prop := cs.length = 15 ∧ cs[0]? = some (.int .u8 (k : Int))
/-- The kinds that are not answered. -/
def quietKind (k : Int) : Bool := k == 6 || k == 14 || k == 11 || k == 9 || k == 1


set_option maxRecDepth 100000 in
set_option maxHeartbeats 400000 in
theorem quietFn (k : Nat) (cs : List Value) (h : ChCells k cs) (w : World) :
    Calls Try.prog 47 #[.agg cs.toArray] w fun e w' => e = .returned (.bool (quietKind k)) ∧ Below w.heap.size w w' := by
  obtain ⟨h1, h2⟩ := h
  match cs, h1 with
  | [c0, c1, c2, c3, c4, c5, c6, c7, c8, c9, c10, c11, c12, c13, c14], _ =>
    simp only [List.getElem?_cons_zero, Option.some.injEq] at h2
    subst h2
    go_enter Try.func47, Try.ntmps47
    go_wp2
    all_goals
      go_ret
      refine ⟨?_, Below.one _⟩
      simp only [quietKind, *]
      rfl

set_option maxRecDepth 100000 in
set_option maxHeartbeats 400000 in
theorem shutFn (k : Nat) (cs : List Value) (h : ChCells k cs) (w : World) :
    Calls Try.prog 44 #[.agg cs.toArray] w fun e w' => e = .returned (.bool ((k : Int) == 8)) ∧ Below w.heap.size w w' := by
  obtain ⟨h1, h2⟩ := h
  match cs, h1 with
  | [c0, c1, c2, c3, c4, c5, c6, c7, c8, c9, c10, c11, c12, c13, c14], _ =>
    simp only [List.getElem?_cons_zero, Option.some.injEq] at h2
    subst h2
    go_enter Try.func44, Try.ntmps44
    go_wp2
    go_ret
    exact ⟨rfl, Below.one _⟩

/-- A slice of chunks, of the kinds K. -/
def Chs (w : World) (B : Nat) (A : Option Addr) (K : List Nat) : Prop :=
  K ≠ [] → ∃ b off, A = some ⟨b, off, none⟩ ∧ b < B ∧ ∀ i k, K[i]? = some k → ∃ cs, ChCells k cs ∧ w.rangeAt b (off + i * 15) cs
theorem Chs.below {w w' : World} {B B' : Nat} {A : Option Addr} {K : List Nat} (h : Chs w B A K) (hb : Below B' w w') (hB : B ≤ B') : Chs w' B A K := fun hk => by
  obtain ⟨b, off, e, hlt, hc⟩ := h hk
  refine ⟨b, off, e, hlt, fun i k hik => ?_⟩
  obtain ⟨cs, h1, h2⟩ := hc i k hik
  exact ⟨cs, h1, fun j v hj => (hb.cell (p := ⟨b, off + i * 15 + j, none⟩) (Nat.lt_of_lt_of_le hlt hB)).trans (h2 j v hj)⟩
theorem Chs.more {w : World} {B B' : Nat} {A : Option Addr} {K : List Nat} (h : Chs w B A K) (hB : B ≤ B') : Chs w B' A K := fun hk => by
  obtain ⟨b, off, e, hlt, hc⟩ := h hk
  exact ⟨b, off, e, Nat.lt_of_lt_of_le hlt hB, hc⟩

theorem any_take_succ {α : Type} (q : α → Bool) (l : List α) (k : Nat) (h : k < l.length) : (l.take (k + 1)).any q = ((l.take k).any q || q l[k]) := by
  rw [take_snoc l k h, List.any_append, List.any_cons, List.any_nil, Bool.or_false]
theorem infoChunk : (Try.prog.info? 45).map (·.size) = some 15 := by kernel_rfl

set_option maxRecDepth 100000 in
set_option maxHeartbeats 400000 in
theorem indexFn (f : FuncId) (hcall : ∀ args w, (callFunc f args).run Try.prog w = .ok (.enter f args) w) (p : Int → Bool) (hf : ∀ (k : Nat) (cs : List Value), ChCells k cs → ∀ w, Calls Try.prog f #[.agg cs.toArray] w fun e w' => e = .returned (.bool (p k)) ∧ Below w.heap.size w w')
    (A : Option Addr) (cap : Nat) (K : List Nat) (hn : K.length ≤ 9000000000000) (w : World) (h : Chs w w.heap.size A K) :
    Calls Try.prog 59 #[.slice A K.length cap, .func (.func f) #[] #[]] w
      fun e w' => (∃ n : Int, e = .returned (.int .i64 n) ∧ decide (0 ≤ n) = K.any (fun k => p k)) ∧ Below w.heap.size w w' := by
  have HF := Lib.hid hf; clear hf
  have HC := Lib.hid h; clear h
  go_enter Try.func59, Try.ntmps59
  go_wp2_with fail
  go_loopw [8] (fun i wr => ∃ k : Nat, k ≤ K.length ∧ i = .int .i64 k ∧ (K.take k).any (fun k => p k) = false ∧ Below w.heap.size w wr) (fun i _ => K.length - (intOf i).toNat)
  case atStart => exact ⟨0, by omega, rfl, by simp, Below.refl _ _⟩
  case round =>
    obtain ⟨k, hk, rfl, hany, hb⟩ := hrel
    have HA := Lib.hid hany; clear hany
    by_cases hlt : k < K.length
    · obtain ⟨b, off, rfl, hbb, hc⟩ := HC.out (by intro e; subst e; simp at hlt)
      obtain ⟨cs, hcs, hrg⟩ := hc k K[k] (by simp [hlt])
      clear hc
      have hi0 : (k : Int) < (K.length : Int) := by omega
      have hrg' : wr.rangeAt b (off + k * 15) cs := fun j v hj => (hb.cell (p := ⟨b, off + k * 15 + j, none⟩) hbb).trans (hrg j v hj)
      have hsz : (Try.prog.info? 45).map (·.size) = some cs.length := by rw [hcs.1]; exact infoChunk
      have HG := Lib.hid hrg'; clear hrg hrg'
      have HZ := Lib.hid hsz; clear hsz
      have HS := Lib.hid hcs; clear hcs
      go_wp2_with (refine wpList_load_mid rfl 45 (.tmp 14) rfl b (off + k * 15) rfl cs _ HG.out Try.underlying45 rfl HZ.out ?_)
      refine (HF.out K[k] cs HS.out _).mono ?_
      rintro e w1 ⟨rfl, hb1⟩
      have hb1' := hb.trans (hb1.mono hb.size)
      clear hb1
      have HT := Lib.hid (any_take_succ (fun k : Nat => p k) K k hlt)
      by_cases hp : p K[k] = true
      · have hp' : p (K[k] : Int) = true := hp
        rw [hp']
        go_wp2_with fail
        go_ret
        refine ⟨⟨_, rfl, ?_⟩, hb1'⟩
        have h1 : K.any (fun k => p k) = true := by
          rw [List.any_eq_true]; exact ⟨K[k], List.getElem_mem hlt, hp⟩
        rw [h1]; simp
      · have hp' : p (K[k] : Int) = false := by simpa using hp
        rw [hp'] at HT ⊢
        go_wp2_with fail
        go_roundw
        case rel => exact ⟨k + 1, by omega, by go_num, by rw [HT.out, HA.out]; rfl, hb1'⟩
        case measure => simp [intOf]; omega
    · obtain rfl : k = K.length := by omega
      go_wp2_with fail
      go_ret
      refine ⟨⟨_, rfl, ?_⟩, hb⟩
      rw [← List.take_length (l := K), HA.out]; rfl

theorem containsFn (f : FuncId) (hcall : ∀ args w, (callFunc f args).run Try.prog w = .ok (.enter f args) w) (p : Int → Bool) (hf : ∀ (k : Nat) (cs : List Value), ChCells k cs → ∀ w, Calls Try.prog f #[.agg cs.toArray] w fun e w' => e = .returned (.bool (p k)) ∧ Below w.heap.size w w')
    (A : Option Addr) (cap : Nat) (K : List Nat) (hn : K.length ≤ 9000000000000) (w : World) (h : Chs w w.heap.size A K) :
    Calls Try.prog 43 #[.slice A K.length cap, .func (.func f) #[] #[]] w
      fun e w' => e = .returned (.bool (K.any (fun k => p k))) ∧ Below w.heap.size w w' := by
  have HX := Lib.hid (indexFn f hcall p hf A cap K hn w h); clear hf hcall h
  go_enter Try.func43, Try.ntmps43
  go_wp2_with fail
  refine HX.out.mono ?_
  rintro e w1 ⟨⟨n, rfl, hn0⟩, hb1⟩
  have HN := Lib.hid hn0; clear hn0
  go_wp2_with fail
  go_ret
  refine ⟨?_, hb1⟩
  rw [← HN.out]
  rfl

theorem callQuietFn (args : Array Value) (w : World) : (callFunc 47 args).run Try.prog w = .ok (.enter 47 args) w := by kernel_rfl
theorem callShutFn (args : Array Value) (w : World) : (callFunc 44 args).run Try.prog w = .ok (.enter 44 args) w := by kernel_rfl

/-- A packet's value. -/
def pk (f t g : Int) (A : Option Addr) (n cap : Nat) : Value := .agg #[.int .u16 f, .int .u16 t, .int .u32 g, .slice A n cap]
def quietB (g : Int) (K : List Nat) : Bool := (K.length == 0) || (g == 0) || K.any (fun k => quietKind k)

set_option maxRecDepth 100000 in
set_option maxHeartbeats 400000 in
theorem quiet_any (f t g : Int) (A : Option Addr) (cap : Nat) (K : List Nat) (hn : K.length ≤ 9000000000000) (w : World) (h : Chs w w.heap.size A K) :
    Calls Try.prog 24 #[pk f t g A K.length cap] w fun e w' => e = .returned (.bool (quietB g K)) ∧ Below w.heap.size w w' := by
  unfold pk
  by_cases h0 : K.length = 0
  · have e0 : ((K.length : Int) == 0) = true := beq_iff_eq.2 (by omega)
    have HQ : Hid (quietB g K = true) := by show _ = _; simp [quietB, h0]
    clear h h0
    go_enter Try.func24, Try.ntmps24
    go_wp2_with fail
    go_ret
    exact ⟨by rw [HQ.out]; rfl, Below.one _⟩
  · have e0 : ((K.length : Int) == 0) = false := beq_eq_false_iff_ne.2 (by omega)
    by_cases hg : g = 0
    · have hg' : (g == 0) = true := beq_iff_eq.2 hg
      have HQ : Hid (quietB g K = true) := by show _ = _; simp [quietB, hg]
      clear h h0 hg
      go_enter Try.func24, Try.ntmps24
      go_wp2_with fail
      go_ret
      exact ⟨by rw [HQ.out]; rfl, Below.one _⟩
    · have hg' : (g == 0) = false := beq_eq_false_iff_ne.2 hg
      have HQ : Hid (quietB g K = K.any (fun k => quietKind k)) := by
        show _ = _
        have h2 : (K.length == 0) = false := beq_eq_false_iff_ne.2 h0
        simp only [quietB, h2, hg', Bool.false_or]
      have HC := Lib.hid h; clear h h0 hg
      go_enter Try.func24, Try.ntmps24
      go_wp2_with fail
      refine (containsFn _ callQuietFn quietKind quietFn A cap K hn _ ((HC.out.below (Below.one _) (Nat.le_refl _)).more (Below.one _).size)).mono ?_
      rintro e w1 ⟨rfl, hb1⟩
      have hb1' : Below w.heap.size w w1 := (Below.one _).trans (hb1.mono (Below.one _).size)
      clear hb1
      rw [← HQ.out]
      go_wp2_with fail
      go_ret
      exact ⟨rfl, hb1'⟩
end Go.Proofs.Ytefdedjnkmpkjaa
