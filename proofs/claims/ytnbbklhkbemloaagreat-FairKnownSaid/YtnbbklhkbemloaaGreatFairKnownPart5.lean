/- What the law leans on, part 5. No conditions. -/
import Derived.Test.YtnbbklhkbemloaaGreatProg
import Derived.KernelRfl
import Derived.Test.YtnbbklhkbemloaaGreatChecked
import Derived.Test.YtnbbklhkbemloaaGreatFairKnownPart4
set_option linter.unusedVariables false
set_option linter.unusedSimpArgs false
namespace Go.Proofs.YtnbbklhkbemloaaGreat
instance : CT Tryz.prog 5 none := ⟨by kernel_rfl⟩
theorem un5 : Tryz.prog.underlying 5 = some (.int .u8) := by kernel_rfl
instance : CT Tryz.prog 25 none := ⟨by kernel_rfl⟩
theorem un25 : Tryz.prog.underlying 25 = some (.int .u32) := by kernel_rfl
instance : EL Tryz.prog 28 (none, 1) := ⟨by kernel_rfl⟩
instance : UN Tryz.prog 28 (.slice 5) := ⟨by kernel_rfl⟩
instance : SZ Tryz.prog 494 256 := ⟨by kernel_rfl⟩
instance : EL Tryz.prog 494 (some 256, 1) := ⟨by kernel_rfl⟩
instance : IC Tryz.prog 25 5 .u8 := .of un25 un5
theorem noGlobals : Tryz.prog.globals.size = 0 := by kernel_rfl
end Go.Proofs.YtnbbklhkbemloaaGreat
namespace Go.Proofs.YtnbbklhkbemloaaGreat
open Go.RowKit
def rowNats : List Nat := [
  0, 4067132163, 3778769143, 324072436, 3348797215, 904991772, 648144872, 3570033899,
  2329499855, 2024987596, 1809983544, 2575936315, 1296289744, 3207089363, 2893594407, 1578318884,
  274646895, 3795141740, 4049975192, 51262619, 3619967088, 632279923, 922689671, 3298075524,
  2592579488, 1760304291, 2075979607, 2312596564, 1562183871, 2943781820, 3156637768, 1313733451,
  549293790, 3537243613, 3246849577, 871202090, 3878099393, 357341890, 102525238, 4101499445,
  2858735121, 1477399826, 1264559846, 3107202533, 1845379342, 2677391885, 2361733625, 2125378298,
  820201905, 3263744690, 3520608582, 598981189, 4151959214, 85089709, 373468761, 3827903834,
  3124367742, 1213305469, 1526817161, 2842354314, 2107672161, 2412447074, 2627466902, 1861252501,
  1098587580, 3004210879, 2688576843, 1378610760, 2262928035, 1955203488, 1742404180, 2511436119,
  3416409459, 969524848, 714683780, 3639785095, 205050476, 4266873199, 3976438427, 526918040,
  1361435347, 2739821008, 2954799652, 1114974503, 2529119692, 1691668175, 2005155131, 2247081528,
  3690758684, 697762079, 986182379, 3366744552, 476452099, 3993867776, 4250756596, 255256311,
  1640403810, 2477592673, 2164122517, 1922457750, 2791048317, 1412925310, 1197962378, 3037525897,
  3944729517, 427051182, 170179418, 4165941337, 746937522, 3740196785, 3451792453, 1070968646,
  1905808397, 2213795598, 2426610938, 1657317369, 3053634322, 1147748369, 1463399397, 2773627110,
  4215344322, 153784257, 444234805, 3893493558, 1021025245, 3467647198, 3722505002, 797665321,
  2197175160, 1889384571, 1674398607, 2443626636, 1164749927, 3070701412, 2757221520, 1446797203,
  137323447, 4198817972, 3910406976, 461344835, 3484808360, 1037989803, 781091935, 3705997148,
  2460548119, 1623424788, 1939049696, 2180517859, 1429367560, 2807687179, 3020495871, 1180866812,
  410100952, 3927582683, 4182430767, 186734380, 3756733383, 763408580, 1053836080, 3434856499,
  2722870694, 1344288421, 1131464017, 2971354706, 1708204729, 2545590714, 2229949006, 1988219213,
  680717673, 3673779818, 3383336350, 1002577565, 4010310262, 493091189, 238226049, 4233660802,
  2987750089, 1082061258, 1395524158, 2705686845, 1972364758, 2279892693, 2494862625, 1725896226,
  952904198, 3399985413, 3656866545, 731699698, 4283874585, 222117402, 510512622, 3959836397,
  3280807620, 837199303, 582374963, 3504198960, 68661723, 4135334616, 3844915500, 390545967,
  1230274059, 3141532936, 2825850620, 1510247935, 2395924756, 2091215383, 1878366691, 2644384480,
  3553878443, 565732008, 854102364, 3229815391, 340358836, 3861050807, 4117890627, 119113024,
  1493875044, 2875275879, 3090270611, 1247431312, 2660249211, 1828433272, 2141937292, 2378227087,
  3811616794, 291187481, 34330861, 4032846830, 615137029, 3603020806, 3314634738, 939183345,
  1776939221, 2609017814, 2295496738, 2058945313, 2926798794, 1545135305, 1330124605, 3173225534,
  4084100981, 17165430, 307568514, 3762199681, 888469610, 3332340585, 3587147933, 665062302,
  2042050490, 2346497209, 2559330125, 1793573966, 3190661285, 1279665062, 1595330642, 2910671697]
def u32s (ns : List Nat) : List Value := ns.map fun n => .int .u32 (.ofNat n)
def rowVal : Value := .agg (u32s rowNats).toArray
def eqU32 : List Value → List Nat → Bool
  | [], [] => true
  | .int .u32 (.ofNat a) :: l, n :: ns => Nat.beq a n && eqU32 l ns
  | _, _ => false
theorem eqU32_eq : ∀ {l : List Value} {ns : List Nat}, eqU32 l ns = true → l = u32s ns
  | [], [], _ => rfl
  | [], n :: ns, h => by cases h
  | v :: l, [], h => by unfold eqU32 at h; split at h <;> simp_all
  | v :: l, n :: ns, h => by
    unfold eqU32 at h
    split at h
    · simp_all
    · rename_i a l' n' ns' e1 e2
      cases e1; cases e2
      rw [Bool.and_eq_true] at h
      rw [Nat.eq_of_beq_eq_true h.1, eqU32_eq h.2]
      rfl
    · cases h
def isRow : Value → AHeap → List Nat → Option Bool
  | .agg a, _, _ => some (eqU32 a.toList rowNats)
  | _, _, _ => none
theorem isRow_eq {v : Value} {h : AHeap} {wr : List Nat} (e : isRow v h wr = some true) : v = rowVal := by
  unfold isRow at e
  split at e
  · rename_i a
    simp only [Option.some.injEq] at e
    show Value.agg a = .agg (u32s rowNats).toArray
    rw [← eqU32_eq e]
  · cases e
theorem CallRun.const {P : Program} {W : Nat → Prop} {f : FuncId} {v : Value} {h' : AHeap} (hg : P.globals.size = 0) (hc : CallRun P W f #[] emptyH v h') (hv : flatB v = true) (h : AHeap) : CallRun P (fun _ => False) f #[] h v h := by
  refine ⟨.refl _ _, fun m w args' hm hf ha hh => ?_⟩
  obtain rfl : args' = #[] := Array.eq_empty_of_size_eq_zero ha.1.symm
  refine (hc.run (fun _ => none) w #[] (fun g hlt => by omega) (fun i _ _ => rfl) (ARel.empty _) (hrel_empty P Ev w)).mono ?_
  rintro e w' ⟨v', m', rfl, hF, hV, _⟩
  have keep : ∀ b, b < w.heap.size → w'.heap[b]? = w.heap[b]? := fun b hb => hF.keep b hb fun j k hj => absurd hj (Nat.not_lt_zero j)
  refine ⟨v', m, rfl, ⟨fun _ _ => rfl, fun i l a b _ => by omega, fun b hb _ => keep b hb, hF.size, hF.os, hF.tape, hF.output⟩, ?_, ?_⟩
  · rw [VRel.eq_of_flat hV hv]; exact VRel.flat m hv
  · exact { lt := fun i l e => Nat.lt_of_lt_of_le (hh.lt i l e) hF.size
            typ := hh.typ
            inj := hh.inj
            roS := hh.roS
            obj := fun i l o hd e g => by
              obtain ⟨o', a, b⟩ := hh.obj i l o hd e g
              exact ⟨o', by rw [keep l.b (hh.lt i l e)]; exact a, b⟩ }
theorem rowRun : callK (A := Bool) Tryz.prog noS (fev Tryz.prog noS 5000) 343 [] emptyH isRow = some true := by kernel_rfl
theorem rowFlat : flatB rowVal = true := by kernel_rfl
theorem row_const (h : AHeap) : CallRun Tryz.prog (fun _ => False) 343 #[] h rowVal h := by
  obtain ⟨v, h', wr, hc, he⟩ := callRun_of (noS_ok _) rowRun
  obtain rfl := isRow_eq he
  exact CallRun.const (by kernel_rfl) hc rowFlat h
noncomputable def rowS : Summ := fun f args h => Bool.rec none (List.rec (some (rowVal, h, [])) (fun _ _ _ => none) args) (Nat.beq f 343)
theorem rowS_ok : SOk Tryz.prog rowS := fun f args h v h' wr e => by
  unfold rowS at e
  cases hb : Nat.beq f 343 with
  | false => rw [hb] at e; cases e
  | true =>
    rw [hb] at e
    cases args with
    | cons a l => cases e
    | nil =>
      cases e
      obtain rfl := Nat.eq_of_beq_eq_true hb
      exact (row_const h).weak fun i hi => hi.elim
def asB : Value → AHeap → List Nat → Option Bool
  | .bool b, _, _ => some b
  | _, _, _ => none
theorem asB_true {v : Value} {h : AHeap} {wr : List Nat} (e : asB v h wr = some true) : v = .bool true := by
  unfold asB at e
  split at e
  · cases e; rfl
  · cases e
end Go.Proofs.YtnbbklhkbemloaaGreat
namespace Go.Proofs.YtnbbklhkbemloaaGreat
set_option maxRecDepth 100000
attribute [local irreducible] Go GoR GoL
theorem rowNats_eq : rowNats = (List.range 256).map (Crc.it 8) := by decide +kernel
def IsRow (l : List Value) : Prop := l.length = 256 ∧ l.all Value.oneCell' = true ∧ ∀ j, j < 256 → l[j]? = some (.int .u32 (Crc.it 8 j : Nat))
theorem row_spec (h : AHeap) : CallS Tryz.prog [] 343 [] h fun v h' => (∃ l, v = .agg l.toArray ∧ IsRow l) ∧ h' = h := by
  obtain ⟨v, h', wr, hc, he⟩ := callRun_of (noS_ok _) rowRun
  obtain rfl := isRow_eq he
  refine (CallS.known noGlobals hc rowFlat h).mono ?_
  rintro _ h' ⟨rfl, rfl⟩
  refine ⟨⟨u32s rowNats, rfl, by decide +kernel, by decide +kernel, fun j hj => ?_⟩, rfl⟩
  rw [rowNats_eq]
  simp [u32s, hj]
theorem com_u32 {x : Nat} (hx : x < 4294967296) : iBin .xor .u32 (if IntKind.u32.signed then -1 else IntKind.u32.max) (x : Int) = some (.int .u32 ((4294967295 - x : Nat) : Int)) := by
  have e := iXor_nat (k := .u32) (x := 4294967295) (y := x) (show 4294967295 < 4294967296 by decide) hx
  rw [Crc.not_eq x hx] at e
  exact e
def zrow : List Value := List.replicate 256 (.int .u32 0)
theorem al_row : AL Tryz.prog 494 zrow := ⟨by kernel_rfl⟩
theorem setL_all {c l : List Value} (e : l.length = c.length) : setL c 0 l = l := by
  simp [setL, e]
theorem zrow_len : zrow.length = 256 := by simp [zrow]
theorem byte_at {zs : List UInt8} {k : Nat} (hk : k < zs.length) : (zs.map bv)[k]? = some (.int .u8 (zs[k].toNat : Int)) := by simp [hk, bv]
set_option maxHeartbeats 4000000 in
theorem crcMore_spec (s : Nat) (hs : s < 4294967296) (a : Option Addr) (cap : Nat) (zs : List UInt8) (hl : zs.length ≤ 1000000000) (h : AHeap) (hz : Rv Tryz.prog h 1 a zs.length cap (zs.map bv)) : CallS Tryz.prog [] 285 [.int .u32 s, .slice a zs.length cap] h fun v h' => v = .int .u32 (Crc.more s zs : Nat) := by
  generalize hlen : zs.length = len at *
  rcases Nat.eq_zero_or_pos len with h0 | h0
  · subst h0
    obtain rfl : zs = [] := List.eq_nil_of_length_eq_zero hlen
    (refine CallS.of2 Tryz.func285 rfl Tryz.ntmps285 Tryz.results285 rfl ?_)
    (refine Go.run (g:=?_))
    (first|refine Go.finT (by first|exact .inr rfl|exact .inl rfl) rfl ?_|refine Go.fin1 (by first|exact .inr rfl|exact .inl rfl) rfl (hq:=?_))
    show Value.int .u32 _ = _
    rw [Crc.more_nil s hs]
  · (refine CallS.of2 Tryz.func285 rfl Tryz.ntmps285 Tryz.results285 rfl ?_)
    (refine Go.run (g:=?_))
    refine GoR.call rfl rfl rfl rfl rfl rfl rfl (((row_spec _).argA).mono ?_)
    rintro _ h1 ⟨⟨l, rfl, hl1, hl2, hl3⟩, rfl⟩ s1
    refine GoR.alloc (ha := al_row) rfl rfl rfl rfl ?_
    refine GoR.store (c' := l) rfl rfl rfl rfl rfl (AHeap.get_push_same _ _) rfl hl1 (by rw [zrow_len]; decide) hl2 (setL_all (hl1.trans zrow_len.symm)) (.inr (Nat.le_refl _)) ?_
    (refine Go.run (g:=?_))
    refine GoR.com rfl rfl rfl rfl rfl (com_u32 hs) ?_
    (refine Go.run (g:=?_))
    have hg : ((h1.push (.cells zrow 494)).put h1.n (some (.cells l 494))).get h1.n = some (.cells l 494) := get_put_self (AHeap.get_push_same _ _)
    have S1 : Same h1 ((h1.push (.cells zrow 494)).put h1.n (some (.cells l 494))) := ((Same.refl h1).push _).put (Nat.le_refl _) _
    generalize ((h1.push (.cells zrow 494)).put h1.n (some (.cells l 494))) = H at *
    have hz2 := hz.same S1
    refine Go.loop (α := Nat) (fun k => [(18, .int .i64 k), (6, .int .u32 (Crc.fold (4294967295 - s) (zs.take k) : Nat)), (17, .int .i64 len), (16, .slice a len cap), (5, .pointer (some ⟨h1.n, 0, none⟩))]) (fun _ => []) (fun _ => H) (fun k => k ≤ len) (fun k => len - k) 0 (Nat.zero_le _) ⟨rfl, rfl, rfl, rfl, rfl, trivial⟩ rfl rfl ?_
    rintro k hk
    rcases Nat.lt_or_ge k len with hlt | hge
    · have hcell := byte_at (zs := zs) (k := k) (by omega)
      have hst := Crc.fold_snoc (4294967295 - s) (zs.take k) (zs[k]'(by omega))
      rw [← List.take_succ_eq_append_getElem (by omega)] at hst
      have hr := Crc.fold_lt (4294967295 - s) (zs.take k) (by omega)
      have hcb := (zs[k]'(by omega)).toNat_lt
      generalize Crc.fold (4294967295 - s) (zs.take k) = r at *
      generalize (zs[k]'(by omega)).toNat = c at *
      have hj : (r % 256) ^^^ c < 2 ^ 8 := Nat.xor_lt_two_pow (by omega) hcb
      have hlj := hl3 _ hj
      have hv := Crc.it_lt 8 ((r % 256) ^^^ c) (Nat.lt_trans hj (by decide))
      rw [← Crc.beh_row] at hst
      have hrow : (r % 2 ^ 8) ^^^ c = (r % 256) ^^^ c := rfl
      rw [hrow] at hst
      (refine Go.run (g:=?_))
      refine GoR.xorN rfl rfl rfl rfl rfl rfl (show r % 256 < 2 ^ 8 by omega) hcb ?_
      generalize (r % 256) ^^^ c = j at *
      generalize Crc.it 8 j = v at *
      (refine Go.run (g:=?_))
      refine GoR.xorN rfl rfl rfl rfl rfl rfl hv (show r / 2 ^ 8 < 2 ^ 32 by omega) ?_
      (refine Go.run (g:=?_))
      refine Go.again (k + 1) hlt (by omega) ⟨rfl, ?_, rfl, rfl, rfl, trivial⟩ rfl rfl
      rw [hst]
      rfl
    · obtain rfl : k = len := by omega
      have hr := Crc.fold_lt (4294967295 - s) (zs.take k) (by omega)
      have ht : zs.take k = zs := List.take_of_length_le (by omega)
      rw [ht] at hr ⊢
      have hm : Crc.more s zs = 4294967295 - Crc.fold (4294967295 - s) zs := rfl
      rw [hm]
      generalize Crc.fold (4294967295 - s) zs = r at *
      (refine Go.run (g:=?_))
      refine GoR.com rfl rfl rfl rfl rfl (com_u32 hr) ?_
      (refine Go.run (g:=?_))
      (first|refine Go.finT (by first|exact .inr rfl|exact .inl rfl) rfl ?_|refine Go.fin1 (by first|exact .inr rfl|exact .inl rfl) rfl (hq:=?_))
      rfl
end Go.Proofs.YtnbbklhkbemloaaGreat
namespace Go.Proofs.YtnbbklhkbemloaaGreat
set_option maxRecDepth 100000
theorem CallRun.row {P : Program} (hg : P.globals.size = 0) {f : FuncId} {args : List Value} {h h₂ : AHeap} {b : Nat} {c : List Value} {v : Value} (hb : rowOf (h.get b) = some c) (hfl : ∀ x ∈ c, flatB x = true) (hc : CallRun P (fun _ => False) f args.toArray (restr h [b]) v h₂) (hv : flatB v = true) (hargs : ∀ (m m₁ : Mp) (a' : Array Value), m b = m₁ b → ARel m args.toArray a' → ARel m₁ args.toArray a') : CallRun P (fun _ => False) f args.toArray h v h := by
  refine ⟨.refl _ _, fun m w args' hm hf ha hh => ?_⟩
  have hbn : b < h.n := by
    rcases rowOf_inv hb with ⟨t, e⟩ | e
    · exact AHeap.lt e
    · exact AHeap.lt e
  obtain ⟨m₁, hm₁⟩ : ∃ m₁ : Mp, m₁ = fun i => if i = b then m i else none := ⟨_, rfl⟩
  have e1 : m b = m₁ b := by rw [hm₁]; simp
  have e2 : ∀ i l, m₁ i = some l → i = b ∧ m b = some l := fun i l e => by
    rw [hm₁] at e
    by_cases q : i = b
    · subst q; simp at e; exact ⟨rfl, e⟩
    · simp [q] at e
  refine (hc.run m₁ w args' (fun g hlt => by omega) (fun i h1 h2 => ?_) (hargs m m₁ args' e1 ha) ?_).mono ?_
  · rw [restr_n] at h1
    rw [hm₁]
    exact if_neg (by omega)
  · refine ⟨fun i l e => ?_, fun i l c' t e g => ?_, fun i j l k e e' _ _ _ => ?_, fun i l c' e g => ?_, fun i l o _ e g => ?_⟩
    · obtain ⟨rfl, e⟩ := e2 i l e; exact hh.lt _ l e
    · obtain ⟨rfl, e⟩ := e2 i l e; exact hh.typ _ l c' t e (restr_some g).1
    · rw [(e2 i l e).1, (e2 j k e').1]
    · obtain ⟨rfl, e⟩ := e2 i l e; exact hh.roS _ l c' e (restr_some g).1
    · obtain ⟨rfl, e⟩ := e2 i l e
      have g := (restr_some g).1
      obtain ⟨o', x, y⟩ := hh.obj _ l o trivial e g
      refine ⟨o', x, ?_⟩
      rw [g] at hb
      cases y with
      | cells hs hf' hv' =>
        cases hb
        exact .cells hs hf' fun i u e => by
          obtain ⟨u', a, r⟩ := hv' i u e
          have fu := hfl u (List.mem_of_getElem? e)
          rw [VRel.eq_of_flat r fu] at a
          exact ⟨u, a, VRel.flat m₁ fu⟩
      | ro hs hv' =>
        cases hb
        exact .ro hs fun i u e => by
          obtain ⟨u', a, r⟩ := hv' i u e
          have fu := hfl u (List.mem_of_getElem? e)
          rw [VRel.eq_of_flat r fu] at a
          exact ⟨u, a, VRel.flat m₁ fu⟩
      | _ => cases hb
  rintro e w' ⟨v', m', rfl, hF, hV, _⟩
  have keep : ∀ b, b < w.heap.size → w'.heap[b]? = w.heap[b]? := fun b hb => hF.keep b hb fun j k hj x => x.elim
  refine ⟨v', m, rfl, ⟨fun _ _ => rfl, fun i l a b _ => by omega, fun b hb _ => keep b hb, hF.size, hF.os, hF.tape, hF.output⟩, ?_, ?_⟩
  · rw [VRel.eq_of_flat hV hv]; exact VRel.flat m hv
  · exact { lt := fun i l e => Nat.lt_of_lt_of_le (hh.lt i l e) hF.size
            typ := hh.typ
            inj := hh.inj
            roS := hh.roS
            obj := fun i l o hd e g => by
              obtain ⟨o', a, b⟩ := hh.obj i l o hd e g
              exact ⟨o', by rw [keep l.b (hh.lt i l e)]; exact a, b⟩ }
noncomputable def bitX (r : Nat) : Nat := Nat.xor (Nat.div r 2) (Nat.mul (Nat.mod r 2) 2197175160)
theorem bitX_eq (r : Nat) : bitX r = Crc.bit r := by
  show (r / 2) ^^^ (r % 2 * 2197175160) = Crc.bit r
  unfold Crc.bit Crc.P
  rcases Nat.mod_two_eq_zero_or_one r with h | h
  · rw [h, if_neg (by decide), Nat.zero_mul, Nat.xor_zero]
  · rw [h, if_pos rfl, Nat.one_mul]
noncomputable def crcStepK {α : Type} (r n : Nat) (K : Nat → α) : α := forceNat (Nat.xor r n) fun r => forceNat (bitX r) fun r => forceNat (bitX r) fun r => forceNat (bitX r) fun r => forceNat (bitX r) fun r => forceNat (bitX r) fun r => forceNat (bitX r) fun r => forceNat (bitX r) fun r => forceNat (bitX r) K
theorem crcStepK_eq {α : Type} (r n : Nat) (K : Nat → α) : crcStepK r n K = K (Crc.beh r n) := by
  unfold crcStepK
  simp only [forceNat_eq, bitX_eq]
  rfl
noncomputable def byteK {α : Type} (v : Value) : (Nat → Option α) → Option α := match v with
  | .int .u8 (.ofNat n) => fun K => ifK (Nat.ble (Nat.succ n) 256) (K n) none
  | _ => fun _ => none
noncomputable def foldK {α : Type} (l : List Value) : Nat → (Nat → Option α) → Option α := List.rec (fun r K => K r) (fun v _ ih r K => byteK v fun n => crcStepK r n fun r => ih r K) l
theorem byteK_inv {α : Type} {v : Value} {K : Nat → Option α} {a : α} (e : byteK v K = some a) : ∃ z : UInt8, v = bv z ∧ K z.toNat = some a := by
  unfold byteK at e
  split at e
  · rename_i n
    obtain ⟨h1, h2⟩ := ifK_yes e
    have hn : n < 256 := Nat.le_of_ble_eq_true h1
    refine ⟨UInt8.ofNat n, ?_, ?_⟩
    · simp only [bv, UInt8.toNat_ofNat', Value.int.injEq, true_and]
      show (n : Int) = _
      omega
    · rw [UInt8.toNat_ofNat', Nat.mod_eq_of_lt hn]; exact h2
  · cases e
theorem foldK_inv {α : Type} : ∀ {l : List Value} {r : Nat} {K : Nat → Option α} {a : α}, foldK l r K = some a → ∃ zs : List UInt8, l = zs.map bv ∧ K (Crc.fold r zs) = some a
  | [], r, K, a, e => ⟨[], rfl, e⟩
  | v :: l, r, K, a, e => by
    have e' : byteK v (fun n => crcStepK r n fun r => foldK l r K) = some a := e
    obtain ⟨z, rfl, h⟩ := byteK_inv e'
    rw [crcStepK_eq] at h
    obtain ⟨zs, hz, h2⟩ := foldK_inv h
    exact ⟨z :: zs, by rw [hz]; rfl, h2⟩
noncomputable def flatL (c : List Value) : Bool := List.rec true (fun v _ ih => Bool.rec false ih (flatB v)) c
theorem flatL_inv : ∀ {c : List Value}, flatL c = true → ∀ x ∈ c, flatB x = true
  | [], _, x, hx => by cases hx
  | v :: l, e, x, hx => by
    have e' : (Bool.rec false (flatL l) (flatB v) : Bool) = true := e
    cases hv : flatB v with
    | false => rw [hv] at e'; cases e'
    | true =>
      rw [hv] at e'
      rcases List.mem_cons.1 hx with rfl | hx
      · exact hv
      · exact flatL_inv e' x hx
noncomputable def moreC (c : List Value) (s o len cap : Nat) (h : AHeap) : Option (Value × AHeap × List Nat) :=
  ifK (Nat.ble (Nat.succ s) 4294967296) (ifK (Nat.ble (Nat.add o len) c.length) (ifK (Nat.ble len cap) (ifK (Nat.ble len 1000000) (ifK (flatL c) (foldK ((c.drop o).take len) (Nat.sub 4294967295 s) fun r => forceNat (Nat.sub 4294967295 r) fun x => some (.int .u32 (.ofNat x), h, [])) none) none) none) none) none
noncomputable def moreO (o : Option AObj) (s i len cap : Nat) (h : AHeap) : Option (Value × AHeap × List Nat) := match o with
  | some (.cells c t) => ifK (Nat.beq t 5) (moreC c s i len cap h) none
  | some (.ro c) => moreC c s i len cap h
  | _ => none
noncomputable def moreK (args : List Value) (h : AHeap) : Option (Value × AHeap × List Nat) := match args with
  | [.int .u32 (.ofNat s), .slice (some ⟨b, o, none⟩) len cap] => moreO (hget h b) s o len cap h
  | _ => none
theorem moreC_inv {c : List Value} {s o len cap : Nat} {h h' : AHeap} {v : Value} {wr : List Nat} (e : moreC c s o len cap h = some (v, h', wr)) : ∃ zs : List UInt8, s < 4294967296 ∧ o + len ≤ c.length ∧ len ≤ cap ∧ zs.length = len ∧ len ≤ 1000000 ∧ (∀ x ∈ c, flatB x = true) ∧ (c.drop o).take len = zs.map bv ∧ v = .int .u32 (Crc.more s zs : Nat) ∧ h' = h ∧ wr = [] := by
  unfold moreC at e
  obtain ⟨h1, e⟩ := ifK_yes e
  obtain ⟨h2, e⟩ := ifK_yes e
  obtain ⟨h3, e⟩ := ifK_yes e
  obtain ⟨h4, e⟩ := ifK_yes e
  obtain ⟨h5, e⟩ := ifK_yes e
  obtain ⟨zs, hz, e⟩ := foldK_inv e
  rw [forceNat_eq] at e
  simp only [Option.some.injEq, Prod.mk.injEq] at e
  obtain ⟨rfl, rfl, rfl⟩ := e
  have h2' : o + len ≤ c.length := Nat.le_of_ble_eq_true h2
  refine ⟨zs, Nat.le_of_ble_eq_true h1, h2', Nat.le_of_ble_eq_true h3, ?_, Nat.le_of_ble_eq_true h4, flatL_inv h5, hz, rfl, rfl, rfl⟩
  have := congrArg List.length hz
  rw [List.length_map, List.length_take, List.length_drop] at this
  omega
theorem moreK_inv {args : List Value} {h h' : AHeap} {v : Value} {wr : List Nat} (e : moreK args h = some (v, h', wr)) : ∃ (s b o cap : Nat) (zs : List UInt8) (c : List Value), args = [.int .u32 s, .slice (some ⟨b, o, none⟩) zs.length cap] ∧ s < 4294967296 ∧ zs.length ≤ 1000000 ∧ rowOf (h.get b) = some c ∧ (∀ x ∈ c, flatB x = true) ∧ Rv Tryz.prog (restr h [b]) 1 (some ⟨b, o, none⟩) zs.length cap (zs.map bv) ∧ v = .int .u32 (Crc.more s zs : Nat) ∧ h' = h ∧ wr = [] := by
  unfold moreK at e
  split at e
  case h_2 => cases e
  rename_i s b o len cap
  rw [hget_eq] at e
  have hr : (restr h [b]).get b = h.get b := by rw [restr_get]; simp
  unfold moreO at e
  split at e
  · rename_i c t hg
    obtain ⟨ht, e⟩ := ifK_yes e
    obtain rfl := Nat.eq_of_beq_eq_true ht
    obtain ⟨zs, k1, k2, k3, rfl, k4, k5, k6, k7, k8, k9⟩ := moreC_inv e
    exact ⟨s, b, o, cap, zs, c, rfl, k1, k4, by rw [hg]; rfl, k5, .mk (.inl ⟨_, by rw [hr]; exact hg, by kernel_rfl⟩) (by omega) k3 (by rw [Nat.mul_one]; exact k6), k7, k8, k9⟩
  · rename_i c hg
    obtain ⟨zs, k1, k2, k3, rfl, k4, k5, k6, k7, k8, k9⟩ := moreC_inv e
    exact ⟨s, b, o, cap, zs, c, rfl, k1, k4, by rw [hg]; rfl, k5, .mk (.inr (by rw [hr]; exact hg)) (by omega) k3 (by rw [Nat.mul_one]; exact k6), k7, k8, k9⟩
  · cases e
theorem more_sound {f : FuncId} (hf : ∀ (s : Nat), s < 4294967296 → ∀ (a : Option Addr) (cap : Nat) (zs : List UInt8), zs.length ≤ 1000000000 → ∀ h : AHeap, Rv Tryz.prog h 1 a zs.length cap (zs.map bv) → CallS Tryz.prog [] f [.int .u32 s, .slice a zs.length cap] h fun v h' => v = .int .u32 (Crc.more s zs : Nat)) {args : List Value} {h h' : AHeap} {v : Value} {wr : List Nat} (e : moreK args h = some (v, h', wr)) : CallRun Tryz.prog (· ∈ wr) f args.toArray h v h' := by
  obtain ⟨s, b, o, cap, zs, c, rfl, k1, k2, k3, k4, k5, rfl, rfl, rfl⟩ := moreK_inv e
  obtain ⟨v, h₂, hc, rfl⟩ := hf s k1 _ cap zs (by omega) _ k5
  refine (CallRun.row noGlobals k3 k4 (hc.weak fun i hi => by cases hi) rfl fun m m₁ a' hm ha => ?_).weak fun i hi => hi.elim
  refine ⟨ha.1, fun i u u' h1 h2 => ?_⟩
  have r := ha.2 i u u' h1 h2
  match i, h1 with
  | 0, h1 =>
    simp at h1; subst h1
    rw [VRel.eq_of_flat r rfl]
    exact VRel.flat m₁ rfl
  | 1, h1 =>
    simp at h1; subst h1
    generalize zs.length = len at r ⊢
    cases r with
    | slice hk hcc => exact .slice (by rw [← hm]; exact hk) hcc
    | slice0 => exact .slice0 ..
end Go.Proofs.YtnbbklhkbemloaaGreat
namespace Go.Proofs.YtnbbklhkbemloaaGreat
noncomputable def crcOnB (S : Summ) : Summ := fun f args h => Bool.rec (S f args h) (moreK args h) (Nat.beq f 285)
theorem crcOnB_ok {S : Summ} (hS : SOk Tryz.prog S) : SOk Tryz.prog (crcOnB S) := fun f args h v h' wr e => by
  unfold crcOnB at e
  cases h1 : Nat.beq f 285 with
  | true =>
    rw [h1] at e
    obtain rfl := Nat.eq_of_beq_eq_true h1
    exact more_sound crcMore_spec e
  | false =>
    rw [h1] at e
    exact hS f args h v h' wr e
end Go.Proofs.YtnbbklhkbemloaaGreat
namespace Go.Proofs.YtnbbklhkbemloaaGreat
open Go.RowKit
noncomputable def eqLs (E : Value → Value → Bool) : List Value → List Value → Bool
  | [], [] => true
  | a :: l, b :: m => Bool.rec false (eqLs E l m) (E a b)
  | _, _ => false
noncomputable def eqW : Nat → Value → Value → Bool
  | 0, _, _ => false
  | n + 1, a, b => match a, b with
    | .agg x, .agg y => eqLs (eqW n) x.toList y.toList
    | .tuple x, .tuple y => eqLs (eqW n) x.toList y.toList
    | .func (.func f) x c, .func (.func g) y d => Nat.beq f g && eqLs (eqW n) x.toList y.toList && eqLs (eqW n) c.toList d.toList
    | .nilFunc, .nilFunc => true
    | a, b => eqV a b
theorem eqLs_eq {E : Value → Value → Bool} (hE : ∀ a b, E a b = true → a = b) : ∀ {l m : List Value}, eqLs E l m = true → l = m
  | [], [], _ => rfl
  | [], _ :: _, h => by cases h
  | _ :: _, [], h => by cases h
  | a :: l, b :: m, h => by
    have h' : (Bool.rec false (eqLs E l m) (E a b) : Bool) = true := h
    cases hb : E a b with
    | false => rw [hb] at h'; cases h'
    | true => rw [hb] at h'; rw [hE a b hb, eqLs_eq hE h']
theorem eqW_eq : ∀ n (a b : Value), eqW n a b = true → a = b
  | 0, _, _, h => by cases h
  | n + 1, a, b, h => by
    unfold eqW at h
    split at h
    · exact congrArg Value.agg (Array.toList_inj.1 (eqLs_eq (eqW_eq n) h))
    · exact congrArg Value.tuple (Array.toList_inj.1 (eqLs_eq (eqW_eq n) h))
    · rw [Bool.and_eq_true, Bool.and_eq_true] at h
      rw [Nat.eq_of_beq_eq_true h.1.1, Array.toList_inj.1 (eqLs_eq (eqW_eq n) h.1.2), Array.toList_inj.1 (eqLs_eq (eqW_eq n) h.2)]
    · rfl
    · exact eqV_eq h
noncomputable def eqE (a b : MapEntry) : Bool := eqW 3 a.key b.key && eqW 3 a.val b.val && Nat.beq a.born b.born
theorem eqE_eq {a b : MapEntry} (h : eqE a b = true) : a = b := by
  unfold eqE at h
  rw [Bool.and_eq_true, Bool.and_eq_true] at h
  obtain ⟨⟨h1, h2⟩, h3⟩ := h
  have e1 := eqW_eq 3 _ _ h1
  have e2 := eqW_eq 3 _ _ h2
  have e3 := Nat.eq_of_beq_eq_true h3
  cases a; cases b
  simp only at e1 e2 e3
  subst e1 e2 e3
  rfl
noncomputable def eqEs : List MapEntry → List MapEntry → Bool
  | [], [] => true
  | a :: l, b :: m => Bool.rec false (eqEs l m) (eqE a b)
  | _, _ => false
theorem eqEs_eq : ∀ {l m : List MapEntry}, eqEs l m = true → l = m
  | [], [], _ => rfl
  | [], _ :: _, h => by cases h
  | _ :: _, [], h => by cases h
  | a :: l, b :: m, h => by
    have h' : (Bool.rec false (eqEs l m) (eqE a b) : Bool) = true := h
    cases hb : eqE a b with
    | false => rw [hb] at h'; cases h'
    | true => rw [hb] at h'; rw [eqE_eq hb, eqEs_eq h']
noncomputable def eqB (a b : AObj) : Bool := match a, b with
  | .cells c t, .cells d u => Bool.rec false (eqLs (eqW 4) c d) (Nat.beq t u)
  | .ro c, .ro d => eqLs (eqW 4) c d
  | .map es k, .map fs l => Bool.rec false (eqEs es.toList fs.toList) (Nat.beq k l)
  | _, _ => false
theorem eqB_eq {a b : AObj} (h : eqB a b = true) : a = b := by
  unfold eqB at h
  split at h
  · rename_i c t d u
    have h' : (Bool.rec false (eqLs (eqW 4) c d) (Nat.beq t u) : Bool) = true := h
    cases hb : Nat.beq t u with
    | false => rw [hb] at h'; cases h'
    | true => rw [hb] at h'; rw [Nat.eq_of_beq_eq_true hb, eqLs_eq (eqW_eq 4) h']
  · exact congrArg AObj.ro (eqLs_eq (eqW_eq 4) h)
  · rename_i es k fs l
    have h' : (Bool.rec false (eqEs es.toList fs.toList) (Nat.beq k l) : Bool) = true := h
    cases hb : Nat.beq k l with
    | false => rw [hb] at h'; cases h'
    | true => rw [hb] at h'; rw [Nat.eq_of_beq_eq_true hb, Array.toList_inj.1 (eqEs_eq h')]
  · cases h
noncomputable def eqOB (a : Option AObj) (b : AObj) : Bool := Option.rec false (fun a => eqB a b) a
theorem eqOB_eq {a : Option AObj} {b : AObj} (h : eqOB a b = true) : a = some b := by
  cases a with
  | none => cases h
  | some a => rw [eqB_eq (show eqB a b = true from h)]
abbrev Blks := List (Nat × AObj)
def putsB (h : AHeap) : Blks → AHeap
  | [] => h
  | x :: l => putsB (h.put x.1 (some x.2)) l
noncomputable def putsK {α : Type} (l : Blks) : AHeap → (AHeap → α) → α := List.rec (fun h K => K h) (fun x _ ih h K => hputK h x.1 (some x.2) fun h => ih h K) l
theorem putsK_eq {α : Type} : ∀ (l : Blks) (h : AHeap) (K : AHeap → α), putsK l h K = K (putsB h l)
  | [], h, K => rfl
  | x :: l, h, K => by
    show hputK h x.1 (some x.2) (fun h => putsK l h K) = _
    rw [hputK_eq, putsK_eq l]; rfl
theorem putsB_n : ∀ (l : Blks) (h : AHeap), (putsB h l).n = h.n
  | [], h => rfl
  | x :: l, h => by rw [putsB, putsB_n l]; rfl
theorem putsB_some : ∀ (l : Blks) (h : AHeap) (i : Nat) (o : AObj), (putsB h l).get i = some o → (i, o) ∈ l ∨ h.get i = some o
  | [], h, i, o, e => .inr e
  | x :: l, h, i, o, e => by
    rcases putsB_some l _ i o e with q | q
    · exact .inl (by simp [q])
    · rw [AHeap.get_put] at q
      split at q
      · rename_i e1
        split at q
        · cases q; subst e1; exact .inl (by simp)
        · cases q
      · exact .inr q
theorem putsB_out : ∀ (l : Blks) (h : AHeap) (i : Nat), (∀ o, (i, o) ∉ l) → (putsB h l).get i = h.get i
  | [], h, i, _ => rfl
  | x :: l, h, i, hx => by
    rw [putsB, putsB_out l _ i fun o q => hx o (by simp [q])]
    refine AHeap.get_put_ne _ _ fun e => ?_
    exact hx x.2 (by rw [← e]; simp)
def clearsB (h : AHeap) : List Nat → AHeap
  | [] => h
  | i :: l => clearsB (h.put i none) l
noncomputable def clearsK {α : Type} (l : List Nat) : AHeap → (AHeap → α) → α := List.rec (fun h K => K h) (fun i _ ih h K => hputK h i none fun h => ih h K) l
theorem clearsK_eq {α : Type} : ∀ (l : List Nat) (h : AHeap) (K : AHeap → α), clearsK l h K = K (clearsB h l)
  | [], h, K => rfl
  | i :: l, h, K => by
    show hputK h i none (fun h => clearsK l h K) = _
    rw [hputK_eq, clearsK_eq l]; rfl
theorem clearsB_n : ∀ (l : List Nat) (h : AHeap), (clearsB h l).n = h.n
  | [], h => rfl
  | i :: l, h => by rw [clearsB, clearsB_n l]; rfl
theorem clearsB_get : ∀ (l : List Nat) (h : AHeap) (i : Nat), (clearsB h l).get i = if i ∈ l then none else h.get i
  | [], h, i => by simp [clearsB]
  | j :: l, h, i => by
    rw [clearsB, clearsB_get l, AHeap.get_put]
    by_cases e : j = i
    · subst e; simp
    · rw [if_neg e]
      have : (i ∈ j :: l) ↔ i ∈ l := by simp [Ne.symm e]
      simp only [this]
def holesB (h : AHeap) : Nat → Nat → AHeap
  | 0, _ => h
  | k + 1, a => holesB (h.put a none) k (a + 1)
noncomputable def holesK {α : Type} (k : Nat) : AHeap → Nat → (AHeap → α) → α := Nat.rec (fun h _ K => K h) (fun _ ih h a K => hputK h a none fun h => forceNat (Nat.succ a) fun a => ih h a K) k
theorem holesK_eq {α : Type} : ∀ (k : Nat) (h : AHeap) (a : Nat) (K : AHeap → α), holesK k h a K = K (holesB h k a)
  | 0, h, a, K => rfl
  | k + 1, h, a, K => by
    show hputK h a none (fun h => forceNat (Nat.succ a) fun a => holesK k h a K) = _
    rw [hputK_eq, forceNat_eq, holesK_eq k]; rfl
theorem holesB_n : ∀ (k : Nat) (h : AHeap) (a : Nat), (holesB h k a).n = h.n
  | 0, h, a => rfl
  | k + 1, h, a => by rw [holesB, holesB_n k]; rfl
theorem holesB_get : ∀ (k : Nat) (h : AHeap) (a i : Nat), (holesB h k a).get i = if a ≤ i ∧ i < a + k then none else h.get i
  | 0, h, a, i => by rw [if_neg (by omega)]; rfl
  | k + 1, h, a, i => by
    rw [holesB, holesB_get k, AHeap.get_put]
    by_cases e : a = i
    · subst e
      rw [if_neg (show ¬ (a + 1 ≤ a ∧ a < a + 1 + k) from by omega), if_pos (rfl : a = a), if_pos (show a ≤ a ∧ a < a + (k + 1) from by omega)]
      split <;> rfl
    · rw [if_neg e]
      by_cases q : a + 1 ≤ i ∧ i < a + 1 + k
      · rw [if_pos q, if_pos (by omega)]
      · rw [if_neg q, if_neg (by omega)]
def resize (h : AHeap) (n : Nat) : AHeap := ⟨n, h.t⟩
def patch (h : AHeap) (n : Nat) (C : List Nat) (D : Blks) : AHeap := putsB (holesB (resize (clearsB h C) n) (n - h.n) h.n) D
noncomputable def patchK {α : Type} (h : AHeap) (n : Nat) (C : List Nat) (D : Blks) (K : AHeap → α) : α := clearsK C h fun h₁ => forceNat n fun n => holesK (Nat.sub n h.n) (resize h₁ n) h.n fun h => putsK D h K
theorem patchK_eq {α : Type} (h : AHeap) (n : Nat) (C : List Nat) (D : Blks) (K : AHeap → α) : patchK h n C D K = K (patch h n C D) := by
  unfold patchK
  rw [clearsK_eq, forceNat_eq, holesK_eq, putsK_eq]; rfl
theorem patch_n (h : AHeap) (n : Nat) (C : List Nat) (D : Blks) : (patch h n C D).n = n := by
  unfold patch
  rw [putsB_n, holesB_n]; rfl
theorem patch_some {h : AHeap} {n : Nat} {C : List Nat} {D : Blks} {i : Nat} {o : AObj} (hi : i ∈ C ∨ h.n ≤ i) (e : (patch h n C D).get i = some o) : (i, o) ∈ D := by
  unfold patch at e
  rcases putsB_some D _ i o e with q | q
  · exact q
  · rw [holesB_get] at q
    split at q
    · cases q
    · rename_i hq
      have hlt : i < n := by
        have := AHeap.lt q
        exact this
      have e2 : (resize (clearsB h C) n).get i = (clearsB h C).t.get i := by
        show (if i < n then (clearsB h C).t.get i else none) = _
        rw [if_pos hlt]
      rcases hi with hi | hi
      · by_cases hh : i < h.n
        · have e3 : (clearsB h C).get i = (clearsB h C).t.get i := by
            show (if i < (clearsB h C).n then (clearsB h C).t.get i else none) = _
            rw [if_pos (by rw [clearsB_n]; exact hh)]
          rw [e2, ← e3, clearsB_get, if_pos hi] at q
          cases q
        · exact absurd ⟨by omega, by omega⟩ hq
      · exact absurd ⟨by omega, by omega⟩ hq
theorem patch_old {h : AHeap} {n : Nat} {C : List Nat} {D : Blks} (hn : h.n ≤ n) {i : Nat} (hi : i < h.n) (hc : i ∉ C) (hd : ∀ o, (i, o) ∉ D) : (patch h n C D).get i = h.get i := by
  unfold patch
  rw [putsB_out D _ i hd, holesB_get, if_neg (by omega)]
  have e2 : (resize (clearsB h C) n).get i = (clearsB h C).get i := by
    show (if i < n then (clearsB h C).t.get i else none) = if i < (clearsB h C).n then (clearsB h C).t.get i else none
    rw [if_pos (by omega), if_pos (by rw [clearsB_n]; exact hi)]
  rw [e2, clearsB_get, if_neg hc]
structure Ck where
  f : FuncId
  n0 : Nat
  args : List Value
  R : Blks
  v : Value
  n1 : Nat
  C : List Nat
  D : Blks
noncomputable def allB (p : Nat × AObj → Bool) (l : Blks) : Bool := List.rec true (fun x _ ih => Bool.rec false ih (p x)) l
theorem allB_mem {p : Nat × AObj → Bool} : ∀ {l : Blks}, allB p l = true → ∀ x ∈ l, p x = true
  | [], _, x, hx => by cases hx
  | y :: l, e, x, hx => by
    have e' : (Bool.rec false (allB p l) (p y) : Bool) = true := e
    cases hp : p y with
    | false => rw [hp] at e'; cases e'
    | true =>
      rw [hp] at e'
      rcases List.mem_cons.1 hx with rfl | hx
      · exact hp
      · exact allB_mem e' x hx
noncomputable def inB (i : Nat) (l : List Nat) : Bool := List.rec false (fun j _ ih => Bool.rec ih true (Nat.beq i j)) l
theorem inB_mem {i : Nat} : ∀ {l : List Nat}, inB i l = true → i ∈ l
  | [], e => by cases e
  | j :: l, e => by
    have e' : (Bool.rec (inB i l) true (Nat.beq i j) : Bool) = true := e
    cases hb : Nat.beq i j with
    | true => rw [Nat.eq_of_beq_eq_true hb]; simp
    | false => rw [hb] at e'; simp [inB_mem e']
noncomputable def subB (R : Blks) (h : AHeap) : Bool := allB (fun x => eqOB (hget h x.1) x.2) R
theorem subB_get {R : Blks} {h : AHeap} (e : subB R h = true) : ∀ x ∈ R, h.get x.1 = some x.2 := fun x hx => by
  have := eqOB_eq (allB_mem e x hx)
  rwa [hget_eq] at this
def start (c : Ck) : AHeap := putsB ⟨c.n0, .nil⟩ c.R
noncomputable def wfC (c : Ck) : Bool := allB (fun x => Bool.rec (inB x.1 c.C) true (Nat.ble c.n0 x.1)) c.D
noncomputable def inAll (l : List Nat) (C : List Nat) : Bool := List.rec true (fun i _ ih => Bool.rec false ih (inB i C)) l
theorem inAll_mem {C : List Nat} : ∀ {l : List Nat}, inAll l C = true → ∀ i ∈ l, i ∈ C
  | [], _, i, hi => by cases hi
  | j :: l, e, i, hi => by
    have e' : (Bool.rec false (inAll l C) (inB j C) : Bool) = true := e
    cases hb : inB j C with
    | false => rw [hb] at e'; cases e'
    | true =>
      rw [hb] at e'
      rcases List.mem_cons.1 hi with rfl | hi
      · exact inB_mem hb
      · exact inAll_mem e' i hi
noncomputable def endK (c : Ck) : Value → AHeap → List Nat → Option Bool := fun v h wr => ifK (eqW 5 v c.v) (ifK (Nat.beq h.n c.n1) (ifK (inAll wr c.C) (some (subB c.D h)) none) none) none
def CkOk (P : Program) (c : Ck) : Prop := ∀ h : AHeap, h.n = c.n0 → (∀ x ∈ c.R, h.get x.1 = some x.2) → CallRun P (· ∈ c.C) c.f c.args.toArray h c.v (patch h c.n1 c.C c.D)
theorem ckOk_of {P : Program} {S : Summ} (hS : SOk P S) {c : Ck} {N : Nat} (wf : wfC c = true) (he : putsK c.R ⟨c.n0, .nil⟩ (fun H => callK P S (fev P S N) c.f c.args H (endK c)) = some true) : CkOk P c := fun h hn hR => by
  rw [putsK_eq] at he
  obtain ⟨v, H', wr, hc, he⟩ := callRun_of hS he
  unfold endK at he
  obtain ⟨h1, he⟩ := ifK_yes he
  obtain ⟨h2, he⟩ := ifK_yes he
  obtain ⟨h3, he⟩ := ifK_yes he
  have hE : subB c.D H' = true := Option.some.inj he
  clear he
  obtain rfl := eqW_eq 5 _ _ h1
  have h2 := Nat.eq_of_beq_eq_true h2
  have hD := subB_get hE
  have nH : (putsB ⟨c.n0, .nil⟩ c.R).n = c.n0 := putsB_n _ _
  have hn1 : h.n ≤ c.n1 := by have := hc.fr.n; rw [nH, h2] at this; omega
  refine CallRun.frame (hc.weak (W' := (· ∈ c.C)) fun i hi => inAll_mem h3 i hi) (by rw [nH, hn]) (by rw [h2, patch_n]) (fun i o e => ?_) (fun i hi hc => ?_) fun i o hi e => ?_
  · rcases putsB_some _ _ i o e with q | q
    · exact hR _ q
    · have : (⟨c.n0, .nil⟩ : AHeap).get i = none := by show (if i < c.n0 then Tr.nil.get i else none) = none; split <;> rfl
      rw [this] at q; cases q
  · refine patch_old hn1 hi hc fun o q => ?_
    have w := allB_mem wf _ q
    have w' : (Bool.rec (inB i c.C) true (Nat.ble c.n0 i) : Bool) = true := w
    cases hb : Nat.ble c.n0 i with
    | true => have := Nat.le_of_ble_eq_true hb; omega
    | false => rw [hb] at w'; exact hc (inB_mem w')
  · exact hD _ (patch_some hi e)
noncomputable def ckS (c : Ck) (S : Summ) : Summ := fun f args h => Bool.rec (S f args h) (Bool.rec (S f args h) (Bool.rec (S f args h) (Bool.rec (S f args h) (patchK h c.n1 c.C c.D fun h' => some (c.v, h', c.C)) (subB c.R h)) (eqLs (eqW 4) args c.args)) (Nat.beq h.n c.n0)) (Nat.beq f c.f)
theorem ckS_ok {P : Program} {S : Summ} {c : Ck} (hS : SOk P S) (hc : CkOk P c) : SOk P (ckS c S) := fun f args h v h' wr e => by
  unfold ckS at e
  cases h1 : Nat.beq f c.f with
  | false => rw [h1] at e; exact hS f args h v h' wr e
  | true =>
    rw [h1] at e
    cases h2 : Nat.beq h.n c.n0 with
    | false => rw [h2] at e; exact hS f args h v h' wr e
    | true =>
      rw [h2] at e
      cases h3 : eqLs (eqW 4) args c.args with
      | false => rw [h3] at e; exact hS f args h v h' wr e
      | true =>
        rw [h3] at e
        cases h4 : subB c.R h with
        | false => rw [h4] at e; exact hS f args h v h' wr e
        | true =>
          rw [h4] at e
          have e : patchK h c.n1 c.C c.D (fun h' => some (c.v, h', c.C)) = some (v, h', wr) := e
          rw [patchK_eq] at e
          simp only [Option.some.injEq, Prod.mk.injEq] at e
          obtain ⟨rfl, rfl, rfl⟩ := e
          obtain rfl := Nat.eq_of_beq_eq_true h1
          obtain rfl := eqLs_eq (eqW_eq 4) h3
          exact hc h (Nat.eq_of_beq_eq_true h2) (subB_get h4)
def vi (n : Nat) : Value := .int .i64 (.ofNat n)
def vj (n : Nat) : Value := .int .i64 (.negSucc n)
def vb (n : Nat) : Value := .int .u8 (.ofNat n)
def vh (n : Nat) : Value := .int .u16 (.ofNat n)
def vw (n : Nat) : Value := .int .u32 (.ofNat n)
def vq (n : Nat) : Value := .int .u64 (.ofNat n)
def vp (b o : Nat) : Value := .pointer (some ⟨b, o, none⟩)
def vs (b o l c : Nat) : Value := .slice (some ⟨b, o, none⟩) l c
def vm (b : Nat) : Value := .map (some b)
def v0 : Value := .slice none 0 0
def vn : Value := .pointer none
def vt : Value := .bool true
def vf : Value := .bool false
def rp (n : Nat) (v : Value) (l : List Value) : List Value := Nat.rec l (fun _ ih => v :: ih) n
def oc (t : Nat) (l : List Value) : AObj := .cells l t
end Go.Proofs.YtnbbklhkbemloaaGreat

namespace Go.Proofs.YtnbbklhkbemloaaGreat
open Go.RowKit
set_option maxRecDepth 100000
def fc1 : Ck := ⟨295, 648, [.agg #[vb 5, vb 0, vb 0, vb 0, vb 0, vb 0, vb 0, vb 0, vb 0, vb 0, vb 0, vb 0, vb 0, vb 0, vb 0, vb 0], vs 647 0 1 1],
  [(646, oc 5 (vb 124 :: vb 31 :: vb 240 :: vb 129 :: vb 137 :: vb 2 :: vb 92 :: vb 193 :: vb 58 :: vb 150 :: vb 158 :: vb 84 :: vb 101 :: vb 142 :: vb 236 :: vb 103 :: vb 0 :: vb 0 :: vb 11 :: vb 184 :: vb 0 :: vb 4 :: vb 0 :: vb 9 :: rp 19 (vb 0) (vb 1 :: rp 3 (vb 0) (vb 1 :: [])))),
  (647, oc 28 ([vs 646 0 48 48]))],
  vq 17584280083605907486, 650, [],
  []⟩
theorem fc1ok : CkOk Tryz.prog fc1 := ckOk_of (N := 200000) (crcOnB_ok rowS_ok) (by kernel_rfl) (by kernel_rfl)
noncomputable def fcS1 : Summ := ckS fc1 (crcOnB rowS)
theorem fcS1ok : SOk Tryz.prog fcS1 := ckS_ok (crcOnB_ok rowS_ok) fc1ok
def fc2 : Ck := ⟨138, 536, [vp 114 0, vn, .agg #[vw 1, vw 2, vs 446 0 40 40], .agg #[vh 9, vh 9, vw 0, vs 527 0 1 1], vq 0],
  [(85, oc 252 ([vs 109 0 8 8])),
  (86, .map #[] 0),
  (89, .map #[] 0),
  (92, .map #[] 0),
  (95, .map #[] 0),
  (98, .map #[] 0),
  (101, .map #[] 0),
  (104, .map #[] 0),
  (107, .map #[] 0),
  (109, oc 253 ([vm 86, vm 89, vm 92, vm 95, vm 98, vm 101, vm 104, vm 107])),
  (111, oc 25 ([vw 2])),
  (112, oc 255 ([vq 77])),
  (113, .map #[] 0),
  (114, oc 190 (vs 111 0 1 1 :: vh 9 :: vt :: vi 256 :: vh 4 :: vi 4000 :: vi 4000 :: vi 1000 :: vw 300 :: vw 100 :: vw 6000 :: vb 8 :: vb 3 :: vb 20 :: vw 3000 :: vw 6000 :: vq 77 :: vb 5 :: rp 15 (vb 0) (vp 112 0 :: vp 85 0 :: v0 :: vi 0 :: vm 113 :: vf :: v0 :: v0 :: []))),
  (446, oc 5 (vb 0 :: vb 9 :: vb 0 :: vb 9 :: rp 4 (vb 0) (vb 188 :: vb 79 :: vb 7 :: vb 224 :: vb 1 :: vb 0 :: vb 0 :: vb 28 :: vb 137 :: vb 2 :: vb 92 :: vb 193 :: vb 0 :: vb 0 :: vb 11 :: vb 184 :: vb 0 :: vb 4 :: vb 0 :: vb 4 :: vb 101 :: vb 142 :: vb 236 :: vb 103 :: vb 0 :: vb 5 :: vb 0 :: vb 8 :: rp 3 (vb 0) (vb 1 :: [])))),
  (518, oc 25 ([vw 1])),
  (527, oc 294 (vb 1 :: vb 0 :: vw 2298633409 :: vw 3000 :: vw 1703865447 :: vh 4 :: vh 4 :: vh 0 :: vh 0 :: vw 0 :: v0 :: vs 518 0 1 1 :: rp 3 (v0) []))],
  .tuple #[], 727, [112, 114],
  [(112, oc 255 ([vq 4354685564936845431])),
  (114, oc 190 (vs 111 0 1 1 :: vh 9 :: vt :: vi 256 :: vh 4 :: vi 4000 :: vi 4000 :: vi 1000 :: vw 300 :: vw 100 :: vw 6000 :: vb 8 :: vb 3 :: vb 20 :: vw 3000 :: vw 6000 :: vq 77 :: vb 5 :: rp 15 (vb 0) (vp 112 0 :: vp 85 0 :: v0 :: vi 0 :: vm 113 :: vf :: vs 726 0 1 1 :: v0 :: []))),
  (722, oc 5 (vb 0 :: vb 9 :: vb 0 :: vb 9 :: vb 137 :: vb 2 :: vb 92 :: vb 193 :: vb 213 :: vb 106 :: vb 0 :: vb 220 :: vb 2 :: vb 0 :: vb 0 :: vb 88 :: vb 124 :: vb 31 :: vb 240 :: vb 129 :: vb 0 :: vb 0 :: vb 11 :: vb 184 :: vb 0 :: vb 4 :: vb 0 :: vb 4 :: vb 58 :: vb 150 :: vb 158 :: vb 84 :: vb 0 :: vb 5 :: vb 0 :: vb 8 :: rp 3 (vb 0) (vb 2 :: vb 0 :: vb 7 :: vb 0 :: vb 60 :: vb 124 :: vb 31 :: vb 240 :: vb 129 :: vb 137 :: vb 2 :: vb 92 :: vb 193 :: vb 58 :: vb 150 :: vb 158 :: vb 84 :: vb 101 :: vb 142 :: vb 236 :: vb 103 :: vb 0 :: vb 0 :: vb 11 :: vb 184 :: vb 0 :: vb 4 :: vb 0 :: vb 9 :: rp 19 (vb 0) (vb 1 :: rp 3 (vb 0) (vb 1 :: vb 244 :: vb 7 :: vb 233 :: vb 146 :: vb 14 :: vb 78 :: vb 104 :: vb 30 :: []))))),
  (726, oc 56 ([vw 2, vw 1, vs 722 0 100 100]))]⟩
theorem fc2ok : CkOk Tryz.prog fc2 := ckOk_of (N := 200000) fcS1ok (by kernel_rfl) (by kernel_rfl)
noncomputable def fcS2 : Summ := ckS fc2 (fcS1)
theorem fcS2ok : SOk Tryz.prog fcS2 := ckS_ok fcS1ok fc2ok
def fc3 : Ck := ⟨13, 470, [vp 15 0, .agg #[vb 2, vb 0, vi 0, vi 0, vb 0, vi 0, v0, vh 0, vh 0, vf, vw 0, v0, vf, vw 0, vw 0, v0]],
  [(13, oc 154 ([vs 149 0 7 7])),
  (14, oc 123 ([vi 256, vs 398 0 0 1])),
  (15, oc 75 (vs 20 0 1 1 :: vh 9 :: vt :: vi 256 :: vh 4 :: vi 4000 :: vi 4000 :: vi 1000 :: vw 300 :: vw 100 :: vw 6000 :: vb 8 :: vb 3 :: vb 20 :: vw 3000 :: vw 6000 :: vq 1 :: rp 16 (vb 0) (vs 78 0 1 1 :: vh 9 :: vt :: vi 256 :: vh 4 :: vi 4000 :: vi 4000 :: vi 1000 :: vw 300 :: vw 100 :: vw 6000 :: vb 8 :: vb 3 :: vb 20 :: vw 3000 :: vw 6000 :: vq 77 :: vb 5 :: rp 15 (vb 0) (vp 13 0 :: vp 14 0 :: vp 62 0 :: vp 120 0 :: vq 0 :: vs 140 0 1 1 :: vs 351 0 1 1 :: v0 :: vs 142 0 1 1 :: v0 :: [])))),
  (16, oc 22 ([vp 15 0])),
  (17, oc 3 ([vi 0])),
  (20, oc 25 ([vw 1])),
  (27, oc 252 ([vs 51 0 8 8])),
  (28, .map #[] 0),
  (31, .map #[] 0),
  (34, .map #[] 0),
  (37, .map #[] 0),
  (40, .map #[] 0),
  (43, .map #[] 0),
  (46, .map #[] 0),
  (49, .map #[⟨.agg #[vw 2, vh 9, vh 9], vi 1, 0⟩] 1),
  (51, oc 253 ([vm 28, vm 31, vm 34, vm 37, vm 40, vm 43, vm 46, vm 49])),
  (53, oc 25 ([vw 1])),
  (55, .map #[⟨vw 2298633409, vi 1, 0⟩] 1),
  (56, oc 190 (vs 53 0 1 1 :: vh 9 :: vt :: vi 256 :: vh 4 :: vi 4000 :: vi 4000 :: vi 1000 :: vw 300 :: vw 100 :: vw 6000 :: vb 8 :: vb 3 :: vb 20 :: vw 3000 :: vw 6000 :: vq 1 :: rp 16 (vb 0) (vp 251 0 :: vp 27 0 :: vs 333 0 1 1 :: vi 1 :: vm 55 :: vf :: v0 :: v0 :: []))),
  (57, .map #[] 2),
  (58, .map #[] 0),
  (59, .map #[] 0),
  (60, .map #[⟨vi 6, vs 244 0 0 1, 0⟩, ⟨vi 2, vs 383 0 0 1, 1⟩] 2),
  (61, oc 224 ([vm 57, vm 58, vm 59, vm 60])),
  (62, oc 161 ([vp 56 0, vp 61 0, vp 13 0, .func (.func 35) #[vp 15 0] #[], .func (.func 36) #[] #[vp 16 0], .func (.func 38) #[] #[vp 16 0, vp 17 0], .func (.func 40) #[vp 15 0] #[], v0, v0, vi 0, vi 1, vi 2, vs 362 0 1 1])),
  (63, oc 166 ([vp 62 0, vi 0, vi 0, vw 0, vw 0, v0, vi 0, vb 0, vi 0])),
  (64, oc 169 ([vp 62 0, vi 1, vi 0, vi 0])),
  (65, oc 172 ([vp 62 0, vi 2, vi 0])),
  (66, oc 131 ([.func (.func 70) #[vp 63 0] #[], vb 2, vf, vf, vq 1])),
  (69, oc 131 ([.func (.func 71) #[vp 64 0] #[], vb 2, vf, vf, vq 2])),
  (72, oc 131 ([.func (.func 72) #[vp 65 0] #[], vb 2, vf, vf, vq 5])),
  (75, oc 3 ([vi 1])),
  (78, oc 25 ([vw 2])),
  (85, oc 252 ([vs 109 0 8 8])),
  (86, .map #[] 0),
  (89, .map #[] 0),
  (92, .map #[] 0),
  (95, .map #[] 0),
  (98, .map #[] 0),
  (101, .map #[] 0),
  (104, .map #[] 0),
  (107, .map #[] 0),
  (109, oc 253 ([vm 86, vm 89, vm 92, vm 95, vm 98, vm 101, vm 104, vm 107])),
  (111, oc 25 ([vw 2])),
  (112, oc 255 ([vq 77])),
  (113, .map #[] 0),
  (114, oc 190 (vs 111 0 1 1 :: vh 9 :: vt :: vi 256 :: vh 4 :: vi 4000 :: vi 4000 :: vi 1000 :: vw 300 :: vw 100 :: vw 6000 :: vb 8 :: vb 3 :: vb 20 :: vw 3000 :: vw 6000 :: vq 77 :: vb 5 :: rp 15 (vb 0) (vp 112 0 :: vp 85 0 :: v0 :: vi 0 :: vm 113 :: vf :: v0 :: v0 :: []))),
  (115, .map #[⟨.agg #[vb 1, vi 0], vi 3, 0⟩] 1),
  (116, .map #[] 0),
  (117, .map #[] 0),
  (118, .map #[⟨vi 3, vs 469 0 1 1, 0⟩] 1),
  (119, oc 224 ([vm 115, vm 116, vm 117, vm 118])),
  (120, oc 161 ([vp 114 0, vp 119 0, vp 13 0, .func (.func 35) #[vp 15 0] #[], .func (.func 36) #[] #[vp 16 0], .func (.func 38) #[] #[vp 16 0, vp 75 0], .func (.func 40) #[vp 15 0] #[], vs 448 3 0 0, v0, vi 3, vi 4, vi 5, v0])),
  (121, oc 166 ([vp 120 0, vi 3, vi 1, vw 1, vw 2, vs 446 0 40 40, vi 0, vb 1, vi 0])),
  (122, oc 169 ([vp 120 0, vi 4, vi 0, vi 0])),
  (123, oc 172 ([vp 120 0, vi 5, vi 0])),
  (124, oc 131 ([.func (.func 70) #[vp 121 0] #[], vb 1, vf, vf, vq 2])),
  (127, oc 131 ([.func (.func 71) #[vp 122 0] #[], vb 2, vf, vf, vq 1])),
  (130, oc 131 ([.func (.func 72) #[vp 123 0] #[], vb 2, vf, vf, vq 1])),
  (137, oc 25 ([vw 2])),
  (138, oc 62 ([vi 0, vb 1, vi 0, vs 137 0 1 1, vh 9, vh 0, vf, vw 0, v0, vt, vi 6, v0])),
  (140, oc 63 ([vp 138 0])),
  (142, oc 178 ([vi 0, vf])),
  (145, oc 25 ([vw 2])),
  (146, oc 236 ([vp 62 0, vi 6, vi 0, vb 1, vi 1, vs 145 0 1 1, vh 9, vh 0, vf, vw 0, v0, vt, vi 0, vt, vf, vf, vi 0, vi 0, vh 0, vf, vw 0, v0, vb 0, vi 0])),
  (147, oc 131 ([.func (.func 100) #[vp 146 0] #[], vb 2, vf, vf, vq 3])),
  (149, oc 127 ([vp 66 0, vp 69 0, vp 72 0, vp 124 0, vp 127 0, vp 130 0, vp 147 0])),
  (244, oc 164 ([vb 0, vi 0])),
  (251, oc 255 ([vq 4354685564936845355])),
  (258, oc 25 ([vw 1])),
  (259, .map #[⟨vi 0, vi 0, 0⟩] 1),
  (260, oc 411 ([vs 328 0 1 1, vm 259])),
  (261, oc 146 (vs 258 0 1 1 :: vh 9 :: vt :: vi 256 :: vh 4 :: vi 4000 :: vi 4000 :: vi 1000 :: vw 300 :: vw 100 :: vw 6000 :: vb 8 :: vb 3 :: vb 20 :: vw 3000 :: vw 6000 :: vq 1 :: rp 16 (vb 0) (vw 2298633409 :: vw 1703865447 :: vh 9 :: vb 1 :: vq 0 :: rp 3 (vw 0) (vh 0 :: v0 :: vp 263 0 :: rp 3 (vn) (vp 260 0 :: v0 :: rp 3 (vi 0) (vw 0 :: v0 :: v0 :: [])))))),
  (263, oc 415 ([vs 272 0 1 1, vi 0, vi 0, vi 20])),
  (268, oc 485 ([vq 100, vq 6000, vq 300, vq 0, vq 0, vf])),
  (269, oc 487 ([vi 256, vi 512, vi 65536, vi 0])),
  (270, oc 419 ([vw 1, vw 2, vp 268 0, vp 269 0, vi 3, vi 0, vf, v0])),
  (272, oc 360 ([vp 270 0])),
  (328, oc 359 ([vq 300, vi 0])),
  (330, oc 25 ([vw 2])),
  (331, oc 194 ([vi 1, vp 261 0, vs 330 0 1 1, vs 343 0 1 1, vf])),
  (333, oc 191 ([vp 331 0])),
  (343, oc 257 ([vw 2, vh 9, vh 9])),
  (351, oc 104 ([vb 1, vj 0, vb 1, vi 0, vs 145 0 1 1, vh 9, vh 0, vf, vw 0, v0, vt, vw 0, vw 0, v0, vi 0, vq 0, vi 0, vi 1, vh 0, vf, vw 0, v0, vb 0, vi 0])),
  (362, oc 234 ([vp 146 0])),
  (383, oc 164 ([vb 0, vi 0])),
  (398, oc 119 ([vw 0, vw 0, v0, vq 0])),
  (446, oc 5 (vb 0 :: vb 9 :: vb 0 :: vb 9 :: rp 4 (vb 0) (vb 188 :: vb 79 :: vb 7 :: vb 224 :: vb 1 :: vb 0 :: vb 0 :: vb 28 :: vb 137 :: vb 2 :: vb 92 :: vb 193 :: vb 0 :: vb 0 :: vb 11 :: vb 184 :: vb 0 :: vb 4 :: vb 0 :: vb 4 :: vb 101 :: vb 142 :: vb 236 :: vb 103 :: vb 0 :: vb 5 :: vb 0 :: vb 8 :: rp 3 (vb 0) (vb 1 :: [])))),
  (448, oc 56 ([vw 1, vw 2, vs 446 0 40 40])),
  (469, oc 164 ([vb 1, vi 0]))],
  vt, 741, [124, 121, 112, 114, 15, 120, 127, 130],
  [(15, oc 75 (vs 20 0 1 1 :: vh 9 :: vt :: vi 256 :: vh 4 :: vi 4000 :: vi 4000 :: vi 1000 :: vw 300 :: vw 100 :: vw 6000 :: vb 8 :: vb 3 :: vb 20 :: vw 3000 :: vw 6000 :: vq 1 :: rp 16 (vb 0) (vs 78 0 1 1 :: vh 9 :: vt :: vi 256 :: vh 4 :: vi 4000 :: vi 4000 :: vi 1000 :: vw 300 :: vw 100 :: vw 6000 :: vb 8 :: vb 3 :: vb 20 :: vw 3000 :: vw 6000 :: vq 77 :: vb 5 :: rp 15 (vb 0) (vp 13 0 :: vp 14 0 :: vp 62 0 :: vp 120 0 :: vq 0 :: vs 140 0 1 1 :: vs 351 0 1 1 :: vs 731 0 1 1 :: vs 142 0 1 1 :: v0 :: [])))),
  (112, oc 255 ([vq 4354685564936845431])),
  (114, oc 190 (vs 111 0 1 1 :: vh 9 :: vt :: vi 256 :: vh 4 :: vi 4000 :: vi 4000 :: vi 1000 :: vw 300 :: vw 100 :: vw 6000 :: vb 8 :: vb 3 :: vb 20 :: vw 3000 :: vw 6000 :: vq 77 :: vb 5 :: rp 15 (vb 0) (vp 112 0 :: vp 85 0 :: v0 :: vi 0 :: vm 113 :: vf :: v0 :: v0 :: []))),
  (120, oc 161 ([vp 114 0, vp 119 0, vp 13 0, .func (.func 35) #[vp 15 0] #[], .func (.func 36) #[] #[vp 16 0], .func (.func 38) #[] #[vp 16 0, vp 75 0], .func (.func 40) #[vp 15 0] #[], vs 448 3 0 0, vs 734 0 1 1, vi 3, vi 4, vi 5, v0])),
  (121, oc 166 ([vp 120 0, vi 3, vi 5, vw 1, vw 2, vs 446 0 40 40, vi 0, vb 1, vi 0])),
  (124, oc 131 ([.func (.func 70) #[vp 121 0] #[], vb 1, vf, vf, vq 3])),
  (127, oc 131 ([.func (.func 71) #[vp 122 0] #[], vb 1, vf, vf, vq 1])),
  (130, oc 131 ([.func (.func 72) #[vp 123 0] #[], vb 1, vf, vf, vq 1])),
  (722, oc 5 (vb 0 :: vb 9 :: vb 0 :: vb 9 :: vb 137 :: vb 2 :: vb 92 :: vb 193 :: vb 213 :: vb 106 :: vb 0 :: vb 220 :: vb 2 :: vb 0 :: vb 0 :: vb 88 :: vb 124 :: vb 31 :: vb 240 :: vb 129 :: vb 0 :: vb 0 :: vb 11 :: vb 184 :: vb 0 :: vb 4 :: vb 0 :: vb 4 :: vb 58 :: vb 150 :: vb 158 :: vb 84 :: vb 0 :: vb 5 :: vb 0 :: vb 8 :: rp 3 (vb 0) (vb 2 :: vb 0 :: vb 7 :: vb 0 :: vb 60 :: vb 124 :: vb 31 :: vb 240 :: vb 129 :: vb 137 :: vb 2 :: vb 92 :: vb 193 :: vb 58 :: vb 150 :: vb 158 :: vb 84 :: vb 101 :: vb 142 :: vb 236 :: vb 103 :: vb 0 :: vb 0 :: vb 11 :: vb 184 :: vb 0 :: vb 4 :: vb 0 :: vb 9 :: rp 19 (vb 0) (vb 1 :: rp 3 (vb 0) (vb 1 :: vb 244 :: vb 7 :: vb 233 :: vb 146 :: vb 14 :: vb 78 :: vb 104 :: vb 30 :: []))))),
  (731, oc 104 ([vb 9, vj 0, vb 0, vi 0, v0, vh 0, vh 0, vf, vw 0, v0, vf, vw 1, vw 2, vs 446 0 40 40, vi 0, vq 0, vi 0, vi 0, vh 0, vf, vw 0, v0, vb 0, vi 0])),
  (734, oc 56 ([vw 2, vw 1, vs 722 0 100 100]))]⟩
theorem fc3ok : CkOk Tryz.prog fc3 := ckOk_of (N := 200000) fcS2ok (by kernel_rfl) (by kernel_rfl)
noncomputable def fcS3 : Summ := ckS fc3 (fcS2)
theorem fcS3ok : SOk Tryz.prog fcS3 := ckS_ok fcS2ok fc3ok
def fc4 : Ck := ⟨13, 883, [vp 15 0, .agg #[vb 2, vb 0, vi 0, vi 0, vb 0, vi 0, v0, vh 0, vh 0, vf, vw 0, v0, vf, vw 0, vw 0, v0]],
  [(13, oc 154 ([vs 149 0 7 7])),
  (14, oc 123 ([vi 256, vs 398 0 0 1])),
  (15, oc 75 (vs 20 0 1 1 :: vh 9 :: vt :: vi 256 :: vh 4 :: vi 4000 :: vi 4000 :: vi 1000 :: vw 300 :: vw 100 :: vw 6000 :: vb 8 :: vb 3 :: vb 20 :: vw 3000 :: vw 6000 :: vq 1 :: rp 16 (vb 0) (vs 78 0 1 1 :: vh 9 :: vt :: vi 256 :: vh 4 :: vi 4000 :: vi 4000 :: vi 1000 :: vw 300 :: vw 100 :: vw 6000 :: vb 8 :: vb 3 :: vb 20 :: vw 3000 :: vw 6000 :: vq 77 :: vb 5 :: rp 15 (vb 0) (vp 13 0 :: vp 14 0 :: vp 62 0 :: vp 120 0 :: vq 0 :: vs 140 0 1 1 :: vs 351 0 1 1 :: vs 731 0 1 1 :: vs 142 0 1 1 :: v0 :: [])))),
  (16, oc 22 ([vp 15 0])),
  (17, oc 3 ([vi 0])),
  (20, oc 25 ([vw 1])),
  (27, oc 252 ([vs 51 0 8 8])),
  (28, .map #[] 0),
  (31, .map #[] 0),
  (34, .map #[] 0),
  (37, .map #[] 0),
  (40, .map #[] 0),
  (43, .map #[] 0),
  (46, .map #[] 0),
  (49, .map #[⟨.agg #[vw 2, vh 9, vh 9], vi 1, 0⟩] 1),
  (51, oc 253 ([vm 28, vm 31, vm 34, vm 37, vm 40, vm 43, vm 46, vm 49])),
  (53, oc 25 ([vw 1])),
  (55, .map #[⟨vw 2298633409, vi 1, 0⟩] 1),
  (56, oc 190 (vs 53 0 1 1 :: vh 9 :: vt :: vi 256 :: vh 4 :: vi 4000 :: vi 4000 :: vi 1000 :: vw 300 :: vw 100 :: vw 6000 :: vb 8 :: vb 3 :: vb 20 :: vw 3000 :: vw 6000 :: vq 1 :: rp 16 (vb 0) (vp 251 0 :: vp 27 0 :: vs 333 0 1 1 :: vi 1 :: vm 55 :: vf :: v0 :: v0 :: []))),
  (57, .map #[⟨.agg #[vb 2, vi 1], vi 0, 3⟩, ⟨.agg #[vb 3, vi 1], vi 0, 4⟩] 5),
  (58, .map #[] 0),
  (59, .map #[] 0),
  (60, .map #[⟨vi 6, vs 244 0 0 1, 0⟩, ⟨vi 2, vs 383 0 0 1, 1⟩, ⟨vi 0, vs 863 0 2 2, 2⟩] 3),
  (61, oc 224 ([vm 57, vm 58, vm 59, vm 60])),
  (62, oc 161 ([vp 56 0, vp 61 0, vp 13 0, .func (.func 35) #[vp 15 0] #[], .func (.func 36) #[] #[vp 16 0], .func (.func 38) #[] #[vp 16 0, vp 17 0], .func (.func 40) #[vp 15 0] #[], vs 822 3 0 0, v0, vi 0, vi 1, vi 2, vs 362 0 1 1])),
  (63, oc 166 ([vp 62 0, vi 0, vi 3, vw 2, vw 1, vs 820 0 100 100, vi 1, vb 1, vi 7])),
  (64, oc 169 ([vp 62 0, vi 1, vi 0, vi 0])),
  (65, oc 172 ([vp 62 0, vi 2, vi 0])),
  (66, oc 131 ([.func (.func 70) #[vp 63 0] #[], vb 1, vf, vf, vq 4])),
  (69, oc 131 ([.func (.func 71) #[vp 64 0] #[], vb 2, vf, vf, vq 2])),
  (72, oc 131 ([.func (.func 72) #[vp 65 0] #[], vb 2, vf, vf, vq 5])),
  (75, oc 3 ([vi 1])),
  (78, oc 25 ([vw 2])),
  (85, oc 252 ([vs 109 0 8 8])),
  (86, .map #[] 0),
  (89, .map #[] 0),
  (92, .map #[] 0),
  (95, .map #[] 0),
  (98, .map #[] 0),
  (101, .map #[] 0),
  (104, .map #[] 0),
  (107, .map #[] 0),
  (109, oc 253 ([vm 86, vm 89, vm 92, vm 95, vm 98, vm 101, vm 104, vm 107])),
  (111, oc 25 ([vw 2])),
  (112, oc 255 ([vq 4354685564936845431])),
  (113, .map #[] 0),
  (114, oc 190 (vs 111 0 1 1 :: vh 9 :: vt :: vi 256 :: vh 4 :: vi 4000 :: vi 4000 :: vi 1000 :: vw 300 :: vw 100 :: vw 6000 :: vb 8 :: vb 3 :: vb 20 :: vw 3000 :: vw 6000 :: vq 77 :: vb 5 :: rp 15 (vb 0) (vp 112 0 :: vp 85 0 :: v0 :: vi 0 :: vm 113 :: vf :: v0 :: v0 :: []))),
  (115, .map #[] 2),
  (116, .map #[] 0),
  (117, .map #[] 0),
  (118, .map #[⟨vi 3, vs 469 0 0 1, 0⟩, ⟨vi 5, vs 776 0 0 1, 1⟩] 2),
  (119, oc 224 ([vm 115, vm 116, vm 117, vm 118])),
  (120, oc 161 ([vp 114 0, vp 119 0, vp 13 0, .func (.func 35) #[vp 15 0] #[], .func (.func 36) #[] #[vp 16 0], .func (.func 38) #[] #[vp 16 0, vp 75 0], .func (.func 40) #[vp 15 0] #[], vs 448 3 0 0, v0, vi 3, vi 4, vi 5, v0])),
  (121, oc 166 ([vp 120 0, vi 3, vi 0, vw 1, vw 2, vs 446 0 40 40, vi 0, vb 1, vi 0])),
  (122, oc 169 ([vp 120 0, vi 4, vi 0, vi 0])),
  (123, oc 172 ([vp 120 0, vi 5, vi 0])),
  (124, oc 131 ([.func (.func 70) #[vp 121 0] #[], vb 2, vf, vf, vq 5])),
  (127, oc 131 ([.func (.func 71) #[vp 122 0] #[], vb 2, vf, vf, vq 2])),
  (130, oc 131 ([.func (.func 72) #[vp 123 0] #[], vb 2, vf, vf, vq 5])),
  (137, oc 25 ([vw 2])),
  (138, oc 62 ([vi 0, vb 1, vi 0, vs 137 0 1 1, vh 9, vh 0, vf, vw 0, v0, vt, vi 6, v0])),
  (140, oc 63 ([vp 138 0])),
  (142, oc 178 ([vi 0, vf])),
  (145, oc 25 ([vw 2])),
  (146, oc 236 ([vp 62 0, vi 6, vi 0, vb 1, vi 1, vs 145 0 1 1, vh 9, vh 0, vf, vw 0, v0, vt, vi 0, vt, vf, vf, vi 0, vi 0, vh 0, vf, vw 0, v0, vb 0, vi 0])),
  (147, oc 131 ([.func (.func 100) #[vp 146 0] #[], vb 2, vf, vf, vq 3])),
  (149, oc 127 ([vp 66 0, vp 69 0, vp 72 0, vp 124 0, vp 127 0, vp 130 0, vp 147 0])),
  (244, oc 164 ([vb 0, vi 0])),
  (251, oc 255 ([vq 4354685564936845355])),
  (258, oc 25 ([vw 1])),
  (259, .map #[⟨vi 0, vi 0, 0⟩] 1),
  (260, oc 411 ([vs 328 0 1 1, vm 259])),
  (261, oc 146 (vs 258 0 1 1 :: vh 9 :: vt :: vi 256 :: vh 4 :: vi 4000 :: vi 4000 :: vi 1000 :: vw 300 :: vw 100 :: vw 6000 :: vb 8 :: vb 3 :: vb 20 :: vw 3000 :: vw 6000 :: vq 1 :: rp 16 (vb 0) (vw 2298633409 :: vw 1703865447 :: vh 9 :: vb 1 :: vq 0 :: rp 3 (vw 0) (vh 0 :: v0 :: vp 263 0 :: rp 3 (vn) (vp 260 0 :: v0 :: rp 3 (vi 0) (vw 0 :: v0 :: v0 :: [])))))),
  (263, oc 415 ([vs 272 0 1 1, vi 0, vi 0, vi 20])),
  (268, oc 485 ([vq 100, vq 6000, vq 300, vq 0, vq 0, vf])),
  (269, oc 487 ([vi 256, vi 512, vi 65536, vi 0])),
  (270, oc 419 ([vw 1, vw 2, vp 268 0, vp 269 0, vi 3, vi 0, vf, v0])),
  (272, oc 360 ([vp 270 0])),
  (328, oc 359 ([vq 300, vi 0])),
  (330, oc 25 ([vw 2])),
  (331, oc 194 ([vi 1, vp 261 0, vs 330 0 1 1, vs 343 0 1 1, vf])),
  (333, oc 191 ([vp 331 0])),
  (343, oc 257 ([vw 2, vh 9, vh 9])),
  (351, oc 104 ([vb 1, vj 0, vb 1, vi 0, vs 145 0 1 1, vh 9, vh 0, vf, vw 0, v0, vt, vw 0, vw 0, v0, vi 0, vq 0, vi 0, vi 1, vh 0, vf, vw 0, v0, vb 0, vi 0])),
  (362, oc 234 ([vp 146 0])),
  (383, oc 164 ([vb 0, vi 0])),
  (398, oc 119 ([vw 0, vw 0, v0, vq 0])),
  (446, oc 5 (vb 0 :: vb 9 :: vb 0 :: vb 9 :: rp 4 (vb 0) (vb 188 :: vb 79 :: vb 7 :: vb 224 :: vb 1 :: vb 0 :: vb 0 :: vb 28 :: vb 137 :: vb 2 :: vb 92 :: vb 193 :: vb 0 :: vb 0 :: vb 11 :: vb 184 :: vb 0 :: vb 4 :: vb 0 :: vb 4 :: vb 101 :: vb 142 :: vb 236 :: vb 103 :: vb 0 :: vb 5 :: vb 0 :: vb 8 :: rp 3 (vb 0) (vb 1 :: [])))),
  (448, oc 56 ([vw 1, vw 2, vs 446 0 40 40])),
  (469, oc 164 ([vb 0, vi 0])),
  (731, oc 104 ([vb 9, vj 0, vb 0, vi 0, v0, vh 0, vh 0, vf, vw 0, v0, vf, vw 1, vw 2, vs 446 0 40 40, vi 0, vq 0, vi 0, vi 0, vh 0, vf, vw 0, v0, vb 0, vi 0])),
  (776, oc 164 ([vb 0, vi 0])),
  (820, oc 5 (vb 0 :: vb 9 :: vb 0 :: vb 9 :: vb 137 :: vb 2 :: vb 92 :: vb 193 :: vb 213 :: vb 106 :: vb 0 :: vb 220 :: vb 2 :: vb 0 :: vb 0 :: vb 88 :: vb 124 :: vb 31 :: vb 240 :: vb 129 :: vb 0 :: vb 0 :: vb 11 :: vb 184 :: vb 0 :: vb 4 :: vb 0 :: vb 4 :: vb 58 :: vb 150 :: vb 158 :: vb 84 :: vb 0 :: vb 5 :: vb 0 :: vb 8 :: rp 3 (vb 0) (vb 2 :: vb 0 :: vb 7 :: vb 0 :: vb 60 :: vb 124 :: vb 31 :: vb 240 :: vb 129 :: vb 137 :: vb 2 :: vb 92 :: vb 193 :: vb 58 :: vb 150 :: vb 158 :: vb 84 :: vb 101 :: vb 142 :: vb 236 :: vb 103 :: vb 0 :: vb 0 :: vb 11 :: vb 184 :: vb 0 :: vb 4 :: vb 0 :: vb 9 :: rp 19 (vb 0) (vb 1 :: rp 3 (vb 0) (vb 1 :: vb 244 :: vb 7 :: vb 233 :: vb 146 :: vb 14 :: vb 78 :: vb 104 :: vb 30 :: []))))),
  (822, oc 56 ([vw 2, vw 1, vs 820 0 100 100])),
  (863, oc 164 ([vb 2, vi 1, vb 3, vi 1]))],
  vt, 1063, [66, 63, 261, 263, 270, 328, 259, 260, 56, 49, 331, 351, 15, 62, 146, 147, 69, 72],
  [(15, oc 75 (vs 20 0 1 1 :: vh 9 :: vt :: vi 256 :: vh 4 :: vi 4000 :: vi 4000 :: vi 1000 :: vw 300 :: vw 100 :: vw 6000 :: vb 8 :: vb 3 :: vb 20 :: vw 3000 :: vw 6000 :: vq 1 :: rp 16 (vb 0) (vs 78 0 1 1 :: vh 9 :: vt :: vi 256 :: vh 4 :: vi 4000 :: vi 4000 :: vi 1000 :: vw 300 :: vw 100 :: vw 6000 :: vb 8 :: vb 3 :: vb 20 :: vw 3000 :: vw 6000 :: vq 77 :: vb 5 :: rp 15 (vb 0) (vp 13 0 :: vp 14 0 :: vp 62 0 :: vp 120 0 :: vq 0 :: vs 140 0 1 1 :: vs 1053 0 2 2 :: vs 731 0 1 1 :: vs 142 0 1 1 :: v0 :: [])))),
  (49, .map #[⟨.agg #[vw 2, vh 9, vh 9], vi 1, 1⟩] 2),
  (56, oc 190 (vs 53 0 1 1 :: vh 9 :: vt :: vi 256 :: vh 4 :: vi 4000 :: vi 4000 :: vi 1000 :: vw 300 :: vw 100 :: vw 6000 :: vb 8 :: vb 3 :: vb 20 :: vw 3000 :: vw 6000 :: vq 1 :: rp 16 (vb 0) (vp 251 0 :: vp 27 0 :: vs 333 0 1 1 :: vi 1 :: vm 55 :: vf :: v0 :: v0 :: []))),
  (62, oc 161 ([vp 56 0, vp 61 0, vp 13 0, .func (.func 35) #[vp 15 0] #[], .func (.func 36) #[] #[vp 16 0], .func (.func 38) #[] #[vp 16 0, vp 17 0], .func (.func 40) #[vp 15 0] #[], vs 822 3 0 0, vs 1056 0 1 1, vi 0, vi 1, vi 2, v0])),
  (63, oc 166 ([vp 62 0, vi 0, vi 4, vw 2, vw 1, vs 820 0 100 100, vi 1, vb 1, vi 7])),
  (66, oc 131 ([.func (.func 70) #[vp 63 0] #[], vb 1, vf, vf, vq 5])),
  (69, oc 131 ([.func (.func 71) #[vp 64 0] #[], vb 1, vf, vf, vq 2])),
  (72, oc 131 ([.func (.func 72) #[vp 65 0] #[], vb 1, vf, vf, vq 5])),
  (146, oc 236 ([vp 62 0, vi 6, vi 0, vb 1, vi 1, vs 145 0 1 1, vh 9, vh 0, vf, vw 0, v0, vt, vi 0, vt, vf, vt, vi 0, vi 0, vh 0, vf, vw 0, v0, vb 0, vi 0])),
  (147, oc 131 ([.func (.func 100) #[vp 146 0] #[], vb 1, vf, vf, vq 3])),
  (259, .map #[⟨vi 0, vi 0, 1⟩] 2),
  (260, oc 411 ([vs 328 0 1 1, vm 259])),
  (261, oc 146 (vs 258 0 1 1 :: vh 9 :: vt :: vi 256 :: vh 4 :: vi 4000 :: vi 4000 :: vi 1000 :: vw 300 :: vw 100 :: vw 6000 :: vb 8 :: vb 3 :: vb 20 :: vw 3000 :: vw 6000 :: vq 1 :: rp 16 (vb 0) (vw 2298633409 :: vw 1703865447 :: vh 9 :: vb 2 :: vq 0 :: vw 2082467969 :: vw 982949460 :: vw 3000 :: vh 4 :: vs 961 0 1 1 :: vp 967 0 :: vp 980 0 :: vp 987 0 :: vp 994 0 :: vp 260 0 :: vs 996 0 56 56 :: vi 3000 :: vi 0 :: vi 0 :: vw 0 :: v0 :: v0 :: []))),
  (263, oc 415 ([vs 272 0 1 1, vi 0, vi 0, vi 20])),
  (270, oc 419 ([vw 1, vw 2, vp 268 0, vp 269 0, vi 3, vi 0, vf, v0])),
  (328, oc 359 ([vq 300, vi 0])),
  (331, oc 194 ([vi 1, vp 261 0, vs 330 0 1 1, vs 1044 0 1 1, vf])),
  (961, oc 25 ([vw 2])),
  (967, oc 415 ([vs 976 0 1 1, vi 0, vi 0, vi 20])),
  (972, oc 485 ([vq 100, vq 6000, vq 300, vq 0, vq 0, vf])),
  (973, oc 487 ([vi 256, vi 512, vi 65536, vi 0])),
  (974, oc 419 ([vw 1, vw 2, vp 972 0, vp 973 0, vi 3, vi 0, vf, v0])),
  (976, oc 360 ([vp 974 0])),
  (980, oc 214 (vi 256 :: vh 4 :: vi 4000 :: vi 4000 :: vi 1000 :: vw 300 :: vw 100 :: vw 6000 :: vb 8 :: vb 3 :: vb 20 :: vw 3000 :: vw 6000 :: vw 1703865447 :: rp 16 (vh 0) (v0 :: vi 0 :: vi 0 :: []))),
  (987, oc 244 ([vw 1703865446, vw 1703865447, v0, vf, vw 0])),
  (988, .map #[] 0),
  (989, oc 474 ([vw 982949459, vm 988, v0])),
  (990, .map #[] 0),
  (991, oc 247 ([vm 990, vi 0])),
  (992, .map #[] 0),
  (993, .map #[] 0),
  (994, oc 202 ([vh 4, vi 4000, vi 1000, vp 989 0, vp 991 0, vm 992, vm 993, v0, vi 0])),
  (996, oc 5 (vb 124 :: vb 31 :: vb 240 :: vb 129 :: vb 137 :: vb 2 :: vb 92 :: vb 193 :: vb 58 :: vb 150 :: vb 158 :: vb 84 :: vb 101 :: vb 142 :: vb 236 :: vb 103 :: vb 0 :: vb 0 :: vb 11 :: vb 184 :: vb 0 :: vb 4 :: vb 0 :: vb 9 :: rp 19 (vb 0) (vb 1 :: rp 3 (vb 0) (vb 1 :: vb 244 :: vb 7 :: vb 233 :: vb 146 :: vb 14 :: vb 78 :: vb 104 :: vb 30 :: [])))),
  (1022, oc 5 (vb 0 :: vb 9 :: vb 0 :: vb 9 :: vb 124 :: vb 31 :: vb 240 :: vb 129 :: vb 183 :: vb 199 :: vb 120 :: vb 187 :: vb 10 :: vb 0 :: vb 0 :: vb 60 :: vb 124 :: vb 31 :: vb 240 :: vb 129 :: vb 137 :: vb 2 :: vb 92 :: vb 193 :: vb 58 :: vb 150 :: vb 158 :: vb 84 :: vb 101 :: vb 142 :: vb 236 :: vb 103 :: vb 0 :: vb 0 :: vb 11 :: vb 184 :: vb 0 :: vb 4 :: vb 0 :: vb 9 :: rp 19 (vb 0) (vb 1 :: rp 3 (vb 0) (vb 1 :: vb 244 :: vb 7 :: vb 233 :: vb 146 :: vb 14 :: vb 78 :: vb 104 :: vb 30 :: [])))),
  (1044, oc 257 ([vw 2, vh 9, vh 9])),
  (1053, oc 104 ([vb 1, vj 0, vb 1, vi 0, vs 145 0 1 1, vh 9, vh 0, vf, vw 0, v0, vt, vw 0, vw 0, v0, vi 0, vq 0, vi 0, vi 1, vh 0, vf, vw 0, v0, vb 0, vi 0, vb 9, vj 0, vb 0, vi 0, v0, vh 0, vh 0, vf, vw 0, v0, vf, vw 2, vw 1, vs 820 0 100 100, vi 0, vq 0, vi 0, vi 0, vh 0, vf, vw 0, v0, vb 0, vi 0])),
  (1056, oc 56 ([vw 1, vw 2, vs 1022 0 72 72]))]⟩
theorem fc4ok : CkOk Tryz.prog fc4 := ckOk_of (N := 200000) fcS3ok (by kernel_rfl) (by kernel_rfl)
noncomputable def fcS4 : Summ := ckS fc4 (fcS3)
theorem fcS4ok : SOk Tryz.prog fcS4 := ckS_ok fcS3ok fc4ok
def fc5 : Ck := ⟨295, 1318, [.agg #[vb 5, vb 0, vb 0, vb 0, vb 0, vb 0, vb 0, vb 0, vb 0, vb 0, vb 0, vb 0, vb 0, vb 0, vb 0, vb 0], vs 1317 0 1 1],
  [(1291, oc 5 (vb 124 :: vb 31 :: vb 240 :: vb 129 :: vb 137 :: vb 2 :: vb 92 :: vb 193 :: vb 58 :: vb 150 :: vb 158 :: vb 84 :: vb 101 :: vb 142 :: vb 236 :: vb 103 :: vb 0 :: vb 0 :: vb 11 :: vb 184 :: vb 0 :: vb 4 :: vb 0 :: vb 9 :: rp 19 (vb 0) (vb 1 :: rp 3 (vb 0) (vb 1 :: vb 244 :: vb 7 :: vb 233 :: vb 146 :: vb 14 :: vb 78 :: vb 104 :: vb 30 :: [])))),
  (1317, oc 28 ([vs 1291 0 48 56]))],
  vq 17584280083605907486, 1320, [],
  []⟩
theorem fc5ok : CkOk Tryz.prog fc5 := ckOk_of (N := 200000) fcS4ok (by kernel_rfl) (by kernel_rfl)
noncomputable def fcS5 : Summ := ckS fc5 (fcS4)
theorem fcS5ok : SOk Tryz.prog fcS5 := ckS_ok fcS4ok fc5ok
def fc6 : Ck := ⟨139, 1309, [vp 114 0, vn, .agg #[vw 1, vw 2, vs 1236 0 72 72], .agg #[vh 9, vh 9, vw 2082467969, vs 1300 0 1 1], vq 0],
  [(85, oc 252 ([vs 109 0 8 8])),
  (86, .map #[] 0),
  (89, .map #[] 0),
  (92, .map #[] 0),
  (95, .map #[] 0),
  (98, .map #[] 0),
  (101, .map #[] 0),
  (104, .map #[] 0),
  (107, .map #[] 0),
  (109, oc 253 ([vm 86, vm 89, vm 92, vm 95, vm 98, vm 101, vm 104, vm 107])),
  (111, oc 25 ([vw 2])),
  (112, oc 255 ([vq 4354685564936845431])),
  (113, .map #[] 0),
  (114, oc 190 (vs 111 0 1 1 :: vh 9 :: vt :: vi 256 :: vh 4 :: vi 4000 :: vi 4000 :: vi 1000 :: vw 300 :: vw 100 :: vw 6000 :: vb 8 :: vb 3 :: vb 20 :: vw 3000 :: vw 6000 :: vq 77 :: vb 5 :: rp 15 (vb 0) (vp 112 0 :: vp 85 0 :: v0 :: vi 0 :: vm 113 :: vf :: v0 :: v0 :: []))),
  (1236, oc 5 (vb 0 :: vb 9 :: vb 0 :: vb 9 :: vb 124 :: vb 31 :: vb 240 :: vb 129 :: vb 183 :: vb 199 :: vb 120 :: vb 187 :: vb 10 :: vb 0 :: vb 0 :: vb 60 :: vb 124 :: vb 31 :: vb 240 :: vb 129 :: vb 137 :: vb 2 :: vb 92 :: vb 193 :: vb 58 :: vb 150 :: vb 158 :: vb 84 :: vb 101 :: vb 142 :: vb 236 :: vb 103 :: vb 0 :: vb 0 :: vb 11 :: vb 184 :: vb 0 :: vb 4 :: vb 0 :: vb 9 :: rp 19 (vb 0) (vb 1 :: rp 3 (vb 0) (vb 1 :: vb 244 :: vb 7 :: vb 233 :: vb 146 :: vb 14 :: vb 78 :: vb 104 :: vb 30 :: [])))),
  (1291, oc 5 (vb 124 :: vb 31 :: vb 240 :: vb 129 :: vb 137 :: vb 2 :: vb 92 :: vb 193 :: vb 58 :: vb 150 :: vb 158 :: vb 84 :: vb 101 :: vb 142 :: vb 236 :: vb 103 :: vb 0 :: vb 0 :: vb 11 :: vb 184 :: vb 0 :: vb 4 :: vb 0 :: vb 9 :: rp 19 (vb 0) (vb 1 :: rp 3 (vb 0) (vb 1 :: vb 244 :: vb 7 :: vb 233 :: vb 146 :: vb 14 :: vb 78 :: vb 104 :: vb 30 :: [])))),
  (1300, oc 294 (vb 10 :: vb 0 :: rp 3 (vw 0) (rp 4 (vh 0) (vw 0 :: vs 1291 0 56 56 :: rp 4 (v0) []))))],
  .tuple #[], 1422, [114, 113, 86],
  [(86, .map #[⟨.agg #[vw 1, vh 9, vh 9], vi 1, 0⟩] 1),
  (113, .map #[⟨vw 2082467969, vi 1, 0⟩] 1),
  (114, oc 190 (vs 111 0 1 1 :: vh 9 :: vt :: vi 256 :: vh 4 :: vi 4000 :: vi 4000 :: vi 1000 :: vw 300 :: vw 100 :: vw 6000 :: vb 8 :: vb 3 :: vb 20 :: vw 3000 :: vw 6000 :: vq 77 :: vb 5 :: rp 15 (vb 0) (vp 112 0 :: vp 85 0 :: vs 1408 0 1 1 :: vi 1 :: vm 113 :: vf :: vs 1409 0 1 1 :: vs 1411 0 1 1 :: []))),
  (1331, oc 25 ([vw 2])),
  (1332, .map #[⟨vi 11, vi 0, 0⟩] 1),
  (1333, oc 411 ([vs 1405 0 1 1, vm 1332])),
  (1334, oc 146 (vs 1331 0 1 1 :: vh 9 :: vt :: vi 256 :: vh 4 :: vi 4000 :: vi 4000 :: vi 1000 :: vw 300 :: vw 100 :: vw 6000 :: vb 8 :: vb 3 :: vb 20 :: vw 3000 :: vw 6000 :: vq 77 :: vb 5 :: rp 15 (vb 0) (vw 2082467969 :: vw 982949460 :: vh 9 :: vb 3 :: vq 0 :: vw 2298633409 :: vw 1703865447 :: vw 3000 :: vh 4 :: vs 1338 0 1 1 :: vp 1342 0 :: vp 1355 0 :: vp 1362 0 :: vp 1369 0 :: vp 1333 0 :: v0 :: vi 3000 :: vi 0 :: vi 0 :: vw 0 :: v0 :: v0 :: []))),
  (1338, oc 25 ([vw 1])),
  (1342, oc 415 ([vs 1351 0 1 1, vi 0, vi 0, vi 20])),
  (1347, oc 485 ([vq 100, vq 6000, vq 300, vq 0, vq 0, vf])),
  (1348, oc 487 ([vi 256, vi 512, vi 65536, vi 0])),
  (1349, oc 419 ([vw 2, vw 1, vp 1347 0, vp 1348 0, vi 3, vi 0, vf, v0])),
  (1351, oc 360 ([vp 1349 0])),
  (1355, oc 214 (vi 256 :: vh 4 :: vi 4000 :: vi 4000 :: vi 1000 :: vw 300 :: vw 100 :: vw 6000 :: vb 8 :: vb 3 :: vb 20 :: vw 3000 :: vw 6000 :: vw 982949460 :: rp 16 (vh 0) (v0 :: vi 0 :: vi 0 :: []))),
  (1362, oc 244 ([vw 982949459, vw 982949460, v0, vf, vw 0])),
  (1363, .map #[] 0),
  (1364, oc 474 ([vw 1703865446, vm 1363, v0])),
  (1365, .map #[] 0),
  (1366, oc 247 ([vm 1365, vi 0])),
  (1367, .map #[] 0),
  (1368, .map #[] 0),
  (1369, oc 202 ([vh 4, vi 4000, vi 1000, vp 1364 0, vp 1366 0, vm 1367, vm 1368, v0, vi 0])),
  (1393, oc 5 ([vb 0, vb 9, vb 0, vb 9, vb 137, vb 2, vb 92, vb 193, vb 252, vb 37, vb 169, vb 15, vb 11, vb 0, vb 0, vb 4])),
  (1405, oc 359 ([vq 3300, vi 11])),
  (1406, oc 194 ([vi 1, vp 1334 0, v0, vs 1421 0 1 1, vf])),
  (1408, oc 191 ([vp 1406 0])),
  (1409, oc 56 ([vw 2, vw 1, vs 1393 0 16 16])),
  (1411, oc 32 ([vb 1, vi 1])),
  (1421, oc 257 ([vw 1, vh 9, vh 9]))]⟩
theorem fc6ok : CkOk Tryz.prog fc6 := ckOk_of (N := 200000) fcS5ok (by kernel_rfl) (by kernel_rfl)
noncomputable def fcS6 : Summ := ckS fc6 (fcS5)
theorem fcS6ok : SOk Tryz.prog fcS6 := ckS_ok fcS5ok fc6ok
def fc7 : Ck := ⟨13, 1259, [vp 15 0, .agg #[vb 2, vb 0, vi 0, vi 0, vb 0, vi 0, v0, vh 0, vh 0, vf, vw 0, v0, vf, vw 0, vw 0, v0]],
  [(13, oc 154 ([vs 149 0 7 7])),
  (14, oc 123 ([vi 256, vs 398 0 0 1])),
  (15, oc 75 (vs 20 0 1 1 :: vh 9 :: vt :: vi 256 :: vh 4 :: vi 4000 :: vi 4000 :: vi 1000 :: vw 300 :: vw 100 :: vw 6000 :: vb 8 :: vb 3 :: vb 20 :: vw 3000 :: vw 6000 :: vq 1 :: rp 16 (vb 0) (vs 78 0 1 1 :: vh 9 :: vt :: vi 256 :: vh 4 :: vi 4000 :: vi 4000 :: vi 1000 :: vw 300 :: vw 100 :: vw 6000 :: vb 8 :: vb 3 :: vb 20 :: vw 3000 :: vw 6000 :: vq 77 :: vb 5 :: rp 15 (vb 0) (vp 13 0 :: vp 14 0 :: vp 62 0 :: vp 120 0 :: vq 0 :: vs 140 0 1 1 :: vs 1053 0 2 2 :: vs 731 0 1 1 :: vs 142 0 1 1 :: v0 :: [])))),
  (16, oc 22 ([vp 15 0])),
  (17, oc 3 ([vi 0])),
  (20, oc 25 ([vw 1])),
  (27, oc 252 ([vs 51 0 8 8])),
  (28, .map #[] 0),
  (31, .map #[] 0),
  (34, .map #[] 0),
  (37, .map #[] 0),
  (40, .map #[] 0),
  (43, .map #[] 0),
  (46, .map #[] 0),
  (49, .map #[⟨.agg #[vw 2, vh 9, vh 9], vi 1, 1⟩] 2),
  (51, oc 253 ([vm 28, vm 31, vm 34, vm 37, vm 40, vm 43, vm 46, vm 49])),
  (53, oc 25 ([vw 1])),
  (55, .map #[⟨vw 2298633409, vi 1, 0⟩] 1),
  (56, oc 190 (vs 53 0 1 1 :: vh 9 :: vt :: vi 256 :: vh 4 :: vi 4000 :: vi 4000 :: vi 1000 :: vw 300 :: vw 100 :: vw 6000 :: vb 8 :: vb 3 :: vb 20 :: vw 3000 :: vw 6000 :: vq 1 :: rp 16 (vb 0) (vp 251 0 :: vp 27 0 :: vs 333 0 1 1 :: vi 1 :: vm 55 :: vf :: v0 :: v0 :: []))),
  (57, .map #[] 9),
  (58, .map #[] 0),
  (59, .map #[] 0),
  (60, .map #[⟨vi 6, vs 1168 0 0 2, 0⟩, ⟨vi 2, vs 383 0 0 1, 1⟩, ⟨vi 0, vs 863 0 0 2, 2⟩] 3),
  (61, oc 224 ([vm 57, vm 58, vm 59, vm 60])),
  (62, oc 161 ([vp 56 0, vp 61 0, vp 13 0, .func (.func 35) #[vp 15 0] #[], .func (.func 36) #[] #[vp 16 0], .func (.func 38) #[] #[vp 16 0, vp 17 0], .func (.func 40) #[vp 15 0] #[], vs 822 3 0 0, v0, vi 0, vi 1, vi 2, vs 1196 0 1 1])),
  (63, oc 166 ([vp 62 0, vi 0, vi 0, vw 2, vw 1, vs 820 0 100 100, vi 1, vb 1, vi 7])),
  (64, oc 169 ([vp 62 0, vi 1, vi 0, vi 0])),
  (65, oc 172 ([vp 62 0, vi 2, vi 0])),
  (66, oc 131 ([.func (.func 70) #[vp 63 0] #[], vb 2, vf, vf, vq 7])),
  (69, oc 131 ([.func (.func 71) #[vp 64 0] #[], vb 2, vf, vf, vq 3])),
  (72, oc 131 ([.func (.func 72) #[vp 65 0] #[], vb 2, vf, vf, vq 9])),
  (75, oc 3 ([vi 1])),
  (78, oc 25 ([vw 2])),
  (85, oc 252 ([vs 109 0 8 8])),
  (86, .map #[] 0),
  (89, .map #[] 0),
  (92, .map #[] 0),
  (95, .map #[] 0),
  (98, .map #[] 0),
  (101, .map #[] 0),
  (104, .map #[] 0),
  (107, .map #[] 0),
  (109, oc 253 ([vm 86, vm 89, vm 92, vm 95, vm 98, vm 101, vm 104, vm 107])),
  (111, oc 25 ([vw 2])),
  (112, oc 255 ([vq 4354685564936845431])),
  (113, .map #[] 0),
  (114, oc 190 (vs 111 0 1 1 :: vh 9 :: vt :: vi 256 :: vh 4 :: vi 4000 :: vi 4000 :: vi 1000 :: vw 300 :: vw 100 :: vw 6000 :: vb 8 :: vb 3 :: vb 20 :: vw 3000 :: vw 6000 :: vq 77 :: vb 5 :: rp 15 (vb 0) (vp 112 0 :: vp 85 0 :: v0 :: vi 0 :: vm 113 :: vf :: v0 :: v0 :: []))),
  (115, .map #[⟨.agg #[vb 1, vi 0], vi 3, 2⟩] 3),
  (116, .map #[] 0),
  (117, .map #[] 0),
  (118, .map #[⟨vi 3, vs 469 0 1 1, 0⟩, ⟨vi 5, vs 776 0 0 1, 1⟩] 2),
  (119, oc 224 ([vm 115, vm 116, vm 117, vm 118])),
  (120, oc 161 ([vp 114 0, vp 119 0, vp 13 0, .func (.func 35) #[vp 15 0] #[], .func (.func 36) #[] #[vp 16 0], .func (.func 38) #[] #[vp 16 0, vp 75 0], .func (.func 40) #[vp 15 0] #[], vs 1238 3 0 0, v0, vi 3, vi 4, vi 5, v0])),
  (121, oc 166 ([vp 120 0, vi 3, vi 1, vw 1, vw 2, vs 1236 0 72 72, vi 0, vb 1, vi 0])),
  (122, oc 169 ([vp 120 0, vi 4, vi 0, vi 0])),
  (123, oc 172 ([vp 120 0, vi 5, vi 0])),
  (124, oc 131 ([.func (.func 70) #[vp 121 0] #[], vb 1, vf, vf, vq 6])),
  (127, oc 131 ([.func (.func 71) #[vp 122 0] #[], vb 2, vf, vf, vq 2])),
  (130, oc 131 ([.func (.func 72) #[vp 123 0] #[], vb 2, vf, vf, vq 5])),
  (137, oc 25 ([vw 2])),
  (138, oc 62 ([vi 0, vb 1, vi 0, vs 137 0 1 1, vh 9, vh 0, vf, vw 0, v0, vt, vi 6, v0])),
  (140, oc 63 ([vp 138 0])),
  (142, oc 178 ([vi 0, vf])),
  (145, oc 25 ([vw 2])),
  (146, oc 236 ([vp 62 0, vi 6, vi 0, vb 1, vi 1, vs 145 0 1 1, vh 9, vh 0, vf, vw 0, v0, vt, vi 0, vt, vf, vf, vi 0, vi 0, vh 0, vf, vw 0, v0, vb 0, vi 0])),
  (147, oc 131 ([.func (.func 100) #[vp 146 0] #[], vb 2, vf, vf, vq 9])),
  (149, oc 127 ([vp 66 0, vp 69 0, vp 72 0, vp 124 0, vp 127 0, vp 130 0, vp 147 0])),
  (251, oc 255 ([vq 4354685564936845355])),
  (258, oc 25 ([vw 1])),
  (259, .map #[⟨vi 0, vi 0, 1⟩] 2),
  (260, oc 411 ([vs 328 0 1 1, vm 259])),
  (261, oc 146 (vs 258 0 1 1 :: vh 9 :: vt :: vi 256 :: vh 4 :: vi 4000 :: vi 4000 :: vi 1000 :: vw 300 :: vw 100 :: vw 6000 :: vb 8 :: vb 3 :: vb 20 :: vw 3000 :: vw 6000 :: vq 1 :: rp 16 (vb 0) (vw 2298633409 :: vw 1703865447 :: vh 9 :: vb 2 :: vq 0 :: vw 2082467969 :: vw 982949460 :: vw 3000 :: vh 4 :: vs 961 0 1 1 :: vp 967 0 :: vp 980 0 :: vp 987 0 :: vp 994 0 :: vp 260 0 :: vs 996 0 56 56 :: vi 3000 :: vi 0 :: vi 0 :: vw 0 :: v0 :: v0 :: []))),
  (328, oc 359 ([vq 300, vi 0])),
  (330, oc 25 ([vw 2])),
  (331, oc 194 ([vi 1, vp 261 0, vs 330 0 1 1, vs 1044 0 1 1, vf])),
  (333, oc 191 ([vp 331 0])),
  (383, oc 164 ([vb 0, vi 0])),
  (398, oc 119 ([vw 0, vw 0, v0, vq 0])),
  (446, oc 5 (vb 0 :: vb 9 :: vb 0 :: vb 9 :: rp 4 (vb 0) (vb 188 :: vb 79 :: vb 7 :: vb 224 :: vb 1 :: vb 0 :: vb 0 :: vb 28 :: vb 137 :: vb 2 :: vb 92 :: vb 193 :: vb 0 :: vb 0 :: vb 11 :: vb 184 :: vb 0 :: vb 4 :: vb 0 :: vb 4 :: vb 101 :: vb 142 :: vb 236 :: vb 103 :: vb 0 :: vb 5 :: vb 0 :: vb 8 :: rp 3 (vb 0) (vb 1 :: [])))),
  (469, oc 164 ([vb 1, vi 0])),
  (731, oc 104 ([vb 9, vj 0, vb 0, vi 0, v0, vh 0, vh 0, vf, vw 0, v0, vf, vw 1, vw 2, vs 446 0 40 40, vi 0, vq 0, vi 0, vi 0, vh 0, vf, vw 0, v0, vb 0, vi 0])),
  (776, oc 164 ([vb 0, vi 0])),
  (820, oc 5 (vb 0 :: vb 9 :: vb 0 :: vb 9 :: vb 137 :: vb 2 :: vb 92 :: vb 193 :: vb 213 :: vb 106 :: vb 0 :: vb 220 :: vb 2 :: vb 0 :: vb 0 :: vb 88 :: vb 124 :: vb 31 :: vb 240 :: vb 129 :: vb 0 :: vb 0 :: vb 11 :: vb 184 :: vb 0 :: vb 4 :: vb 0 :: vb 4 :: vb 58 :: vb 150 :: vb 158 :: vb 84 :: vb 0 :: vb 5 :: vb 0 :: vb 8 :: rp 3 (vb 0) (vb 2 :: vb 0 :: vb 7 :: vb 0 :: vb 60 :: vb 124 :: vb 31 :: vb 240 :: vb 129 :: vb 137 :: vb 2 :: vb 92 :: vb 193 :: vb 58 :: vb 150 :: vb 158 :: vb 84 :: vb 101 :: vb 142 :: vb 236 :: vb 103 :: vb 0 :: vb 0 :: vb 11 :: vb 184 :: vb 0 :: vb 4 :: vb 0 :: vb 9 :: rp 19 (vb 0) (vb 1 :: rp 3 (vb 0) (vb 1 :: vb 244 :: vb 7 :: vb 233 :: vb 146 :: vb 14 :: vb 78 :: vb 104 :: vb 30 :: []))))),
  (822, oc 56 ([vw 2, vw 1, vs 820 0 100 100])),
  (863, oc 164 ([vb 0, vi 0, vb 0, vi 0])),
  (961, oc 25 ([vw 2])),
  (967, oc 415 ([vs 976 0 1 1, vi 0, vi 0, vi 20])),
  (972, oc 485 ([vq 100, vq 6000, vq 300, vq 0, vq 0, vf])),
  (973, oc 487 ([vi 256, vi 512, vi 65536, vi 0])),
  (974, oc 419 ([vw 1, vw 2, vp 972 0, vp 973 0, vi 3, vi 0, vf, v0])),
  (976, oc 360 ([vp 974 0])),
  (980, oc 214 (vi 256 :: vh 4 :: vi 4000 :: vi 4000 :: vi 1000 :: vw 300 :: vw 100 :: vw 6000 :: vb 8 :: vb 3 :: vb 20 :: vw 3000 :: vw 6000 :: vw 1703865447 :: rp 16 (vh 0) (v0 :: vi 0 :: vi 0 :: []))),
  (987, oc 244 ([vw 1703865446, vw 1703865447, v0, vf, vw 0])),
  (988, .map #[] 0),
  (989, oc 474 ([vw 982949459, vm 988, v0])),
  (990, .map #[] 0),
  (991, oc 247 ([vm 990, vi 0])),
  (992, .map #[] 0),
  (993, .map #[] 0),
  (994, oc 202 ([vh 4, vi 4000, vi 1000, vp 989 0, vp 991 0, vm 992, vm 993, v0, vi 0])),
  (996, oc 5 (vb 124 :: vb 31 :: vb 240 :: vb 129 :: vb 137 :: vb 2 :: vb 92 :: vb 193 :: vb 58 :: vb 150 :: vb 158 :: vb 84 :: vb 101 :: vb 142 :: vb 236 :: vb 103 :: vb 0 :: vb 0 :: vb 11 :: vb 184 :: vb 0 :: vb 4 :: vb 0 :: vb 9 :: rp 19 (vb 0) (vb 1 :: rp 3 (vb 0) (vb 1 :: vb 244 :: vb 7 :: vb 233 :: vb 146 :: vb 14 :: vb 78 :: vb 104 :: vb 30 :: [])))),
  (1044, oc 257 ([vw 2, vh 9, vh 9])),
  (1053, oc 104 ([vb 1, vj 0, vb 1, vi 0, vs 145 0 1 1, vh 9, vh 0, vf, vw 0, v0, vt, vw 0, vw 0, v0, vi 0, vq 0, vi 0, vi 1, vh 0, vf, vw 0, v0, vb 0, vi 0, vb 9, vj 0, vb 0, vi 0, v0, vh 0, vh 0, vf, vw 0, v0, vf, vw 2, vw 1, vs 820 0 100 100, vi 0, vq 0, vi 0, vi 0, vh 0, vf, vw 0, v0, vb 0, vi 0])),
  (1168, oc 164 ([vb 0, vi 0, vb 0, vi 0])),
  (1196, oc 234 ([vp 146 0])),
  (1236, oc 5 (vb 0 :: vb 9 :: vb 0 :: vb 9 :: vb 124 :: vb 31 :: vb 240 :: vb 129 :: vb 183 :: vb 199 :: vb 120 :: vb 187 :: vb 10 :: vb 0 :: vb 0 :: vb 60 :: vb 124 :: vb 31 :: vb 240 :: vb 129 :: vb 137 :: vb 2 :: vb 92 :: vb 193 :: vb 58 :: vb 150 :: vb 158 :: vb 84 :: vb 101 :: vb 142 :: vb 236 :: vb 103 :: vb 0 :: vb 0 :: vb 11 :: vb 184 :: vb 0 :: vb 4 :: vb 0 :: vb 9 :: rp 19 (vb 0) (vb 1 :: rp 3 (vb 0) (vb 1 :: vb 244 :: vb 7 :: vb 233 :: vb 146 :: vb 14 :: vb 78 :: vb 104 :: vb 30 :: [])))),
  (1238, oc 56 ([vw 1, vw 2, vs 1236 0 72 72]))],
  vt, 1436, [124, 121, 114, 113, 86, 731, 15, 120, 127, 130],
  [(15, oc 75 (vs 20 0 1 1 :: vh 9 :: vt :: vi 256 :: vh 4 :: vi 4000 :: vi 4000 :: vi 1000 :: vw 300 :: vw 100 :: vw 6000 :: vb 8 :: vb 3 :: vb 20 :: vw 3000 :: vw 6000 :: vq 1 :: rp 16 (vb 0) (vs 78 0 1 1 :: vh 9 :: vt :: vi 256 :: vh 4 :: vi 4000 :: vi 4000 :: vi 1000 :: vw 300 :: vw 100 :: vw 6000 :: vb 8 :: vb 3 :: vb 20 :: vw 3000 :: vw 6000 :: vq 77 :: vb 5 :: rp 15 (vb 0) (vp 13 0 :: vp 14 0 :: vp 62 0 :: vp 120 0 :: vq 0 :: vs 140 0 1 1 :: vs 1053 0 2 2 :: vs 1426 0 2 2 :: vs 142 0 1 1 :: v0 :: [])))),
  (86, .map #[⟨.agg #[vw 1, vh 9, vh 9], vi 1, 0⟩] 1),
  (113, .map #[⟨vw 2082467969, vi 1, 0⟩] 1),
  (114, oc 190 (vs 111 0 1 1 :: vh 9 :: vt :: vi 256 :: vh 4 :: vi 4000 :: vi 4000 :: vi 1000 :: vw 300 :: vw 100 :: vw 6000 :: vb 8 :: vb 3 :: vb 20 :: vw 3000 :: vw 6000 :: vq 77 :: vb 5 :: rp 15 (vb 0) (vp 112 0 :: vp 85 0 :: vs 1408 0 1 1 :: vi 1 :: vm 113 :: vf :: v0 :: vs 1411 0 1 1 :: []))),
  (120, oc 161 ([vp 114 0, vp 119 0, vp 13 0, .func (.func 35) #[vp 15 0] #[], .func (.func 36) #[] #[vp 16 0], .func (.func 38) #[] #[vp 16 0, vp 75 0], .func (.func 40) #[vp 15 0] #[], vs 1238 3 0 0, vs 1429 0 1 1, vi 3, vi 4, vi 5, v0])),
  (121, oc 166 ([vp 120 0, vi 3, vi 5, vw 1, vw 2, vs 1236 0 72 72, vi 0, vb 1, vi 0])),
  (124, oc 131 ([.func (.func 70) #[vp 121 0] #[], vb 1, vf, vf, vq 7])),
  (127, oc 131 ([.func (.func 71) #[vp 122 0] #[], vb 1, vf, vf, vq 2])),
  (130, oc 131 ([.func (.func 72) #[vp 123 0] #[], vb 1, vf, vf, vq 5])),
  (1331, oc 25 ([vw 2])),
  (1332, .map #[⟨vi 11, vi 0, 0⟩] 1),
  (1333, oc 411 ([vs 1405 0 1 1, vm 1332])),
  (1334, oc 146 (vs 1331 0 1 1 :: vh 9 :: vt :: vi 256 :: vh 4 :: vi 4000 :: vi 4000 :: vi 1000 :: vw 300 :: vw 100 :: vw 6000 :: vb 8 :: vb 3 :: vb 20 :: vw 3000 :: vw 6000 :: vq 77 :: vb 5 :: rp 15 (vb 0) (vw 2082467969 :: vw 982949460 :: vh 9 :: vb 3 :: vq 0 :: vw 2298633409 :: vw 1703865447 :: vw 3000 :: vh 4 :: vs 1338 0 1 1 :: vp 1342 0 :: vp 1355 0 :: vp 1362 0 :: vp 1369 0 :: vp 1333 0 :: v0 :: vi 3000 :: vi 0 :: vi 0 :: vw 0 :: v0 :: v0 :: []))),
  (1338, oc 25 ([vw 1])),
  (1342, oc 415 ([vs 1351 0 1 1, vi 0, vi 0, vi 20])),
  (1347, oc 485 ([vq 100, vq 6000, vq 300, vq 0, vq 0, vf])),
  (1348, oc 487 ([vi 256, vi 512, vi 65536, vi 0])),
  (1349, oc 419 ([vw 2, vw 1, vp 1347 0, vp 1348 0, vi 3, vi 0, vf, v0])),
  (1351, oc 360 ([vp 1349 0])),
  (1355, oc 214 (vi 256 :: vh 4 :: vi 4000 :: vi 4000 :: vi 1000 :: vw 300 :: vw 100 :: vw 6000 :: vb 8 :: vb 3 :: vb 20 :: vw 3000 :: vw 6000 :: vw 982949460 :: rp 16 (vh 0) (v0 :: vi 0 :: vi 0 :: []))),
  (1362, oc 244 ([vw 982949459, vw 982949460, v0, vf, vw 0])),
  (1363, .map #[] 0),
  (1364, oc 474 ([vw 1703865446, vm 1363, v0])),
  (1365, .map #[] 0),
  (1366, oc 247 ([vm 1365, vi 0])),
  (1367, .map #[] 0),
  (1368, .map #[] 0),
  (1369, oc 202 ([vh 4, vi 4000, vi 1000, vp 1364 0, vp 1366 0, vm 1367, vm 1368, v0, vi 0])),
  (1393, oc 5 ([vb 0, vb 9, vb 0, vb 9, vb 137, vb 2, vb 92, vb 193, vb 252, vb 37, vb 169, vb 15, vb 11, vb 0, vb 0, vb 4])),
  (1405, oc 359 ([vq 3300, vi 11])),
  (1406, oc 194 ([vi 1, vp 1334 0, v0, vs 1421 0 1 1, vf])),
  (1408, oc 191 ([vp 1406 0])),
  (1411, oc 32 ([vb 1, vi 1])),
  (1421, oc 257 ([vw 1, vh 9, vh 9])),
  (1426, oc 104 ([vb 9, vj 0, vb 0, vi 0, v0, vh 0, vh 0, vf, vw 0, v0, vf, vw 1, vw 2, vs 446 0 40 40, vi 0, vq 0, vi 0, vi 0, vh 0, vf, vw 0, v0, vb 0, vi 0, vb 9, vj 0, vb 0, vi 0, v0, vh 0, vh 0, vf, vw 0, v0, vf, vw 1, vw 2, vs 1236 0 72 72, vi 0, vq 0, vi 0, vi 0, vh 0, vf, vw 0, v0, vb 0, vi 0])),
  (1429, oc 56 ([vw 2, vw 1, vs 1393 0 16 16]))]⟩
theorem fc7ok : CkOk Tryz.prog fc7 := ckOk_of (N := 200000) fcS6ok (by kernel_rfl) (by kernel_rfl)
noncomputable def fcS7 : Summ := ckS fc7 (fcS6)
theorem fcS7ok : SOk Tryz.prog fcS7 := ckS_ok fcS6ok fc7ok
def fc8 : Ck := ⟨8, 167, [vp 15 0, vw 1, vw 2],
  [(13, oc 154 ([vs 149 0 7 7])),
  (14, oc 123 ([vi 256, v0])),
  (15, oc 75 (vs 20 0 1 1 :: vh 9 :: vt :: vi 256 :: vh 4 :: vi 4000 :: vi 4000 :: vi 1000 :: vw 300 :: vw 100 :: vw 6000 :: vb 8 :: vb 3 :: vb 20 :: vw 3000 :: vw 6000 :: vq 1 :: rp 16 (vb 0) (vs 78 0 1 1 :: vh 9 :: vt :: vi 256 :: vh 4 :: vi 4000 :: vi 4000 :: vi 1000 :: vw 300 :: vw 100 :: vw 6000 :: vb 8 :: vb 3 :: vb 20 :: vw 3000 :: vw 6000 :: vq 77 :: vb 5 :: rp 15 (vb 0) (vp 13 0 :: vp 14 0 :: vp 62 0 :: vp 120 0 :: vq 0 :: vs 140 0 1 1 :: v0 :: v0 :: vs 142 0 1 1 :: v0 :: [])))),
  (16, oc 22 ([vp 15 0])),
  (17, oc 3 ([vi 0])),
  (20, oc 25 ([vw 1])),
  (27, oc 252 ([vs 51 0 8 8])),
  (28, .map #[] 0),
  (31, .map #[] 0),
  (34, .map #[] 0),
  (37, .map #[] 0),
  (40, .map #[] 0),
  (43, .map #[] 0),
  (46, .map #[] 0),
  (49, .map #[] 0),
  (51, oc 253 ([vm 28, vm 31, vm 34, vm 37, vm 40, vm 43, vm 46, vm 49])),
  (53, oc 25 ([vw 1])),
  (54, oc 255 ([vq 1])),
  (55, .map #[] 0),
  (56, oc 190 (vs 53 0 1 1 :: vh 9 :: vt :: vi 256 :: vh 4 :: vi 4000 :: vi 4000 :: vi 1000 :: vw 300 :: vw 100 :: vw 6000 :: vb 8 :: vb 3 :: vb 20 :: vw 3000 :: vw 6000 :: vq 1 :: rp 16 (vb 0) (vp 54 0 :: vp 27 0 :: v0 :: vi 0 :: vm 55 :: vf :: v0 :: v0 :: []))),
  (57, .map #[] 0),
  (58, .map #[] 0),
  (59, .map #[] 0),
  (60, .map #[] 0),
  (61, oc 224 ([vm 57, vm 58, vm 59, vm 60])),
  (62, oc 161 ([vp 56 0, vp 61 0, vp 13 0, .func (.func 35) #[vp 15 0] #[], .func (.func 36) #[] #[vp 16 0], .func (.func 38) #[] #[vp 16 0, vp 17 0], .func (.func 40) #[vp 15 0] #[], v0, v0, vi 0, vi 1, vi 2, v0])),
  (63, oc 166 ([vp 62 0, vi 0, vi 0, vw 0, vw 0, v0, vi 0, vb 0, vi 0])),
  (64, oc 169 ([vp 62 0, vi 1, vi 0, vi 0])),
  (65, oc 172 ([vp 62 0, vi 2, vi 0])),
  (66, oc 131 ([.func (.func 70) #[vp 63 0] #[], vb 1, vf, vf, vq 0])),
  (69, oc 131 ([.func (.func 71) #[vp 64 0] #[], vb 1, vf, vf, vq 0])),
  (72, oc 131 ([.func (.func 72) #[vp 65 0] #[], vb 1, vf, vf, vq 0])),
  (75, oc 3 ([vi 1])),
  (78, oc 25 ([vw 2])),
  (85, oc 252 ([vs 109 0 8 8])),
  (86, .map #[] 0),
  (89, .map #[] 0),
  (92, .map #[] 0),
  (95, .map #[] 0),
  (98, .map #[] 0),
  (101, .map #[] 0),
  (104, .map #[] 0),
  (107, .map #[] 0),
  (109, oc 253 ([vm 86, vm 89, vm 92, vm 95, vm 98, vm 101, vm 104, vm 107])),
  (111, oc 25 ([vw 2])),
  (112, oc 255 ([vq 77])),
  (113, .map #[] 0),
  (114, oc 190 (vs 111 0 1 1 :: vh 9 :: vt :: vi 256 :: vh 4 :: vi 4000 :: vi 4000 :: vi 1000 :: vw 300 :: vw 100 :: vw 6000 :: vb 8 :: vb 3 :: vb 20 :: vw 3000 :: vw 6000 :: vq 77 :: vb 5 :: rp 15 (vb 0) (vp 112 0 :: vp 85 0 :: v0 :: vi 0 :: vm 113 :: vf :: v0 :: v0 :: []))),
  (115, .map #[] 0),
  (116, .map #[] 0),
  (117, .map #[] 0),
  (118, .map #[] 0),
  (119, oc 224 ([vm 115, vm 116, vm 117, vm 118])),
  (120, oc 161 ([vp 114 0, vp 119 0, vp 13 0, .func (.func 35) #[vp 15 0] #[], .func (.func 36) #[] #[vp 16 0], .func (.func 38) #[] #[vp 16 0, vp 75 0], .func (.func 40) #[vp 15 0] #[], v0, v0, vi 3, vi 4, vi 5, v0])),
  (121, oc 166 ([vp 120 0, vi 3, vi 0, vw 0, vw 0, v0, vi 0, vb 0, vi 0])),
  (122, oc 169 ([vp 120 0, vi 4, vi 0, vi 0])),
  (123, oc 172 ([vp 120 0, vi 5, vi 0])),
  (124, oc 131 ([.func (.func 70) #[vp 121 0] #[], vb 1, vf, vf, vq 0])),
  (127, oc 131 ([.func (.func 71) #[vp 122 0] #[], vb 1, vf, vf, vq 0])),
  (130, oc 131 ([.func (.func 72) #[vp 123 0] #[], vb 1, vf, vf, vq 0])),
  (137, oc 25 ([vw 2])),
  (138, oc 62 ([vi 0, vb 1, vi 0, vs 137 0 1 1, vh 9, vh 0, vf, vw 0, v0, vt, vi 6, v0])),
  (140, oc 63 ([vp 138 0])),
  (142, oc 178 ([vi 0, vf])),
  (145, oc 25 ([vw 2])),
  (146, oc 236 (vp 62 0 :: vi 6 :: vi 0 :: vb 1 :: vi 0 :: vs 145 0 1 1 :: vh 9 :: vh 0 :: vf :: vw 0 :: v0 :: vt :: vi 0 :: rp 3 (vf) (vi 0 :: vi 0 :: vh 0 :: vf :: vw 0 :: v0 :: vb 0 :: vi 0 :: []))),
  (147, oc 131 ([.func (.func 100) #[vp 146 0] #[], vb 1, vf, vf, vq 0])),
  (149, oc 127 ([vp 66 0, vp 69 0, vp 72 0, vp 124 0, vp 127 0, vp 130 0, vp 147 0]))],
  vt, 1806, [66, 63, 69, 64, 72, 65, 124, 121, 127, 122, 130, 123, 147, 146, 57, 60, 56, 55, 49, 15, 62, 14, 120, 115, 118, 112, 114, 113, 86, 138, 142],
  [(14, oc 123 ([vi 256, vs 398 0 0 1])),
  (15, oc 75 (vs 20 0 1 1 :: vh 9 :: vt :: vi 256 :: vh 4 :: vi 4000 :: vi 4000 :: vi 1000 :: vw 300 :: vw 100 :: vw 6000 :: vb 8 :: vb 3 :: vb 20 :: vw 3000 :: vw 6000 :: vq 1 :: rp 16 (vb 0) (vs 78 0 1 1 :: vh 9 :: vt :: vi 256 :: vh 4 :: vi 4000 :: vi 4000 :: vi 1000 :: vw 300 :: vw 100 :: vw 6000 :: vb 8 :: vb 3 :: vb 20 :: vw 3000 :: vw 6000 :: vq 77 :: vb 5 :: rp 15 (vb 0) (vp 13 0 :: vp 14 0 :: vp 62 0 :: vp 120 0 :: vq 0 :: vs 140 0 1 1 :: vs 1775 0 4 4 :: vs 1426 0 2 2 :: vs 1800 0 2 2 :: vs 1777 0 1 1 :: [])))),
  (49, .map #[⟨.agg #[vw 2, vh 9, vh 9], vi 1, 2⟩] 3),
  (55, .map #[⟨vw 2298633409, vi 1, 0⟩] 1),
  (56, oc 190 (vs 53 0 1 1 :: vh 9 :: vt :: vi 256 :: vh 4 :: vi 4000 :: vi 4000 :: vi 1000 :: vw 300 :: vw 100 :: vw 6000 :: vb 8 :: vb 3 :: vb 20 :: vw 3000 :: vw 6000 :: vq 1 :: rp 16 (vb 0) (vp 251 0 :: vp 27 0 :: vs 333 0 1 1 :: vi 1 :: vm 55 :: vf :: v0 :: vs 1643 0 1 1 :: []))),
  (57, .map #[] 15),
  (60, .map #[⟨vi 6, vs 1168 0 0 2, 0⟩, ⟨vi 2, vs 383 0 0 1, 1⟩, ⟨vi 0, vs 863 0 0 2, 2⟩] 3),
  (62, oc 161 ([vp 56 0, vp 61 0, vp 13 0, .func (.func 35) #[vp 15 0] #[], .func (.func 36) #[] #[vp 16 0], .func (.func 38) #[] #[vp 16 0, vp 17 0], .func (.func 40) #[vp 15 0] #[], vs 1516 3 0 0, v0, vi 0, vi 1, vi 2, v0])),
  (63, oc 166 ([vp 62 0, vi 0, vi 0, vw 2, vw 1, vs 1514 0 16 16, vi 1, vb 1, vi 7])),
  (64, oc 169 ([vp 62 0, vi 1, vi 0, vi 0])),
  (65, oc 172 ([vp 62 0, vi 2, vi 0])),
  (66, oc 131 ([.func (.func 70) #[vp 63 0] #[], vb 2, vf, vf, vq 13])),
  (69, oc 131 ([.func (.func 71) #[vp 64 0] #[], vb 2, vf, vf, vq 4])),
  (72, oc 131 ([.func (.func 72) #[vp 65 0] #[], vb 2, vf, vf, vq 10])),
  (86, .map #[⟨.agg #[vw 1, vh 9, vh 9], vi 1, 0⟩] 1),
  (112, oc 255 ([vq 4354685564936845431])),
  (113, .map #[⟨vw 2082467969, vi 1, 0⟩] 1),
  (114, oc 190 (vs 111 0 1 1 :: vh 9 :: vt :: vi 256 :: vh 4 :: vi 4000 :: vi 4000 :: vi 1000 :: vw 300 :: vw 100 :: vw 6000 :: vb 8 :: vb 3 :: vb 20 :: vw 3000 :: vw 6000 :: vq 77 :: vb 5 :: rp 15 (vb 0) (vp 112 0 :: vp 85 0 :: vs 1408 0 1 1 :: vi 1 :: vm 113 :: vf :: v0 :: vs 1411 0 1 1 :: []))),
  (115, .map #[] 4),
  (118, .map #[⟨vi 3, vs 469 0 0 1, 0⟩, ⟨vi 5, vs 776 0 0 1, 1⟩] 2),
  (120, oc 161 ([vp 114 0, vp 119 0, vp 13 0, .func (.func 35) #[vp 15 0] #[], .func (.func 36) #[] #[vp 16 0], .func (.func 38) #[] #[vp 16 0, vp 75 0], .func (.func 40) #[vp 15 0] #[], vs 1238 3 0 0, v0, vi 3, vi 4, vi 5, v0])),
  (121, oc 166 ([vp 120 0, vi 3, vi 0, vw 1, vw 2, vs 1236 0 72 72, vi 0, vb 1, vi 0])),
  (122, oc 169 ([vp 120 0, vi 4, vi 0, vi 0])),
  (123, oc 172 ([vp 120 0, vi 5, vi 0])),
  (124, oc 131 ([.func (.func 70) #[vp 121 0] #[], vb 2, vf, vf, vq 9])),
  (127, oc 131 ([.func (.func 71) #[vp 122 0] #[], vb 2, vf, vf, vq 3])),
  (130, oc 131 ([.func (.func 72) #[vp 123 0] #[], vb 2, vf, vf, vq 9])),
  (138, oc 62 ([vi 0, vb 1, vi 0, vs 137 0 1 1, vh 9, vh 0, vf, vw 0, v0, vt, vi 6, vs 1798 0 1 1])),
  (146, oc 236 (vp 62 0 :: vi 6 :: vi 0 :: vb 1 :: vi 1 :: vs 145 0 1 1 :: vh 9 :: vh 0 :: vf :: vw 0 :: v0 :: vt :: vi 6 :: rp 3 (vt) (vi 0 :: vi 1 :: vh 0 :: vf :: vw 0 :: v0 :: vb 0 :: vi 0 :: []))),
  (147, oc 131 ([.func (.func 100) #[vp 146 0] #[], vb 3, vf, vf, vq 15])),
  (251, oc 255 ([vq 4354685564936845355])),
  (258, oc 25 ([vw 1])),
  (259, .map #[⟨vi 11, vi 0, 2⟩] 3),
  (260, oc 411 ([vs 328 0 1 1, vm 259])),
  (261, oc 146 (vs 258 0 1 1 :: vh 9 :: vt :: vi 256 :: vh 4 :: vi 4000 :: vi 4000 :: vi 1000 :: vw 300 :: vw 100 :: vw 6000 :: vb 8 :: vb 3 :: vb 20 :: vw 3000 :: vw 6000 :: vq 1 :: rp 16 (vb 0) (vw 2298633409 :: vw 1703865447 :: vh 9 :: vb 3 :: vq 0 :: vw 2082467969 :: vw 982949460 :: vw 3000 :: vh 4 :: vs 961 0 1 1 :: vp 967 0 :: vp 980 0 :: vp 987 0 :: vp 994 0 :: vp 260 0 :: vs 996 0 56 56 :: vi 3000 :: vi 0 :: vi 0 :: vw 0 :: v0 :: v0 :: []))),
  (328, oc 359 ([vq 3300, vi 11])),
  (330, oc 25 ([vw 2])),
  (331, oc 194 ([vi 1, vp 261 0, vs 330 0 1 1, vs 1659 0 1 1, vf])),
  (333, oc 191 ([vp 331 0])),
  (383, oc 164 ([vb 0, vi 0])),
  (398, oc 119 ([vw 0, vw 0, v0, vq 0])),
  (446, oc 5 (vb 0 :: vb 9 :: vb 0 :: vb 9 :: rp 4 (vb 0) (vb 188 :: vb 79 :: vb 7 :: vb 224 :: vb 1 :: vb 0 :: vb 0 :: vb 28 :: vb 137 :: vb 2 :: vb 92 :: vb 193 :: vb 0 :: vb 0 :: vb 11 :: vb 184 :: vb 0 :: vb 4 :: vb 0 :: vb 4 :: vb 101 :: vb 142 :: vb 236 :: vb 103 :: vb 0 :: vb 5 :: vb 0 :: vb 8 :: rp 3 (vb 0) (vb 1 :: [])))),
  (469, oc 164 ([vb 0, vi 0])),
  (776, oc 164 ([vb 0, vi 0])),
  (820, oc 5 (vb 0 :: vb 9 :: vb 0 :: vb 9 :: vb 137 :: vb 2 :: vb 92 :: vb 193 :: vb 213 :: vb 106 :: vb 0 :: vb 220 :: vb 2 :: vb 0 :: vb 0 :: vb 88 :: vb 124 :: vb 31 :: vb 240 :: vb 129 :: vb 0 :: vb 0 :: vb 11 :: vb 184 :: vb 0 :: vb 4 :: vb 0 :: vb 4 :: vb 58 :: vb 150 :: vb 158 :: vb 84 :: vb 0 :: vb 5 :: vb 0 :: vb 8 :: rp 3 (vb 0) (vb 2 :: vb 0 :: vb 7 :: vb 0 :: vb 60 :: vb 124 :: vb 31 :: vb 240 :: vb 129 :: vb 137 :: vb 2 :: vb 92 :: vb 193 :: vb 58 :: vb 150 :: vb 158 :: vb 84 :: vb 101 :: vb 142 :: vb 236 :: vb 103 :: vb 0 :: vb 0 :: vb 11 :: vb 184 :: vb 0 :: vb 4 :: vb 0 :: vb 9 :: rp 19 (vb 0) (vb 1 :: rp 3 (vb 0) (vb 1 :: vb 244 :: vb 7 :: vb 233 :: vb 146 :: vb 14 :: vb 78 :: vb 104 :: vb 30 :: []))))),
  (863, oc 164 ([vb 0, vi 0, vb 0, vi 0])),
  (961, oc 25 ([vw 2])),
  (967, oc 415 ([vs 976 0 1 1, vi 0, vi 0, vi 20])),
  (972, oc 485 ([vq 100, vq 6000, vq 300, vq 0, vq 0, vf])),
  (973, oc 487 ([vi 256, vi 512, vi 65536, vi 0])),
  (974, oc 419 ([vw 1, vw 2, vp 972 0, vp 973 0, vi 3, vi 0, vf, v0])),
  (976, oc 360 ([vp 974 0])),
  (980, oc 214 (vi 256 :: vh 4 :: vi 4000 :: vi 4000 :: vi 1000 :: vw 300 :: vw 100 :: vw 6000 :: vb 8 :: vb 3 :: vb 20 :: vw 3000 :: vw 6000 :: vw 1703865447 :: rp 16 (vh 0) (v0 :: vi 0 :: vi 0 :: []))),
  (987, oc 244 ([vw 1703865446, vw 1703865447, v0, vf, vw 0])),
  (988, .map #[] 0),
  (989, oc 474 ([vw 982949459, vm 988, v0])),
  (990, .map #[] 0),
  (991, oc 247 ([vm 990, vi 0])),
  (992, .map #[] 0),
  (993, .map #[] 0),
  (994, oc 202 ([vh 4, vi 4000, vi 1000, vp 989 0, vp 991 0, vm 992, vm 993, v0, vi 0])),
  (996, oc 5 (vb 124 :: vb 31 :: vb 240 :: vb 129 :: vb 137 :: vb 2 :: vb 92 :: vb 193 :: vb 58 :: vb 150 :: vb 158 :: vb 84 :: vb 101 :: vb 142 :: vb 236 :: vb 103 :: vb 0 :: vb 0 :: vb 11 :: vb 184 :: vb 0 :: vb 4 :: vb 0 :: vb 9 :: rp 19 (vb 0) (vb 1 :: rp 3 (vb 0) (vb 1 :: vb 244 :: vb 7 :: vb 233 :: vb 146 :: vb 14 :: vb 78 :: vb 104 :: vb 30 :: [])))),
  (1168, oc 164 ([vb 0, vi 0, vb 0, vi 0])),
  (1236, oc 5 (vb 0 :: vb 9 :: vb 0 :: vb 9 :: vb 124 :: vb 31 :: vb 240 :: vb 129 :: vb 183 :: vb 199 :: vb 120 :: vb 187 :: vb 10 :: vb 0 :: vb 0 :: vb 60 :: vb 124 :: vb 31 :: vb 240 :: vb 129 :: vb 137 :: vb 2 :: vb 92 :: vb 193 :: vb 58 :: vb 150 :: vb 158 :: vb 84 :: vb 101 :: vb 142 :: vb 236 :: vb 103 :: vb 0 :: vb 0 :: vb 11 :: vb 184 :: vb 0 :: vb 4 :: vb 0 :: vb 9 :: rp 19 (vb 0) (vb 1 :: rp 3 (vb 0) (vb 1 :: vb 244 :: vb 7 :: vb 233 :: vb 146 :: vb 14 :: vb 78 :: vb 104 :: vb 30 :: [])))),
  (1238, oc 56 ([vw 1, vw 2, vs 1236 0 72 72])),
  (1331, oc 25 ([vw 2])),
  (1332, .map #[⟨vi 11, vi 0, 0⟩] 1),
  (1333, oc 411 ([vs 1405 0 1 1, vm 1332])),
  (1334, oc 146 (vs 1331 0 1 1 :: vh 9 :: vt :: vi 256 :: vh 4 :: vi 4000 :: vi 4000 :: vi 1000 :: vw 300 :: vw 100 :: vw 6000 :: vb 8 :: vb 3 :: vb 20 :: vw 3000 :: vw 6000 :: vq 77 :: vb 5 :: rp 15 (vb 0) (vw 2082467969 :: vw 982949460 :: vh 9 :: vb 3 :: vq 0 :: vw 2298633409 :: vw 1703865447 :: vw 3000 :: vh 4 :: vs 1338 0 1 1 :: vp 1342 0 :: vp 1355 0 :: vp 1362 0 :: vp 1369 0 :: vp 1333 0 :: v0 :: vi 3000 :: vi 0 :: vi 0 :: vw 0 :: v0 :: v0 :: []))),
  (1338, oc 25 ([vw 1])),
  (1342, oc 415 ([vs 1351 0 1 1, vi 0, vi 0, vi 20])),
  (1347, oc 485 ([vq 100, vq 6000, vq 300, vq 0, vq 0, vf])),
  (1348, oc 487 ([vi 256, vi 512, vi 65536, vi 0])),
  (1349, oc 419 ([vw 2, vw 1, vp 1347 0, vp 1348 0, vi 3, vi 0, vf, v0])),
  (1351, oc 360 ([vp 1349 0])),
  (1355, oc 214 (vi 256 :: vh 4 :: vi 4000 :: vi 4000 :: vi 1000 :: vw 300 :: vw 100 :: vw 6000 :: vb 8 :: vb 3 :: vb 20 :: vw 3000 :: vw 6000 :: vw 982949460 :: rp 16 (vh 0) (v0 :: vi 0 :: vi 0 :: []))),
  (1362, oc 244 ([vw 982949459, vw 982949460, v0, vf, vw 0])),
  (1363, .map #[] 0),
  (1364, oc 474 ([vw 1703865446, vm 1363, v0])),
  (1365, .map #[] 0),
  (1366, oc 247 ([vm 1365, vi 0])),
  (1367, .map #[] 0),
  (1368, .map #[] 0),
  (1369, oc 202 ([vh 4, vi 4000, vi 1000, vp 1364 0, vp 1366 0, vm 1367, vm 1368, v0, vi 0])),
  (1405, oc 359 ([vq 3300, vi 11])),
  (1406, oc 194 ([vi 1, vp 1334 0, v0, vs 1421 0 1 1, vf])),
  (1408, oc 191 ([vp 1406 0])),
  (1411, oc 32 ([vb 1, vi 1])),
  (1421, oc 257 ([vw 1, vh 9, vh 9])),
  (1426, oc 104 ([vb 9, vj 0, vb 0, vi 0, v0, vh 0, vh 0, vf, vw 0, v0, vf, vw 1, vw 2, vs 446 0 40 40, vi 0, vq 0, vi 0, vi 0, vh 0, vf, vw 0, v0, vb 0, vi 0, vb 9, vj 0, vb 0, vi 0, v0, vh 0, vh 0, vf, vw 0, v0, vf, vw 1, vw 2, vs 1236 0 72 72, vi 0, vq 0, vi 0, vi 0, vh 0, vf, vw 0, v0, vb 0, vi 0])),
  (1514, oc 5 ([vb 0, vb 9, vb 0, vb 9, vb 137, vb 2, vb 92, vb 193, vb 252, vb 37, vb 169, vb 15, vb 11, vb 0, vb 0, vb 4])),
  (1516, oc 56 ([vw 2, vw 1, vs 1514 0 16 16])),
  (1643, oc 32 ([vb 1, vi 1])),
  (1659, oc 257 ([vw 2, vh 9, vh 9])),
  (1775, oc 104 ([vb 1, vj 0, vb 1, vi 0, vs 145 0 1 1, vh 9, vh 0, vf, vw 0, v0, vt, vw 0, vw 0, v0, vi 0, vq 0, vi 0, vi 1, vh 0, vf, vw 0, v0, vb 0, vi 0, vb 9, vj 0, vb 0, vi 0, v0, vh 0, vh 0, vf, vw 0, v0, vf, vw 2, vw 1, vs 820 0 100 100, vi 0, vq 0, vi 0, vi 0, vh 0, vf, vw 0, v0, vb 0, vi 0, vb 9, vj 0, vb 0, vi 0, v0, vh 0, vh 0, vf, vw 0, v0, vf, vw 2, vw 1, vs 1514 0 16 16, vi 0, vq 0, vi 0, vi 0, vh 0, vf, vw 0, v0, vb 0, vi 0, vb 11, vi 0, vb 1, vi 1, vs 145 0 1 1, vh 9, vh 0, vf, vw 0, v0, vt, vw 0, vw 0, v0, vi 1, vq 0, vi 0, vi 1, vh 0, vf, vw 0, v0, vb 0, vi 0])),
  (1777, oc 176 ([vi 0, vi 1])),
  (1798, oc 34 ([vi 0, vi 1, vh 0, vf, vw 0, v0, vb 0, vi 0])),
  (1800, oc 178 ([vi 0, vf, vi 0, vt]))]⟩
theorem fc8ok : CkOk Tryz.prog fc8 := ckOk_of (N := 200000) fcS7ok (by kernel_rfl) (by kernel_rfl)
noncomputable def fcS8 : Summ := ckS fc8 (fcS7)
theorem fcS8ok : SOk Tryz.prog fcS8 := ckS_ok fcS7ok fc8ok
def fc9 : Ck := ⟨13, 1936, [vp 15 0, .agg #[vb 2, vb 0, vi 0, vi 0, vb 0, vi 0, v0, vh 0, vh 0, vf, vw 0, v0, vf, vw 0, vw 0, v0]],
  [(13, oc 154 ([vs 1923 0 9 9])),
  (14, oc 123 ([vi 256, vs 398 0 0 1])),
  (15, oc 75 (vs 20 0 1 1 :: vh 9 :: vt :: vi 256 :: vh 4 :: vi 4000 :: vi 4000 :: vi 1000 :: vw 300 :: vw 100 :: vw 6000 :: vb 8 :: vb 3 :: vb 20 :: vw 3000 :: vw 6000 :: vq 1 :: rp 16 (vb 0) (vs 78 0 1 1 :: vh 9 :: vt :: vi 256 :: vh 4 :: vi 4000 :: vi 4000 :: vi 1000 :: vw 300 :: vw 100 :: vw 6000 :: vb 8 :: vb 3 :: vb 20 :: vw 3000 :: vw 6000 :: vq 77 :: vb 5 :: rp 15 (vb 0) (vp 13 0 :: vp 14 0 :: vp 62 0 :: vp 120 0 :: vq 9001 :: vs 1916 0 3 3 :: vs 1775 0 4 4 :: vs 1426 0 2 2 :: vs 1918 0 4 4 :: vs 1777 0 1 1 :: [])))),
  (16, oc 22 ([vp 15 0])),
  (17, oc 3 ([vi 0])),
  (20, oc 25 ([vw 1])),
  (27, oc 252 ([vs 51 0 8 8])),
  (28, .map #[] 0),
  (31, .map #[] 0),
  (34, .map #[] 0),
  (37, .map #[] 0),
  (40, .map #[] 0),
  (43, .map #[] 0),
  (46, .map #[] 0),
  (49, .map #[⟨.agg #[vw 2, vh 9, vh 9], vi 1, 2⟩] 3),
  (51, oc 253 ([vm 28, vm 31, vm 34, vm 37, vm 40, vm 43, vm 46, vm 49])),
  (53, oc 25 ([vw 1])),
  (55, .map #[⟨vw 2298633409, vi 1, 0⟩] 1),
  (56, oc 190 (vs 53 0 1 1 :: vh 9 :: vt :: vi 256 :: vh 4 :: vi 4000 :: vi 4000 :: vi 1000 :: vw 300 :: vw 100 :: vw 6000 :: vb 8 :: vb 3 :: vb 20 :: vw 3000 :: vw 6000 :: vq 1 :: rp 16 (vb 0) (vp 251 0 :: vp 27 0 :: vs 333 0 1 1 :: vi 1 :: vm 55 :: vf :: v0 :: vs 1643 0 1 1 :: []))),
  (57, .map #[] 15),
  (58, .map #[] 0),
  (59, .map #[] 0),
  (60, .map #[⟨vi 6, vs 1168 0 0 2, 0⟩, ⟨vi 2, vs 383 0 0 1, 1⟩, ⟨vi 0, vs 863 0 0 2, 2⟩] 3),
  (61, oc 224 ([vm 57, vm 58, vm 59, vm 60])),
  (62, oc 161 ([vp 56 0, vp 61 0, vp 13 0, .func (.func 35) #[vp 15 0] #[], .func (.func 36) #[] #[vp 16 0], .func (.func 38) #[] #[vp 16 0, vp 17 0], .func (.func 40) #[vp 15 0] #[], vs 1516 3 0 0, v0, vi 0, vi 1, vi 2, v0])),
  (63, oc 166 ([vp 62 0, vi 0, vi 0, vw 2, vw 1, vs 1514 0 16 16, vi 1, vb 1, vi 7])),
  (64, oc 169 ([vp 62 0, vi 1, vi 0, vi 0])),
  (65, oc 172 ([vp 62 0, vi 2, vi 0])),
  (66, oc 131 ([.func (.func 70) #[vp 63 0] #[], vb 2, vf, vf, vq 13])),
  (69, oc 131 ([.func (.func 71) #[vp 64 0] #[], vb 1, vf, vf, vq 4])),
  (72, oc 131 ([.func (.func 72) #[vp 65 0] #[], vb 2, vf, vf, vq 10])),
  (75, oc 3 ([vi 1])),
  (78, oc 25 ([vw 2])),
  (85, oc 252 ([vs 109 0 8 8])),
  (86, .map #[⟨.agg #[vw 1, vh 9, vh 9], vi 1, 0⟩] 1),
  (89, .map #[] 0),
  (92, .map #[] 0),
  (95, .map #[] 0),
  (98, .map #[] 0),
  (101, .map #[] 0),
  (104, .map #[] 0),
  (107, .map #[] 0),
  (109, oc 253 ([vm 86, vm 89, vm 92, vm 95, vm 98, vm 101, vm 104, vm 107])),
  (111, oc 25 ([vw 2])),
  (112, oc 255 ([vq 4354685564936845431])),
  (113, .map #[⟨vw 2082467969, vi 1, 0⟩] 1),
  (114, oc 190 (vs 111 0 1 1 :: vh 9 :: vt :: vi 256 :: vh 4 :: vi 4000 :: vi 4000 :: vi 1000 :: vw 300 :: vw 100 :: vw 6000 :: vb 8 :: vb 3 :: vb 20 :: vw 3000 :: vw 6000 :: vq 77 :: vb 5 :: rp 15 (vb 0) (vp 112 0 :: vp 85 0 :: vs 1408 0 1 1 :: vi 1 :: vm 113 :: vf :: v0 :: vs 1411 0 1 1 :: []))),
  (115, .map #[] 4),
  (116, .map #[] 0),
  (117, .map #[] 0),
  (118, .map #[⟨vi 3, vs 469 0 0 1, 0⟩, ⟨vi 5, vs 776 0 0 1, 1⟩] 2),
  (119, oc 224 ([vm 115, vm 116, vm 117, vm 118])),
  (120, oc 161 ([vp 114 0, vp 119 0, vp 13 0, .func (.func 35) #[vp 15 0] #[], .func (.func 36) #[] #[vp 16 0], .func (.func 38) #[] #[vp 16 0, vp 75 0], .func (.func 40) #[vp 15 0] #[], vs 1238 3 0 0, v0, vi 3, vi 4, vi 5, v0])),
  (121, oc 166 ([vp 120 0, vi 3, vi 0, vw 1, vw 2, vs 1236 0 72 72, vi 0, vb 1, vi 0])),
  (122, oc 169 ([vp 120 0, vi 4, vi 0, vi 0])),
  (123, oc 172 ([vp 120 0, vi 5, vi 0])),
  (124, oc 131 ([.func (.func 70) #[vp 121 0] #[], vb 2, vf, vf, vq 9])),
  (127, oc 131 ([.func (.func 71) #[vp 122 0] #[], vb 1, vf, vf, vq 3])),
  (130, oc 131 ([.func (.func 72) #[vp 123 0] #[], vb 2, vf, vf, vq 9])),
  (137, oc 25 ([vw 2])),
  (138, oc 62 ([vi 0, vb 1, vi 0, vs 137 0 1 1, vh 9, vh 0, vf, vw 0, v0, vt, vi 6, vs 1798 0 1 1])),
  (145, oc 25 ([vw 2])),
  (146, oc 236 (vp 62 0 :: vi 6 :: vi 0 :: vb 1 :: vi 1 :: vs 145 0 1 1 :: vh 9 :: vh 0 :: vf :: vw 0 :: v0 :: vt :: vi 6 :: rp 3 (vt) (vi 0 :: vi 1 :: vh 0 :: vf :: vw 0 :: v0 :: vb 0 :: vi 0 :: []))),
  (147, oc 131 ([.func (.func 100) #[vp 146 0] #[], vb 3, vf, vf, vq 15])),
  (251, oc 255 ([vq 4354685564936845355])),
  (258, oc 25 ([vw 1])),
  (259, .map #[⟨vi 11, vi 0, 2⟩] 3),
  (260, oc 411 ([vs 328 0 1 1, vm 259])),
  (261, oc 146 (vs 258 0 1 1 :: vh 9 :: vt :: vi 256 :: vh 4 :: vi 4000 :: vi 4000 :: vi 1000 :: vw 300 :: vw 100 :: vw 6000 :: vb 8 :: vb 3 :: vb 20 :: vw 3000 :: vw 6000 :: vq 1 :: rp 16 (vb 0) (vw 2298633409 :: vw 1703865447 :: vh 9 :: vb 3 :: vq 0 :: vw 2082467969 :: vw 982949460 :: vw 3000 :: vh 4 :: vs 961 0 1 1 :: vp 967 0 :: vp 980 0 :: vp 987 0 :: vp 994 0 :: vp 260 0 :: vs 996 0 56 56 :: vi 3000 :: vi 0 :: vi 0 :: vw 0 :: v0 :: v0 :: []))),
  (328, oc 359 ([vq 3300, vi 11])),
  (330, oc 25 ([vw 2])),
  (331, oc 194 ([vi 1, vp 261 0, vs 330 0 1 1, vs 1659 0 1 1, vf])),
  (333, oc 191 ([vp 331 0])),
  (383, oc 164 ([vb 0, vi 0])),
  (398, oc 119 ([vw 0, vw 0, v0, vq 0])),
  (446, oc 5 (vb 0 :: vb 9 :: vb 0 :: vb 9 :: rp 4 (vb 0) (vb 188 :: vb 79 :: vb 7 :: vb 224 :: vb 1 :: vb 0 :: vb 0 :: vb 28 :: vb 137 :: vb 2 :: vb 92 :: vb 193 :: vb 0 :: vb 0 :: vb 11 :: vb 184 :: vb 0 :: vb 4 :: vb 0 :: vb 4 :: vb 101 :: vb 142 :: vb 236 :: vb 103 :: vb 0 :: vb 5 :: vb 0 :: vb 8 :: rp 3 (vb 0) (vb 1 :: [])))),
  (469, oc 164 ([vb 0, vi 0])),
  (776, oc 164 ([vb 0, vi 0])),
  (820, oc 5 (vb 0 :: vb 9 :: vb 0 :: vb 9 :: vb 137 :: vb 2 :: vb 92 :: vb 193 :: vb 213 :: vb 106 :: vb 0 :: vb 220 :: vb 2 :: vb 0 :: vb 0 :: vb 88 :: vb 124 :: vb 31 :: vb 240 :: vb 129 :: vb 0 :: vb 0 :: vb 11 :: vb 184 :: vb 0 :: vb 4 :: vb 0 :: vb 4 :: vb 58 :: vb 150 :: vb 158 :: vb 84 :: vb 0 :: vb 5 :: vb 0 :: vb 8 :: rp 3 (vb 0) (vb 2 :: vb 0 :: vb 7 :: vb 0 :: vb 60 :: vb 124 :: vb 31 :: vb 240 :: vb 129 :: vb 137 :: vb 2 :: vb 92 :: vb 193 :: vb 58 :: vb 150 :: vb 158 :: vb 84 :: vb 101 :: vb 142 :: vb 236 :: vb 103 :: vb 0 :: vb 0 :: vb 11 :: vb 184 :: vb 0 :: vb 4 :: vb 0 :: vb 9 :: rp 19 (vb 0) (vb 1 :: rp 3 (vb 0) (vb 1 :: vb 244 :: vb 7 :: vb 233 :: vb 146 :: vb 14 :: vb 78 :: vb 104 :: vb 30 :: []))))),
  (863, oc 164 ([vb 0, vi 0, vb 0, vi 0])),
  (961, oc 25 ([vw 2])),
  (967, oc 415 ([vs 976 0 1 1, vi 0, vi 0, vi 20])),
  (972, oc 485 ([vq 100, vq 6000, vq 300, vq 0, vq 0, vf])),
  (973, oc 487 ([vi 256, vi 512, vi 65536, vi 0])),
  (974, oc 419 ([vw 1, vw 2, vp 972 0, vp 973 0, vi 3, vi 0, vf, v0])),
  (976, oc 360 ([vp 974 0])),
  (980, oc 214 (vi 256 :: vh 4 :: vi 4000 :: vi 4000 :: vi 1000 :: vw 300 :: vw 100 :: vw 6000 :: vb 8 :: vb 3 :: vb 20 :: vw 3000 :: vw 6000 :: vw 1703865447 :: rp 16 (vh 0) (v0 :: vi 0 :: vi 0 :: []))),
  (987, oc 244 ([vw 1703865446, vw 1703865447, v0, vf, vw 0])),
  (988, .map #[] 0),
  (989, oc 474 ([vw 982949459, vm 988, v0])),
  (990, .map #[] 0),
  (991, oc 247 ([vm 990, vi 0])),
  (992, .map #[] 0),
  (993, .map #[] 0),
  (994, oc 202 ([vh 4, vi 4000, vi 1000, vp 989 0, vp 991 0, vm 992, vm 993, v0, vi 0])),
  (996, oc 5 (vb 124 :: vb 31 :: vb 240 :: vb 129 :: vb 137 :: vb 2 :: vb 92 :: vb 193 :: vb 58 :: vb 150 :: vb 158 :: vb 84 :: vb 101 :: vb 142 :: vb 236 :: vb 103 :: vb 0 :: vb 0 :: vb 11 :: vb 184 :: vb 0 :: vb 4 :: vb 0 :: vb 9 :: rp 19 (vb 0) (vb 1 :: rp 3 (vb 0) (vb 1 :: vb 244 :: vb 7 :: vb 233 :: vb 146 :: vb 14 :: vb 78 :: vb 104 :: vb 30 :: [])))),
  (1168, oc 164 ([vb 0, vi 0, vb 0, vi 0])),
  (1236, oc 5 (vb 0 :: vb 9 :: vb 0 :: vb 9 :: vb 124 :: vb 31 :: vb 240 :: vb 129 :: vb 183 :: vb 199 :: vb 120 :: vb 187 :: vb 10 :: vb 0 :: vb 0 :: vb 60 :: vb 124 :: vb 31 :: vb 240 :: vb 129 :: vb 137 :: vb 2 :: vb 92 :: vb 193 :: vb 58 :: vb 150 :: vb 158 :: vb 84 :: vb 101 :: vb 142 :: vb 236 :: vb 103 :: vb 0 :: vb 0 :: vb 11 :: vb 184 :: vb 0 :: vb 4 :: vb 0 :: vb 9 :: rp 19 (vb 0) (vb 1 :: rp 3 (vb 0) (vb 1 :: vb 244 :: vb 7 :: vb 233 :: vb 146 :: vb 14 :: vb 78 :: vb 104 :: vb 30 :: [])))),
  (1238, oc 56 ([vw 1, vw 2, vs 1236 0 72 72])),
  (1331, oc 25 ([vw 2])),
  (1332, .map #[⟨vi 11, vi 0, 0⟩] 1),
  (1333, oc 411 ([vs 1405 0 1 1, vm 1332])),
  (1334, oc 146 (vs 1331 0 1 1 :: vh 9 :: vt :: vi 256 :: vh 4 :: vi 4000 :: vi 4000 :: vi 1000 :: vw 300 :: vw 100 :: vw 6000 :: vb 8 :: vb 3 :: vb 20 :: vw 3000 :: vw 6000 :: vq 77 :: vb 5 :: rp 15 (vb 0) (vw 2082467969 :: vw 982949460 :: vh 9 :: vb 3 :: vq 0 :: vw 2298633409 :: vw 1703865447 :: vw 3000 :: vh 4 :: vs 1338 0 1 1 :: vp 1342 0 :: vp 1355 0 :: vp 1362 0 :: vp 1369 0 :: vp 1333 0 :: v0 :: vi 3000 :: vi 0 :: vi 0 :: vw 0 :: v0 :: v0 :: []))),
  (1338, oc 25 ([vw 1])),
  (1342, oc 415 ([vs 1351 0 1 1, vi 0, vi 0, vi 20])),
  (1347, oc 485 ([vq 100, vq 6000, vq 300, vq 0, vq 0, vf])),
  (1348, oc 487 ([vi 256, vi 512, vi 65536, vi 0])),
  (1349, oc 419 ([vw 2, vw 1, vp 1347 0, vp 1348 0, vi 3, vi 0, vf, v0])),
  (1351, oc 360 ([vp 1349 0])),
  (1355, oc 214 (vi 256 :: vh 4 :: vi 4000 :: vi 4000 :: vi 1000 :: vw 300 :: vw 100 :: vw 6000 :: vb 8 :: vb 3 :: vb 20 :: vw 3000 :: vw 6000 :: vw 982949460 :: rp 16 (vh 0) (v0 :: vi 0 :: vi 0 :: []))),
  (1362, oc 244 ([vw 982949459, vw 982949460, v0, vf, vw 0])),
  (1363, .map #[] 0),
  (1364, oc 474 ([vw 1703865446, vm 1363, v0])),
  (1365, .map #[] 0),
  (1366, oc 247 ([vm 1365, vi 0])),
  (1367, .map #[] 0),
  (1368, .map #[] 0),
  (1369, oc 202 ([vh 4, vi 4000, vi 1000, vp 1364 0, vp 1366 0, vm 1367, vm 1368, v0, vi 0])),
  (1405, oc 359 ([vq 3300, vi 11])),
  (1406, oc 194 ([vi 1, vp 1334 0, v0, vs 1421 0 1 1, vf])),
  (1408, oc 191 ([vp 1406 0])),
  (1411, oc 32 ([vb 1, vi 1])),
  (1421, oc 257 ([vw 1, vh 9, vh 9])),
  (1426, oc 104 ([vb 9, vj 0, vb 0, vi 0, v0, vh 0, vh 0, vf, vw 0, v0, vf, vw 1, vw 2, vs 446 0 40 40, vi 0, vq 0, vi 0, vi 0, vh 0, vf, vw 0, v0, vb 0, vi 0, vb 9, vj 0, vb 0, vi 0, v0, vh 0, vh 0, vf, vw 0, v0, vf, vw 1, vw 2, vs 1236 0 72 72, vi 0, vq 0, vi 0, vi 0, vh 0, vf, vw 0, v0, vb 0, vi 0])),
  (1514, oc 5 ([vb 0, vb 9, vb 0, vb 9, vb 137, vb 2, vb 92, vb 193, vb 252, vb 37, vb 169, vb 15, vb 11, vb 0, vb 0, vb 4])),
  (1516, oc 56 ([vw 2, vw 1, vs 1514 0 16 16])),
  (1643, oc 32 ([vb 1, vi 1])),
  (1659, oc 257 ([vw 2, vh 9, vh 9])),
  (1775, oc 104 ([vb 1, vj 0, vb 1, vi 0, vs 145 0 1 1, vh 9, vh 0, vf, vw 0, v0, vt, vw 0, vw 0, v0, vi 0, vq 0, vi 0, vi 1, vh 0, vf, vw 0, v0, vb 0, vi 0, vb 9, vj 0, vb 0, vi 0, v0, vh 0, vh 0, vf, vw 0, v0, vf, vw 2, vw 1, vs 820 0 100 100, vi 0, vq 0, vi 0, vi 0, vh 0, vf, vw 0, v0, vb 0, vi 0, vb 9, vj 0, vb 0, vi 0, v0, vh 0, vh 0, vf, vw 0, v0, vf, vw 2, vw 1, vs 1514 0 16 16, vi 0, vq 0, vi 0, vi 0, vh 0, vf, vw 0, v0, vb 0, vi 0, vb 11, vi 0, vb 1, vi 1, vs 145 0 1 1, vh 9, vh 0, vf, vw 0, v0, vt, vw 0, vw 0, v0, vi 1, vq 0, vi 0, vi 1, vh 0, vf, vw 0, v0, vb 0, vi 0])),
  (1777, oc 176 ([vi 0, vi 1])),
  (1798, oc 34 ([vi 0, vi 1, vh 0, vf, vw 0, v0, vb 0, vi 0])),
  (1899, oc 5 ([vb 97, vb 98, vb 99])),
  (1900, oc 62 ([vi 0, vb 2, vi 1, v0, vh 0, vh 0, vf, vw 0, vs 1899 0 3 3, vf, vi 7, v0])),
  (1907, oc 5 ([vb 97, vb 98, vb 99])),
  (1908, oc 236 (vp 62 0 :: vi 7 :: vi 1 :: vb 2 :: vi 1 :: v0 :: vh 0 :: vh 0 :: vf :: vw 0 :: vs 1907 0 3 3 :: vf :: vi 0 :: rp 3 (vf) (vi 0 :: vi 0 :: vh 0 :: vf :: vw 0 :: v0 :: vb 0 :: vi 0 :: []))),
  (1909, oc 131 ([.func (.func 100) #[vp 1908 0] #[], vb 1, vf, vf, vq 0])),
  (1914, oc 62 ([vi 1, vb 3, vi 1, v0, vh 0, vh 0, vf, vw 0, v0, vt, vi 8, v0])),
  (1916, oc 63 ([vp 138 0, vp 1900 0, vp 1914 0])),
  (1918, oc 178 ([vi 0, vf, vi 0, vt, vi 1, vf, vi 2, vf])),
  (1920, oc 236 (vp 120 0 :: vi 8 :: vi 2 :: vb 3 :: vi 1 :: v0 :: vh 0 :: vh 0 :: vf :: vw 0 :: v0 :: vt :: vi 0 :: rp 3 (vf) (vi 0 :: vi 0 :: vh 0 :: vf :: vw 0 :: v0 :: vb 0 :: vi 0 :: []))),
  (1921, oc 131 ([.func (.func 100) #[vp 1920 0] #[], vb 1, vf, vf, vq 0])),
  (1923, oc 127 ([vp 66 0, vp 69 0, vp 72 0, vp 124 0, vp 127 0, vp 130 0, vp 147 0, vp 1909 0, vp 1921 0]))],
  vt, 1954, [69, 64, 57, 60],
  [(57, .map #[⟨.agg #[vb 1, vi 1], vi 1, 15⟩] 16),
  (60, .map #[⟨vi 6, vs 1168 0 0 2, 0⟩, ⟨vi 2, vs 383 0 0 1, 1⟩, ⟨vi 0, vs 863 0 0 2, 2⟩, ⟨vi 1, vs 1953 0 1 1, 3⟩] 4),
  (64, oc 169 (vp 62 0 :: rp 3 (vi 1) [])),
  (69, oc 131 ([.func (.func 71) #[vp 64 0] #[], vb 1, vf, vf, vq 5])),
  (1953, oc 164 ([vb 1, vi 1]))]⟩
theorem fc9ok : CkOk Tryz.prog fc9 := ckOk_of (N := 200000) fcS8ok (by kernel_rfl) (by kernel_rfl)
noncomputable def fcS9 : Summ := ckS fc9 (fcS8)
theorem fcS9ok : SOk Tryz.prog fcS9 := ckS_ok fcS8ok fc9ok
def fc10 : Ck := ⟨13, 1973, [vp 15 0, .agg #[vb 2, vb 0, vi 0, vi 0, vb 0, vi 0, v0, vh 0, vh 0, vf, vw 0, v0, vf, vw 0, vw 0, v0]],
  [(13, oc 154 ([vs 1923 0 9 9])),
  (14, oc 123 ([vi 256, vs 398 0 0 1])),
  (15, oc 75 (vs 20 0 1 1 :: vh 9 :: vt :: vi 256 :: vh 4 :: vi 4000 :: vi 4000 :: vi 1000 :: vw 300 :: vw 100 :: vw 6000 :: vb 8 :: vb 3 :: vb 20 :: vw 3000 :: vw 6000 :: vq 1 :: rp 16 (vb 0) (vs 78 0 1 1 :: vh 9 :: vt :: vi 256 :: vh 4 :: vi 4000 :: vi 4000 :: vi 1000 :: vw 300 :: vw 100 :: vw 6000 :: vb 8 :: vb 3 :: vb 20 :: vw 3000 :: vw 6000 :: vq 77 :: vb 5 :: rp 15 (vb 0) (vp 13 0 :: vp 14 0 :: vp 62 0 :: vp 120 0 :: vq 9001 :: vs 1916 0 3 3 :: vs 1775 0 4 4 :: vs 1426 0 2 2 :: vs 1918 0 4 4 :: vs 1777 0 1 1 :: [])))),
  (16, oc 22 ([vp 15 0])),
  (17, oc 3 ([vi 0])),
  (20, oc 25 ([vw 1])),
  (27, oc 252 ([vs 51 0 8 8])),
  (28, .map #[] 0),
  (31, .map #[] 0),
  (34, .map #[] 0),
  (37, .map #[] 0),
  (40, .map #[] 0),
  (43, .map #[] 0),
  (46, .map #[] 0),
  (49, .map #[⟨.agg #[vw 2, vh 9, vh 9], vi 1, 2⟩] 3),
  (51, oc 253 ([vm 28, vm 31, vm 34, vm 37, vm 40, vm 43, vm 46, vm 49])),
  (53, oc 25 ([vw 1])),
  (55, .map #[⟨vw 2298633409, vi 1, 0⟩] 1),
  (56, oc 190 (vs 53 0 1 1 :: vh 9 :: vt :: vi 256 :: vh 4 :: vi 4000 :: vi 4000 :: vi 1000 :: vw 300 :: vw 100 :: vw 6000 :: vb 8 :: vb 3 :: vb 20 :: vw 3000 :: vw 6000 :: vq 1 :: rp 16 (vb 0) (vp 251 0 :: vp 27 0 :: vs 333 0 1 1 :: vi 1 :: vm 55 :: vf :: v0 :: vs 1643 0 1 1 :: []))),
  (57, .map #[⟨.agg #[vb 1, vi 1], vi 1, 15⟩, ⟨.agg #[vb 2, vi 1], vi 1, 16⟩] 17),
  (58, .map #[] 0),
  (59, .map #[] 0),
  (60, .map #[⟨vi 6, vs 1168 0 0 2, 0⟩, ⟨vi 2, vs 383 0 0 1, 1⟩, ⟨vi 0, vs 863 0 0 2, 2⟩, ⟨vi 1, vs 1972 0 2 2, 3⟩] 4),
  (61, oc 224 ([vm 57, vm 58, vm 59, vm 60])),
  (62, oc 161 ([vp 56 0, vp 61 0, vp 13 0, .func (.func 35) #[vp 15 0] #[], .func (.func 36) #[] #[vp 16 0], .func (.func 38) #[] #[vp 16 0, vp 17 0], .func (.func 40) #[vp 15 0] #[], vs 1516 3 0 0, v0, vi 0, vi 1, vi 2, v0])),
  (63, oc 166 ([vp 62 0, vi 0, vi 0, vw 2, vw 1, vs 1514 0 16 16, vi 1, vb 1, vi 7])),
  (64, oc 169 ([vp 62 0, vi 1, vi 2, vi 1])),
  (65, oc 172 ([vp 62 0, vi 2, vi 0])),
  (66, oc 131 ([.func (.func 70) #[vp 63 0] #[], vb 2, vf, vf, vq 13])),
  (69, oc 131 ([.func (.func 71) #[vp 64 0] #[], vb 1, vf, vf, vq 6])),
  (72, oc 131 ([.func (.func 72) #[vp 65 0] #[], vb 2, vf, vf, vq 10])),
  (75, oc 3 ([vi 1])),
  (78, oc 25 ([vw 2])),
  (85, oc 252 ([vs 109 0 8 8])),
  (86, .map #[⟨.agg #[vw 1, vh 9, vh 9], vi 1, 0⟩] 1),
  (89, .map #[] 0),
  (92, .map #[] 0),
  (95, .map #[] 0),
  (98, .map #[] 0),
  (101, .map #[] 0),
  (104, .map #[] 0),
  (107, .map #[] 0),
  (109, oc 253 ([vm 86, vm 89, vm 92, vm 95, vm 98, vm 101, vm 104, vm 107])),
  (111, oc 25 ([vw 2])),
  (112, oc 255 ([vq 4354685564936845431])),
  (113, .map #[⟨vw 2082467969, vi 1, 0⟩] 1),
  (114, oc 190 (vs 111 0 1 1 :: vh 9 :: vt :: vi 256 :: vh 4 :: vi 4000 :: vi 4000 :: vi 1000 :: vw 300 :: vw 100 :: vw 6000 :: vb 8 :: vb 3 :: vb 20 :: vw 3000 :: vw 6000 :: vq 77 :: vb 5 :: rp 15 (vb 0) (vp 112 0 :: vp 85 0 :: vs 1408 0 1 1 :: vi 1 :: vm 113 :: vf :: v0 :: vs 1411 0 1 1 :: []))),
  (115, .map #[] 4),
  (116, .map #[] 0),
  (117, .map #[] 0),
  (118, .map #[⟨vi 3, vs 469 0 0 1, 0⟩, ⟨vi 5, vs 776 0 0 1, 1⟩] 2),
  (119, oc 224 ([vm 115, vm 116, vm 117, vm 118])),
  (120, oc 161 ([vp 114 0, vp 119 0, vp 13 0, .func (.func 35) #[vp 15 0] #[], .func (.func 36) #[] #[vp 16 0], .func (.func 38) #[] #[vp 16 0, vp 75 0], .func (.func 40) #[vp 15 0] #[], vs 1238 3 0 0, v0, vi 3, vi 4, vi 5, v0])),
  (121, oc 166 ([vp 120 0, vi 3, vi 0, vw 1, vw 2, vs 1236 0 72 72, vi 0, vb 1, vi 0])),
  (122, oc 169 ([vp 120 0, vi 4, vi 0, vi 0])),
  (123, oc 172 ([vp 120 0, vi 5, vi 0])),
  (124, oc 131 ([.func (.func 70) #[vp 121 0] #[], vb 2, vf, vf, vq 9])),
  (127, oc 131 ([.func (.func 71) #[vp 122 0] #[], vb 1, vf, vf, vq 3])),
  (130, oc 131 ([.func (.func 72) #[vp 123 0] #[], vb 2, vf, vf, vq 9])),
  (137, oc 25 ([vw 2])),
  (138, oc 62 ([vi 0, vb 1, vi 0, vs 137 0 1 1, vh 9, vh 0, vf, vw 0, v0, vt, vi 6, vs 1798 0 1 1])),
  (145, oc 25 ([vw 2])),
  (146, oc 236 (vp 62 0 :: vi 6 :: vi 0 :: vb 1 :: vi 1 :: vs 145 0 1 1 :: vh 9 :: vh 0 :: vf :: vw 0 :: v0 :: vt :: vi 6 :: rp 3 (vt) (vi 0 :: vi 1 :: vh 0 :: vf :: vw 0 :: v0 :: vb 0 :: vi 0 :: []))),
  (147, oc 131 ([.func (.func 100) #[vp 146 0] #[], vb 3, vf, vf, vq 15])),
  (251, oc 255 ([vq 4354685564936845355])),
  (258, oc 25 ([vw 1])),
  (259, .map #[⟨vi 11, vi 0, 2⟩] 3),
  (260, oc 411 ([vs 328 0 1 1, vm 259])),
  (261, oc 146 (vs 258 0 1 1 :: vh 9 :: vt :: vi 256 :: vh 4 :: vi 4000 :: vi 4000 :: vi 1000 :: vw 300 :: vw 100 :: vw 6000 :: vb 8 :: vb 3 :: vb 20 :: vw 3000 :: vw 6000 :: vq 1 :: rp 16 (vb 0) (vw 2298633409 :: vw 1703865447 :: vh 9 :: vb 3 :: vq 0 :: vw 2082467969 :: vw 982949460 :: vw 3000 :: vh 4 :: vs 961 0 1 1 :: vp 967 0 :: vp 980 0 :: vp 987 0 :: vp 994 0 :: vp 260 0 :: vs 996 0 56 56 :: vi 3000 :: vi 0 :: vi 0 :: vw 0 :: v0 :: v0 :: []))),
  (328, oc 359 ([vq 3300, vi 11])),
  (330, oc 25 ([vw 2])),
  (331, oc 194 ([vi 1, vp 261 0, vs 330 0 1 1, vs 1659 0 1 1, vf])),
  (333, oc 191 ([vp 331 0])),
  (383, oc 164 ([vb 0, vi 0])),
  (398, oc 119 ([vw 0, vw 0, v0, vq 0])),
  (446, oc 5 (vb 0 :: vb 9 :: vb 0 :: vb 9 :: rp 4 (vb 0) (vb 188 :: vb 79 :: vb 7 :: vb 224 :: vb 1 :: vb 0 :: vb 0 :: vb 28 :: vb 137 :: vb 2 :: vb 92 :: vb 193 :: vb 0 :: vb 0 :: vb 11 :: vb 184 :: vb 0 :: vb 4 :: vb 0 :: vb 4 :: vb 101 :: vb 142 :: vb 236 :: vb 103 :: vb 0 :: vb 5 :: vb 0 :: vb 8 :: rp 3 (vb 0) (vb 1 :: [])))),
  (469, oc 164 ([vb 0, vi 0])),
  (776, oc 164 ([vb 0, vi 0])),
  (820, oc 5 (vb 0 :: vb 9 :: vb 0 :: vb 9 :: vb 137 :: vb 2 :: vb 92 :: vb 193 :: vb 213 :: vb 106 :: vb 0 :: vb 220 :: vb 2 :: vb 0 :: vb 0 :: vb 88 :: vb 124 :: vb 31 :: vb 240 :: vb 129 :: vb 0 :: vb 0 :: vb 11 :: vb 184 :: vb 0 :: vb 4 :: vb 0 :: vb 4 :: vb 58 :: vb 150 :: vb 158 :: vb 84 :: vb 0 :: vb 5 :: vb 0 :: vb 8 :: rp 3 (vb 0) (vb 2 :: vb 0 :: vb 7 :: vb 0 :: vb 60 :: vb 124 :: vb 31 :: vb 240 :: vb 129 :: vb 137 :: vb 2 :: vb 92 :: vb 193 :: vb 58 :: vb 150 :: vb 158 :: vb 84 :: vb 101 :: vb 142 :: vb 236 :: vb 103 :: vb 0 :: vb 0 :: vb 11 :: vb 184 :: vb 0 :: vb 4 :: vb 0 :: vb 9 :: rp 19 (vb 0) (vb 1 :: rp 3 (vb 0) (vb 1 :: vb 244 :: vb 7 :: vb 233 :: vb 146 :: vb 14 :: vb 78 :: vb 104 :: vb 30 :: []))))),
  (863, oc 164 ([vb 0, vi 0, vb 0, vi 0])),
  (961, oc 25 ([vw 2])),
  (967, oc 415 ([vs 976 0 1 1, vi 0, vi 0, vi 20])),
  (972, oc 485 ([vq 100, vq 6000, vq 300, vq 0, vq 0, vf])),
  (973, oc 487 ([vi 256, vi 512, vi 65536, vi 0])),
  (974, oc 419 ([vw 1, vw 2, vp 972 0, vp 973 0, vi 3, vi 0, vf, v0])),
  (976, oc 360 ([vp 974 0])),
  (980, oc 214 (vi 256 :: vh 4 :: vi 4000 :: vi 4000 :: vi 1000 :: vw 300 :: vw 100 :: vw 6000 :: vb 8 :: vb 3 :: vb 20 :: vw 3000 :: vw 6000 :: vw 1703865447 :: rp 16 (vh 0) (v0 :: vi 0 :: vi 0 :: []))),
  (987, oc 244 ([vw 1703865446, vw 1703865447, v0, vf, vw 0])),
  (988, .map #[] 0),
  (989, oc 474 ([vw 982949459, vm 988, v0])),
  (990, .map #[] 0),
  (991, oc 247 ([vm 990, vi 0])),
  (992, .map #[] 0),
  (993, .map #[] 0),
  (994, oc 202 ([vh 4, vi 4000, vi 1000, vp 989 0, vp 991 0, vm 992, vm 993, v0, vi 0])),
  (996, oc 5 (vb 124 :: vb 31 :: vb 240 :: vb 129 :: vb 137 :: vb 2 :: vb 92 :: vb 193 :: vb 58 :: vb 150 :: vb 158 :: vb 84 :: vb 101 :: vb 142 :: vb 236 :: vb 103 :: vb 0 :: vb 0 :: vb 11 :: vb 184 :: vb 0 :: vb 4 :: vb 0 :: vb 9 :: rp 19 (vb 0) (vb 1 :: rp 3 (vb 0) (vb 1 :: vb 244 :: vb 7 :: vb 233 :: vb 146 :: vb 14 :: vb 78 :: vb 104 :: vb 30 :: [])))),
  (1168, oc 164 ([vb 0, vi 0, vb 0, vi 0])),
  (1236, oc 5 (vb 0 :: vb 9 :: vb 0 :: vb 9 :: vb 124 :: vb 31 :: vb 240 :: vb 129 :: vb 183 :: vb 199 :: vb 120 :: vb 187 :: vb 10 :: vb 0 :: vb 0 :: vb 60 :: vb 124 :: vb 31 :: vb 240 :: vb 129 :: vb 137 :: vb 2 :: vb 92 :: vb 193 :: vb 58 :: vb 150 :: vb 158 :: vb 84 :: vb 101 :: vb 142 :: vb 236 :: vb 103 :: vb 0 :: vb 0 :: vb 11 :: vb 184 :: vb 0 :: vb 4 :: vb 0 :: vb 9 :: rp 19 (vb 0) (vb 1 :: rp 3 (vb 0) (vb 1 :: vb 244 :: vb 7 :: vb 233 :: vb 146 :: vb 14 :: vb 78 :: vb 104 :: vb 30 :: [])))),
  (1238, oc 56 ([vw 1, vw 2, vs 1236 0 72 72])),
  (1331, oc 25 ([vw 2])),
  (1332, .map #[⟨vi 11, vi 0, 0⟩] 1),
  (1333, oc 411 ([vs 1405 0 1 1, vm 1332])),
  (1334, oc 146 (vs 1331 0 1 1 :: vh 9 :: vt :: vi 256 :: vh 4 :: vi 4000 :: vi 4000 :: vi 1000 :: vw 300 :: vw 100 :: vw 6000 :: vb 8 :: vb 3 :: vb 20 :: vw 3000 :: vw 6000 :: vq 77 :: vb 5 :: rp 15 (vb 0) (vw 2082467969 :: vw 982949460 :: vh 9 :: vb 3 :: vq 0 :: vw 2298633409 :: vw 1703865447 :: vw 3000 :: vh 4 :: vs 1338 0 1 1 :: vp 1342 0 :: vp 1355 0 :: vp 1362 0 :: vp 1369 0 :: vp 1333 0 :: v0 :: vi 3000 :: vi 0 :: vi 0 :: vw 0 :: v0 :: v0 :: []))),
  (1338, oc 25 ([vw 1])),
  (1342, oc 415 ([vs 1351 0 1 1, vi 0, vi 0, vi 20])),
  (1347, oc 485 ([vq 100, vq 6000, vq 300, vq 0, vq 0, vf])),
  (1348, oc 487 ([vi 256, vi 512, vi 65536, vi 0])),
  (1349, oc 419 ([vw 2, vw 1, vp 1347 0, vp 1348 0, vi 3, vi 0, vf, v0])),
  (1351, oc 360 ([vp 1349 0])),
  (1355, oc 214 (vi 256 :: vh 4 :: vi 4000 :: vi 4000 :: vi 1000 :: vw 300 :: vw 100 :: vw 6000 :: vb 8 :: vb 3 :: vb 20 :: vw 3000 :: vw 6000 :: vw 982949460 :: rp 16 (vh 0) (v0 :: vi 0 :: vi 0 :: []))),
  (1362, oc 244 ([vw 982949459, vw 982949460, v0, vf, vw 0])),
  (1363, .map #[] 0),
  (1364, oc 474 ([vw 1703865446, vm 1363, v0])),
  (1365, .map #[] 0),
  (1366, oc 247 ([vm 1365, vi 0])),
  (1367, .map #[] 0),
  (1368, .map #[] 0),
  (1369, oc 202 ([vh 4, vi 4000, vi 1000, vp 1364 0, vp 1366 0, vm 1367, vm 1368, v0, vi 0])),
  (1405, oc 359 ([vq 3300, vi 11])),
  (1406, oc 194 ([vi 1, vp 1334 0, v0, vs 1421 0 1 1, vf])),
  (1408, oc 191 ([vp 1406 0])),
  (1411, oc 32 ([vb 1, vi 1])),
  (1421, oc 257 ([vw 1, vh 9, vh 9])),
  (1426, oc 104 ([vb 9, vj 0, vb 0, vi 0, v0, vh 0, vh 0, vf, vw 0, v0, vf, vw 1, vw 2, vs 446 0 40 40, vi 0, vq 0, vi 0, vi 0, vh 0, vf, vw 0, v0, vb 0, vi 0, vb 9, vj 0, vb 0, vi 0, v0, vh 0, vh 0, vf, vw 0, v0, vf, vw 1, vw 2, vs 1236 0 72 72, vi 0, vq 0, vi 0, vi 0, vh 0, vf, vw 0, v0, vb 0, vi 0])),
  (1514, oc 5 ([vb 0, vb 9, vb 0, vb 9, vb 137, vb 2, vb 92, vb 193, vb 252, vb 37, vb 169, vb 15, vb 11, vb 0, vb 0, vb 4])),
  (1516, oc 56 ([vw 2, vw 1, vs 1514 0 16 16])),
  (1643, oc 32 ([vb 1, vi 1])),
  (1659, oc 257 ([vw 2, vh 9, vh 9])),
  (1775, oc 104 ([vb 1, vj 0, vb 1, vi 0, vs 145 0 1 1, vh 9, vh 0, vf, vw 0, v0, vt, vw 0, vw 0, v0, vi 0, vq 0, vi 0, vi 1, vh 0, vf, vw 0, v0, vb 0, vi 0, vb 9, vj 0, vb 0, vi 0, v0, vh 0, vh 0, vf, vw 0, v0, vf, vw 2, vw 1, vs 820 0 100 100, vi 0, vq 0, vi 0, vi 0, vh 0, vf, vw 0, v0, vb 0, vi 0, vb 9, vj 0, vb 0, vi 0, v0, vh 0, vh 0, vf, vw 0, v0, vf, vw 2, vw 1, vs 1514 0 16 16, vi 0, vq 0, vi 0, vi 0, vh 0, vf, vw 0, v0, vb 0, vi 0, vb 11, vi 0, vb 1, vi 1, vs 145 0 1 1, vh 9, vh 0, vf, vw 0, v0, vt, vw 0, vw 0, v0, vi 1, vq 0, vi 0, vi 1, vh 0, vf, vw 0, v0, vb 0, vi 0])),
  (1777, oc 176 ([vi 0, vi 1])),
  (1798, oc 34 ([vi 0, vi 1, vh 0, vf, vw 0, v0, vb 0, vi 0])),
  (1899, oc 5 ([vb 97, vb 98, vb 99])),
  (1900, oc 62 ([vi 0, vb 2, vi 1, v0, vh 0, vh 0, vf, vw 0, vs 1899 0 3 3, vf, vi 7, v0])),
  (1907, oc 5 ([vb 97, vb 98, vb 99])),
  (1908, oc 236 (vp 62 0 :: vi 7 :: vi 1 :: vb 2 :: vi 1 :: v0 :: vh 0 :: vh 0 :: vf :: vw 0 :: vs 1907 0 3 3 :: vf :: vi 0 :: rp 3 (vf) (vi 0 :: vi 0 :: vh 0 :: vf :: vw 0 :: v0 :: vb 0 :: vi 0 :: []))),
  (1909, oc 131 ([.func (.func 100) #[vp 1908 0] #[], vb 1, vf, vf, vq 0])),
  (1914, oc 62 ([vi 1, vb 3, vi 1, v0, vh 0, vh 0, vf, vw 0, v0, vt, vi 8, v0])),
  (1916, oc 63 ([vp 138 0, vp 1900 0, vp 1914 0])),
  (1918, oc 178 ([vi 0, vf, vi 0, vt, vi 1, vf, vi 2, vf])),
  (1920, oc 236 (vp 120 0 :: vi 8 :: vi 2 :: vb 3 :: vi 1 :: v0 :: vh 0 :: vh 0 :: vf :: vw 0 :: v0 :: vt :: vi 0 :: rp 3 (vf) (vi 0 :: vi 0 :: vh 0 :: vf :: vw 0 :: v0 :: vb 0 :: vi 0 :: []))),
  (1921, oc 131 ([.func (.func 100) #[vp 1920 0] #[], vb 1, vf, vf, vq 0])),
  (1923, oc 127 ([vp 66 0, vp 69 0, vp 72 0, vp 124 0, vp 127 0, vp 130 0, vp 147 0, vp 1909 0, vp 1921 0])),
  (1972, oc 164 ([vb 1, vi 1, vb 2, vi 1]))],
  vt, 1999, [69, 64, 57, 1972, 60],
  [(57, .map #[⟨.agg #[vb 2, vi 1], vi 1, 16⟩, ⟨.agg #[vb 3, vi 1], vi 1, 17⟩] 18),
  (60, .map #[⟨vi 6, vs 1168 0 0 2, 0⟩, ⟨vi 2, vs 383 0 0 1, 1⟩, ⟨vi 0, vs 863 0 0 2, 2⟩, ⟨vi 1, vs 1972 0 2 2, 3⟩] 4),
  (64, oc 169 ([vp 62 0, vi 1, vi 3, vi 1])),
  (69, oc 131 ([.func (.func 71) #[vp 64 0] #[], vb 1, vf, vf, vq 7])),
  (1972, oc 164 ([vb 2, vi 1, vb 3, vi 1]))]⟩
theorem fc10ok : CkOk Tryz.prog fc10 := ckOk_of (N := 200000) fcS9ok (by kernel_rfl) (by kernel_rfl)
noncomputable def fcS10 : Summ := ckS fc10 (fcS9)
theorem fcS10ok : SOk Tryz.prog fcS10 := ckS_ok fcS9ok fc10ok
def fc11 : Ck := ⟨13, 1999, [vp 15 0, .agg #[vb 2, vb 0, vi 0, vi 0, vb 0, vi 0, v0, vh 0, vh 0, vf, vw 0, v0, vf, vw 0, vw 0, v0]],
  [(13, oc 154 ([vs 1923 0 9 9])),
  (14, oc 123 ([vi 256, vs 398 0 0 1])),
  (15, oc 75 (vs 20 0 1 1 :: vh 9 :: vt :: vi 256 :: vh 4 :: vi 4000 :: vi 4000 :: vi 1000 :: vw 300 :: vw 100 :: vw 6000 :: vb 8 :: vb 3 :: vb 20 :: vw 3000 :: vw 6000 :: vq 1 :: rp 16 (vb 0) (vs 78 0 1 1 :: vh 9 :: vt :: vi 256 :: vh 4 :: vi 4000 :: vi 4000 :: vi 1000 :: vw 300 :: vw 100 :: vw 6000 :: vb 8 :: vb 3 :: vb 20 :: vw 3000 :: vw 6000 :: vq 77 :: vb 5 :: rp 15 (vb 0) (vp 13 0 :: vp 14 0 :: vp 62 0 :: vp 120 0 :: vq 9001 :: vs 1916 0 3 3 :: vs 1775 0 4 4 :: vs 1426 0 2 2 :: vs 1918 0 4 4 :: vs 1777 0 1 1 :: [])))),
  (16, oc 22 ([vp 15 0])),
  (17, oc 3 ([vi 0])),
  (20, oc 25 ([vw 1])),
  (27, oc 252 ([vs 51 0 8 8])),
  (28, .map #[] 0),
  (31, .map #[] 0),
  (34, .map #[] 0),
  (37, .map #[] 0),
  (40, .map #[] 0),
  (43, .map #[] 0),
  (46, .map #[] 0),
  (49, .map #[⟨.agg #[vw 2, vh 9, vh 9], vi 1, 2⟩] 3),
  (51, oc 253 ([vm 28, vm 31, vm 34, vm 37, vm 40, vm 43, vm 46, vm 49])),
  (53, oc 25 ([vw 1])),
  (55, .map #[⟨vw 2298633409, vi 1, 0⟩] 1),
  (56, oc 190 (vs 53 0 1 1 :: vh 9 :: vt :: vi 256 :: vh 4 :: vi 4000 :: vi 4000 :: vi 1000 :: vw 300 :: vw 100 :: vw 6000 :: vb 8 :: vb 3 :: vb 20 :: vw 3000 :: vw 6000 :: vq 1 :: rp 16 (vb 0) (vp 251 0 :: vp 27 0 :: vs 333 0 1 1 :: vi 1 :: vm 55 :: vf :: v0 :: vs 1643 0 1 1 :: []))),
  (57, .map #[⟨.agg #[vb 2, vi 1], vi 1, 16⟩, ⟨.agg #[vb 3, vi 1], vi 1, 17⟩] 18),
  (58, .map #[] 0),
  (59, .map #[] 0),
  (60, .map #[⟨vi 6, vs 1168 0 0 2, 0⟩, ⟨vi 2, vs 383 0 0 1, 1⟩, ⟨vi 0, vs 863 0 0 2, 2⟩, ⟨vi 1, vs 1972 0 2 2, 3⟩] 4),
  (61, oc 224 ([vm 57, vm 58, vm 59, vm 60])),
  (62, oc 161 ([vp 56 0, vp 61 0, vp 13 0, .func (.func 35) #[vp 15 0] #[], .func (.func 36) #[] #[vp 16 0], .func (.func 38) #[] #[vp 16 0, vp 17 0], .func (.func 40) #[vp 15 0] #[], vs 1516 3 0 0, v0, vi 0, vi 1, vi 2, v0])),
  (63, oc 166 ([vp 62 0, vi 0, vi 0, vw 2, vw 1, vs 1514 0 16 16, vi 1, vb 1, vi 7])),
  (64, oc 169 ([vp 62 0, vi 1, vi 3, vi 1])),
  (65, oc 172 ([vp 62 0, vi 2, vi 0])),
  (66, oc 131 ([.func (.func 70) #[vp 63 0] #[], vb 2, vf, vf, vq 13])),
  (69, oc 131 ([.func (.func 71) #[vp 64 0] #[], vb 1, vf, vf, vq 7])),
  (72, oc 131 ([.func (.func 72) #[vp 65 0] #[], vb 2, vf, vf, vq 10])),
  (75, oc 3 ([vi 1])),
  (78, oc 25 ([vw 2])),
  (85, oc 252 ([vs 109 0 8 8])),
  (86, .map #[⟨.agg #[vw 1, vh 9, vh 9], vi 1, 0⟩] 1),
  (89, .map #[] 0),
  (92, .map #[] 0),
  (95, .map #[] 0),
  (98, .map #[] 0),
  (101, .map #[] 0),
  (104, .map #[] 0),
  (107, .map #[] 0),
  (109, oc 253 ([vm 86, vm 89, vm 92, vm 95, vm 98, vm 101, vm 104, vm 107])),
  (111, oc 25 ([vw 2])),
  (112, oc 255 ([vq 4354685564936845431])),
  (113, .map #[⟨vw 2082467969, vi 1, 0⟩] 1),
  (114, oc 190 (vs 111 0 1 1 :: vh 9 :: vt :: vi 256 :: vh 4 :: vi 4000 :: vi 4000 :: vi 1000 :: vw 300 :: vw 100 :: vw 6000 :: vb 8 :: vb 3 :: vb 20 :: vw 3000 :: vw 6000 :: vq 77 :: vb 5 :: rp 15 (vb 0) (vp 112 0 :: vp 85 0 :: vs 1408 0 1 1 :: vi 1 :: vm 113 :: vf :: v0 :: vs 1411 0 1 1 :: []))),
  (115, .map #[] 4),
  (116, .map #[] 0),
  (117, .map #[] 0),
  (118, .map #[⟨vi 3, vs 469 0 0 1, 0⟩, ⟨vi 5, vs 776 0 0 1, 1⟩] 2),
  (119, oc 224 ([vm 115, vm 116, vm 117, vm 118])),
  (120, oc 161 ([vp 114 0, vp 119 0, vp 13 0, .func (.func 35) #[vp 15 0] #[], .func (.func 36) #[] #[vp 16 0], .func (.func 38) #[] #[vp 16 0, vp 75 0], .func (.func 40) #[vp 15 0] #[], vs 1238 3 0 0, v0, vi 3, vi 4, vi 5, v0])),
  (121, oc 166 ([vp 120 0, vi 3, vi 0, vw 1, vw 2, vs 1236 0 72 72, vi 0, vb 1, vi 0])),
  (122, oc 169 ([vp 120 0, vi 4, vi 0, vi 0])),
  (123, oc 172 ([vp 120 0, vi 5, vi 0])),
  (124, oc 131 ([.func (.func 70) #[vp 121 0] #[], vb 2, vf, vf, vq 9])),
  (127, oc 131 ([.func (.func 71) #[vp 122 0] #[], vb 1, vf, vf, vq 3])),
  (130, oc 131 ([.func (.func 72) #[vp 123 0] #[], vb 2, vf, vf, vq 9])),
  (137, oc 25 ([vw 2])),
  (138, oc 62 ([vi 0, vb 1, vi 0, vs 137 0 1 1, vh 9, vh 0, vf, vw 0, v0, vt, vi 6, vs 1798 0 1 1])),
  (145, oc 25 ([vw 2])),
  (146, oc 236 (vp 62 0 :: vi 6 :: vi 0 :: vb 1 :: vi 1 :: vs 145 0 1 1 :: vh 9 :: vh 0 :: vf :: vw 0 :: v0 :: vt :: vi 6 :: rp 3 (vt) (vi 0 :: vi 1 :: vh 0 :: vf :: vw 0 :: v0 :: vb 0 :: vi 0 :: []))),
  (147, oc 131 ([.func (.func 100) #[vp 146 0] #[], vb 3, vf, vf, vq 15])),
  (251, oc 255 ([vq 4354685564936845355])),
  (258, oc 25 ([vw 1])),
  (259, .map #[⟨vi 11, vi 0, 2⟩] 3),
  (260, oc 411 ([vs 328 0 1 1, vm 259])),
  (261, oc 146 (vs 258 0 1 1 :: vh 9 :: vt :: vi 256 :: vh 4 :: vi 4000 :: vi 4000 :: vi 1000 :: vw 300 :: vw 100 :: vw 6000 :: vb 8 :: vb 3 :: vb 20 :: vw 3000 :: vw 6000 :: vq 1 :: rp 16 (vb 0) (vw 2298633409 :: vw 1703865447 :: vh 9 :: vb 3 :: vq 0 :: vw 2082467969 :: vw 982949460 :: vw 3000 :: vh 4 :: vs 961 0 1 1 :: vp 967 0 :: vp 980 0 :: vp 987 0 :: vp 994 0 :: vp 260 0 :: vs 996 0 56 56 :: vi 3000 :: vi 0 :: vi 0 :: vw 0 :: v0 :: v0 :: []))),
  (328, oc 359 ([vq 3300, vi 11])),
  (330, oc 25 ([vw 2])),
  (331, oc 194 ([vi 1, vp 261 0, vs 330 0 1 1, vs 1659 0 1 1, vf])),
  (333, oc 191 ([vp 331 0])),
  (383, oc 164 ([vb 0, vi 0])),
  (398, oc 119 ([vw 0, vw 0, v0, vq 0])),
  (446, oc 5 (vb 0 :: vb 9 :: vb 0 :: vb 9 :: rp 4 (vb 0) (vb 188 :: vb 79 :: vb 7 :: vb 224 :: vb 1 :: vb 0 :: vb 0 :: vb 28 :: vb 137 :: vb 2 :: vb 92 :: vb 193 :: vb 0 :: vb 0 :: vb 11 :: vb 184 :: vb 0 :: vb 4 :: vb 0 :: vb 4 :: vb 101 :: vb 142 :: vb 236 :: vb 103 :: vb 0 :: vb 5 :: vb 0 :: vb 8 :: rp 3 (vb 0) (vb 1 :: [])))),
  (469, oc 164 ([vb 0, vi 0])),
  (776, oc 164 ([vb 0, vi 0])),
  (820, oc 5 (vb 0 :: vb 9 :: vb 0 :: vb 9 :: vb 137 :: vb 2 :: vb 92 :: vb 193 :: vb 213 :: vb 106 :: vb 0 :: vb 220 :: vb 2 :: vb 0 :: vb 0 :: vb 88 :: vb 124 :: vb 31 :: vb 240 :: vb 129 :: vb 0 :: vb 0 :: vb 11 :: vb 184 :: vb 0 :: vb 4 :: vb 0 :: vb 4 :: vb 58 :: vb 150 :: vb 158 :: vb 84 :: vb 0 :: vb 5 :: vb 0 :: vb 8 :: rp 3 (vb 0) (vb 2 :: vb 0 :: vb 7 :: vb 0 :: vb 60 :: vb 124 :: vb 31 :: vb 240 :: vb 129 :: vb 137 :: vb 2 :: vb 92 :: vb 193 :: vb 58 :: vb 150 :: vb 158 :: vb 84 :: vb 101 :: vb 142 :: vb 236 :: vb 103 :: vb 0 :: vb 0 :: vb 11 :: vb 184 :: vb 0 :: vb 4 :: vb 0 :: vb 9 :: rp 19 (vb 0) (vb 1 :: rp 3 (vb 0) (vb 1 :: vb 244 :: vb 7 :: vb 233 :: vb 146 :: vb 14 :: vb 78 :: vb 104 :: vb 30 :: []))))),
  (863, oc 164 ([vb 0, vi 0, vb 0, vi 0])),
  (961, oc 25 ([vw 2])),
  (967, oc 415 ([vs 976 0 1 1, vi 0, vi 0, vi 20])),
  (972, oc 485 ([vq 100, vq 6000, vq 300, vq 0, vq 0, vf])),
  (973, oc 487 ([vi 256, vi 512, vi 65536, vi 0])),
  (974, oc 419 ([vw 1, vw 2, vp 972 0, vp 973 0, vi 3, vi 0, vf, v0])),
  (976, oc 360 ([vp 974 0])),
  (980, oc 214 (vi 256 :: vh 4 :: vi 4000 :: vi 4000 :: vi 1000 :: vw 300 :: vw 100 :: vw 6000 :: vb 8 :: vb 3 :: vb 20 :: vw 3000 :: vw 6000 :: vw 1703865447 :: rp 16 (vh 0) (v0 :: vi 0 :: vi 0 :: []))),
  (987, oc 244 ([vw 1703865446, vw 1703865447, v0, vf, vw 0])),
  (988, .map #[] 0),
  (989, oc 474 ([vw 982949459, vm 988, v0])),
  (990, .map #[] 0),
  (991, oc 247 ([vm 990, vi 0])),
  (992, .map #[] 0),
  (993, .map #[] 0),
  (994, oc 202 ([vh 4, vi 4000, vi 1000, vp 989 0, vp 991 0, vm 992, vm 993, v0, vi 0])),
  (996, oc 5 (vb 124 :: vb 31 :: vb 240 :: vb 129 :: vb 137 :: vb 2 :: vb 92 :: vb 193 :: vb 58 :: vb 150 :: vb 158 :: vb 84 :: vb 101 :: vb 142 :: vb 236 :: vb 103 :: vb 0 :: vb 0 :: vb 11 :: vb 184 :: vb 0 :: vb 4 :: vb 0 :: vb 9 :: rp 19 (vb 0) (vb 1 :: rp 3 (vb 0) (vb 1 :: vb 244 :: vb 7 :: vb 233 :: vb 146 :: vb 14 :: vb 78 :: vb 104 :: vb 30 :: [])))),
  (1168, oc 164 ([vb 0, vi 0, vb 0, vi 0])),
  (1236, oc 5 (vb 0 :: vb 9 :: vb 0 :: vb 9 :: vb 124 :: vb 31 :: vb 240 :: vb 129 :: vb 183 :: vb 199 :: vb 120 :: vb 187 :: vb 10 :: vb 0 :: vb 0 :: vb 60 :: vb 124 :: vb 31 :: vb 240 :: vb 129 :: vb 137 :: vb 2 :: vb 92 :: vb 193 :: vb 58 :: vb 150 :: vb 158 :: vb 84 :: vb 101 :: vb 142 :: vb 236 :: vb 103 :: vb 0 :: vb 0 :: vb 11 :: vb 184 :: vb 0 :: vb 4 :: vb 0 :: vb 9 :: rp 19 (vb 0) (vb 1 :: rp 3 (vb 0) (vb 1 :: vb 244 :: vb 7 :: vb 233 :: vb 146 :: vb 14 :: vb 78 :: vb 104 :: vb 30 :: [])))),
  (1238, oc 56 ([vw 1, vw 2, vs 1236 0 72 72])),
  (1331, oc 25 ([vw 2])),
  (1332, .map #[⟨vi 11, vi 0, 0⟩] 1),
  (1333, oc 411 ([vs 1405 0 1 1, vm 1332])),
  (1334, oc 146 (vs 1331 0 1 1 :: vh 9 :: vt :: vi 256 :: vh 4 :: vi 4000 :: vi 4000 :: vi 1000 :: vw 300 :: vw 100 :: vw 6000 :: vb 8 :: vb 3 :: vb 20 :: vw 3000 :: vw 6000 :: vq 77 :: vb 5 :: rp 15 (vb 0) (vw 2082467969 :: vw 982949460 :: vh 9 :: vb 3 :: vq 0 :: vw 2298633409 :: vw 1703865447 :: vw 3000 :: vh 4 :: vs 1338 0 1 1 :: vp 1342 0 :: vp 1355 0 :: vp 1362 0 :: vp 1369 0 :: vp 1333 0 :: v0 :: vi 3000 :: vi 0 :: vi 0 :: vw 0 :: v0 :: v0 :: []))),
  (1338, oc 25 ([vw 1])),
  (1342, oc 415 ([vs 1351 0 1 1, vi 0, vi 0, vi 20])),
  (1347, oc 485 ([vq 100, vq 6000, vq 300, vq 0, vq 0, vf])),
  (1348, oc 487 ([vi 256, vi 512, vi 65536, vi 0])),
  (1349, oc 419 ([vw 2, vw 1, vp 1347 0, vp 1348 0, vi 3, vi 0, vf, v0])),
  (1351, oc 360 ([vp 1349 0])),
  (1355, oc 214 (vi 256 :: vh 4 :: vi 4000 :: vi 4000 :: vi 1000 :: vw 300 :: vw 100 :: vw 6000 :: vb 8 :: vb 3 :: vb 20 :: vw 3000 :: vw 6000 :: vw 982949460 :: rp 16 (vh 0) (v0 :: vi 0 :: vi 0 :: []))),
  (1362, oc 244 ([vw 982949459, vw 982949460, v0, vf, vw 0])),
  (1363, .map #[] 0),
  (1364, oc 474 ([vw 1703865446, vm 1363, v0])),
  (1365, .map #[] 0),
  (1366, oc 247 ([vm 1365, vi 0])),
  (1367, .map #[] 0),
  (1368, .map #[] 0),
  (1369, oc 202 ([vh 4, vi 4000, vi 1000, vp 1364 0, vp 1366 0, vm 1367, vm 1368, v0, vi 0])),
  (1405, oc 359 ([vq 3300, vi 11])),
  (1406, oc 194 ([vi 1, vp 1334 0, v0, vs 1421 0 1 1, vf])),
  (1408, oc 191 ([vp 1406 0])),
  (1411, oc 32 ([vb 1, vi 1])),
  (1421, oc 257 ([vw 1, vh 9, vh 9])),
  (1426, oc 104 ([vb 9, vj 0, vb 0, vi 0, v0, vh 0, vh 0, vf, vw 0, v0, vf, vw 1, vw 2, vs 446 0 40 40, vi 0, vq 0, vi 0, vi 0, vh 0, vf, vw 0, v0, vb 0, vi 0, vb 9, vj 0, vb 0, vi 0, v0, vh 0, vh 0, vf, vw 0, v0, vf, vw 1, vw 2, vs 1236 0 72 72, vi 0, vq 0, vi 0, vi 0, vh 0, vf, vw 0, v0, vb 0, vi 0])),
  (1514, oc 5 ([vb 0, vb 9, vb 0, vb 9, vb 137, vb 2, vb 92, vb 193, vb 252, vb 37, vb 169, vb 15, vb 11, vb 0, vb 0, vb 4])),
  (1516, oc 56 ([vw 2, vw 1, vs 1514 0 16 16])),
  (1643, oc 32 ([vb 1, vi 1])),
  (1659, oc 257 ([vw 2, vh 9, vh 9])),
  (1775, oc 104 ([vb 1, vj 0, vb 1, vi 0, vs 145 0 1 1, vh 9, vh 0, vf, vw 0, v0, vt, vw 0, vw 0, v0, vi 0, vq 0, vi 0, vi 1, vh 0, vf, vw 0, v0, vb 0, vi 0, vb 9, vj 0, vb 0, vi 0, v0, vh 0, vh 0, vf, vw 0, v0, vf, vw 2, vw 1, vs 820 0 100 100, vi 0, vq 0, vi 0, vi 0, vh 0, vf, vw 0, v0, vb 0, vi 0, vb 9, vj 0, vb 0, vi 0, v0, vh 0, vh 0, vf, vw 0, v0, vf, vw 2, vw 1, vs 1514 0 16 16, vi 0, vq 0, vi 0, vi 0, vh 0, vf, vw 0, v0, vb 0, vi 0, vb 11, vi 0, vb 1, vi 1, vs 145 0 1 1, vh 9, vh 0, vf, vw 0, v0, vt, vw 0, vw 0, v0, vi 1, vq 0, vi 0, vi 1, vh 0, vf, vw 0, v0, vb 0, vi 0])),
  (1777, oc 176 ([vi 0, vi 1])),
  (1798, oc 34 ([vi 0, vi 1, vh 0, vf, vw 0, v0, vb 0, vi 0])),
  (1899, oc 5 ([vb 97, vb 98, vb 99])),
  (1900, oc 62 ([vi 0, vb 2, vi 1, v0, vh 0, vh 0, vf, vw 0, vs 1899 0 3 3, vf, vi 7, v0])),
  (1907, oc 5 ([vb 97, vb 98, vb 99])),
  (1908, oc 236 (vp 62 0 :: vi 7 :: vi 1 :: vb 2 :: vi 1 :: v0 :: vh 0 :: vh 0 :: vf :: vw 0 :: vs 1907 0 3 3 :: vf :: vi 0 :: rp 3 (vf) (vi 0 :: vi 0 :: vh 0 :: vf :: vw 0 :: v0 :: vb 0 :: vi 0 :: []))),
  (1909, oc 131 ([.func (.func 100) #[vp 1908 0] #[], vb 1, vf, vf, vq 0])),
  (1914, oc 62 ([vi 1, vb 3, vi 1, v0, vh 0, vh 0, vf, vw 0, v0, vt, vi 8, v0])),
  (1916, oc 63 ([vp 138 0, vp 1900 0, vp 1914 0])),
  (1918, oc 178 ([vi 0, vf, vi 0, vt, vi 1, vf, vi 2, vf])),
  (1920, oc 236 (vp 120 0 :: vi 8 :: vi 2 :: vb 3 :: vi 1 :: v0 :: vh 0 :: vh 0 :: vf :: vw 0 :: v0 :: vt :: vi 0 :: rp 3 (vf) (vi 0 :: vi 0 :: vh 0 :: vf :: vw 0 :: v0 :: vb 0 :: vi 0 :: []))),
  (1921, oc 131 ([.func (.func 100) #[vp 1920 0] #[], vb 1, vf, vf, vq 0])),
  (1923, oc 127 ([vp 66 0, vp 69 0, vp 72 0, vp 124 0, vp 127 0, vp 130 0, vp 147 0, vp 1909 0, vp 1921 0])),
  (1972, oc 164 ([vb 2, vi 1, vb 3, vi 1]))],
  vt, 2098, [69, 64, 261, 328, 259, 260, 974, 56, 49, 331, 1775, 15, 62, 72],
  [(15, oc 75 (vs 20 0 1 1 :: vh 9 :: vt :: vi 256 :: vh 4 :: vi 4000 :: vi 4000 :: vi 1000 :: vw 300 :: vw 100 :: vw 6000 :: vb 8 :: vb 3 :: vb 20 :: vw 3000 :: vw 6000 :: vq 1 :: rp 16 (vb 0) (vs 78 0 1 1 :: vh 9 :: vt :: vi 256 :: vh 4 :: vi 4000 :: vi 4000 :: vi 1000 :: vw 300 :: vw 100 :: vw 6000 :: vb 8 :: vb 3 :: vb 20 :: vw 3000 :: vw 6000 :: vq 77 :: vb 5 :: rp 15 (vb 0) (vp 13 0 :: vp 14 0 :: vp 62 0 :: vp 120 0 :: vq 9001 :: vs 1916 0 3 3 :: vs 2088 0 5 5 :: vs 1426 0 2 2 :: vs 1918 0 4 4 :: vs 1777 0 1 1 :: [])))),
  (49, .map #[⟨.agg #[vw 2, vh 9, vh 9], vi 1, 3⟩] 4),
  (56, oc 190 (vs 53 0 1 1 :: vh 9 :: vt :: vi 256 :: vh 4 :: vi 4000 :: vi 4000 :: vi 1000 :: vw 300 :: vw 100 :: vw 6000 :: vb 8 :: vb 3 :: vb 20 :: vw 3000 :: vw 6000 :: vq 1 :: rp 16 (vb 0) (vp 251 0 :: vp 27 0 :: vs 333 0 1 1 :: vi 1 :: vm 55 :: vf :: v0 :: vs 1643 0 1 1 :: []))),
  (62, oc 161 ([vp 56 0, vp 61 0, vp 13 0, .func (.func 35) #[vp 15 0] #[], .func (.func 36) #[] #[vp 16 0], .func (.func 38) #[] #[vp 16 0, vp 17 0], .func (.func 40) #[vp 15 0] #[], vs 1516 3 0 0, vs 2091 0 1 1, vi 0, vi 1, vi 2, v0])),
  (64, oc 169 ([vp 62 0, vi 1, vi 4, vi 1])),
  (69, oc 131 ([.func (.func 71) #[vp 64 0] #[], vb 1, vf, vt, vq 8])),
  (72, oc 131 ([.func (.func 72) #[vp 65 0] #[], vb 1, vf, vf, vq 10])),
  (259, .map #[⟨vi 11, vi 0, 3⟩] 4),
  (260, oc 411 ([vs 328 0 1 1, vm 259])),
  (261, oc 146 (vs 258 0 1 1 :: vh 9 :: vt :: vi 256 :: vh 4 :: vi 4000 :: vi 4000 :: vi 1000 :: vw 300 :: vw 100 :: vw 6000 :: vb 8 :: vb 3 :: vb 20 :: vw 3000 :: vw 6000 :: vq 1 :: rp 16 (vb 0) (vw 2298633409 :: vw 1703865447 :: vh 9 :: vb 3 :: vq 9001 :: vw 2082467969 :: vw 982949460 :: vw 3000 :: vh 4 :: vs 961 0 1 1 :: vp 967 0 :: vp 980 0 :: vp 987 0 :: vp 994 0 :: vp 260 0 :: vs 996 0 56 56 :: vi 3000 :: vi 0 :: vi 0 :: vw 1 :: v0 :: v0 :: []))),
  (328, oc 359 ([vq 12301, vi 11])),
  (331, oc 194 ([vi 1, vp 261 0, vs 330 0 1 1, vs 2079 0 1 1, vf])),
  (974, oc 419 ([vw 1, vw 2, vp 972 0, vp 973 0, vi 3, vi 0, vf, vs 2021 0 1 1])),
  (2021, oc 25 ([vw 1])),
  (2047, oc 5 (vb 0 :: vb 9 :: vb 0 :: vb 9 :: vb 124 :: vb 31 :: vb 240 :: vb 129 :: vb 109 :: vb 215 :: vb 108 :: vb 247 :: vb 4 :: vb 0 :: vb 0 :: vb 12 :: rp 7 (vb 0) (vb 1 :: []))),
  (2079, oc 257 ([vw 2, vh 9, vh 9])),
  (2088, oc 104 ([vb 1, vj 0, vb 1, vi 0, vs 145 0 1 1, vh 9, vh 0, vf, vw 0, v0, vt, vw 0, vw 0, v0, vi 0, vq 0, vi 0, vi 1, vh 0, vf, vw 0, v0, vb 0, vi 0, vb 9, vj 0, vb 0, vi 0, v0, vh 0, vh 0, vf, vw 0, v0, vf, vw 2, vw 1, vs 820 0 100 100, vi 0, vq 0, vi 0, vi 0, vh 0, vf, vw 0, v0, vb 0, vi 0, vb 9, vj 0, vb 0, vi 0, v0, vh 0, vh 0, vf, vw 0, v0, vf, vw 2, vw 1, vs 1514 0 16 16, vi 0, vq 0, vi 0, vi 0, vh 0, vf, vw 0, v0, vb 0, vi 0, vb 11, vi 0, vb 1, vi 1, vs 145 0 1 1, vh 9, vh 0, vf, vw 0, v0, vt, vw 0, vw 0, v0, vi 1, vq 0, vi 0, vi 1, vh 0, vf, vw 0, v0, vb 0, vi 0, vb 10, vj 0, vb 0, vi 0, v0, vh 0, vh 0, vf, vw 0, v0, vf, vw 0, vw 0, v0, vi 1, vq 9001, vi 0, vi 0, vh 0, vf, vw 0, v0, vb 0, vi 0])),
  (2091, oc 56 ([vw 1, vw 2, vs 2047 0 24 24]))]⟩
theorem fc11ok : CkOk Tryz.prog fc11 := ckOk_of (N := 200000) fcS10ok (by kernel_rfl) (by kernel_rfl)
noncomputable def fcS11 : Summ := ckS fc11 (fcS10)
theorem fcS11ok : SOk Tryz.prog fcS11 := ckS_ok fcS10ok fc11ok
def fc12 : Ck := ⟨13, 2191, [vp 15 0, .agg #[vb 2, vb 0, vi 0, vi 0, vb 0, vi 0, v0, vh 0, vh 0, vf, vw 0, v0, vf, vw 0, vw 0, v0]],
  [(13, oc 154 ([vs 1923 0 9 9])),
  (14, oc 123 ([vi 256, vs 398 0 1 1])),
  (15, oc 75 (vs 20 0 1 1 :: vh 9 :: vt :: vi 256 :: vh 4 :: vi 4000 :: vi 4000 :: vi 1000 :: vw 300 :: vw 100 :: vw 6000 :: vb 8 :: vb 3 :: vb 20 :: vw 3000 :: vw 6000 :: vq 1 :: rp 16 (vb 0) (vs 78 0 1 1 :: vh 9 :: vt :: vi 256 :: vh 4 :: vi 4000 :: vi 4000 :: vi 1000 :: vw 300 :: vw 100 :: vw 6000 :: vb 8 :: vb 3 :: vb 20 :: vw 3000 :: vw 6000 :: vq 77 :: vb 5 :: rp 15 (vb 0) (vp 13 0 :: vp 14 0 :: vp 62 0 :: vp 120 0 :: vq 9001 :: vs 1916 0 3 3 :: vs 2088 0 5 5 :: vs 1426 0 2 2 :: vs 1918 0 4 4 :: vs 1777 0 1 1 :: [])))),
  (16, oc 22 ([vp 15 0])),
  (17, oc 3 ([vi 0])),
  (20, oc 25 ([vw 1])),
  (27, oc 252 ([vs 51 0 8 8])),
  (28, .map #[] 0),
  (31, .map #[] 0),
  (34, .map #[] 0),
  (37, .map #[] 0),
  (40, .map #[] 0),
  (43, .map #[] 0),
  (46, .map #[] 0),
  (49, .map #[⟨.agg #[vw 2, vh 9, vh 9], vi 1, 3⟩] 4),
  (51, oc 253 ([vm 28, vm 31, vm 34, vm 37, vm 40, vm 43, vm 46, vm 49])),
  (53, oc 25 ([vw 1])),
  (55, .map #[⟨vw 2298633409, vi 1, 0⟩] 1),
  (56, oc 190 (vs 53 0 1 1 :: vh 9 :: vt :: vi 256 :: vh 4 :: vi 4000 :: vi 4000 :: vi 1000 :: vw 300 :: vw 100 :: vw 6000 :: vb 8 :: vb 3 :: vb 20 :: vw 3000 :: vw 6000 :: vq 1 :: rp 16 (vb 0) (vp 251 0 :: vp 27 0 :: vs 333 0 1 1 :: vi 1 :: vm 55 :: vf :: v0 :: vs 1643 0 1 1 :: []))),
  (57, .map #[] 19),
  (58, .map #[] 0),
  (59, .map #[] 0),
  (60, .map #[⟨vi 6, vs 1168 0 0 2, 0⟩, ⟨vi 2, vs 383 0 0 1, 1⟩, ⟨vi 0, vs 863 0 0 2, 2⟩, ⟨vi 1, vs 1972 0 0 2, 3⟩] 4),
  (61, oc 224 ([vm 57, vm 58, vm 59, vm 60])),
  (62, oc 161 ([vp 56 0, vp 61 0, vp 13 0, .func (.func 35) #[vp 15 0] #[], .func (.func 36) #[] #[vp 16 0], .func (.func 38) #[] #[vp 16 0, vp 17 0], .func (.func 40) #[vp 15 0] #[], vs 1516 3 0 0, v0, vi 0, vi 1, vi 2, v0])),
  (63, oc 166 ([vp 62 0, vi 0, vi 0, vw 2, vw 1, vs 1514 0 16 16, vi 1, vb 1, vi 7])),
  (64, oc 169 ([vp 62 0, vi 1, vi 0, vi 0])),
  (65, oc 172 ([vp 62 0, vi 2, vi 0])),
  (66, oc 131 ([.func (.func 70) #[vp 63 0] #[], vb 2, vf, vf, vq 13])),
  (69, oc 131 ([.func (.func 71) #[vp 64 0] #[], vb 2, vf, vf, vq 10])),
  (72, oc 131 ([.func (.func 72) #[vp 65 0] #[], vb 2, vf, vf, vq 14])),
  (75, oc 3 ([vi 1])),
  (78, oc 25 ([vw 2])),
  (85, oc 252 ([vs 109 0 8 8])),
  (86, .map #[⟨.agg #[vw 1, vh 9, vh 9], vi 1, 0⟩] 1),
  (89, .map #[] 0),
  (92, .map #[] 0),
  (95, .map #[] 0),
  (98, .map #[] 0),
  (101, .map #[] 0),
  (104, .map #[] 0),
  (107, .map #[] 0),
  (109, oc 253 ([vm 86, vm 89, vm 92, vm 95, vm 98, vm 101, vm 104, vm 107])),
  (111, oc 25 ([vw 2])),
  (112, oc 255 ([vq 4354685564936845431])),
  (113, .map #[⟨vw 2082467969, vi 1, 0⟩] 1),
  (114, oc 190 (vs 111 0 1 1 :: vh 9 :: vt :: vi 256 :: vh 4 :: vi 4000 :: vi 4000 :: vi 1000 :: vw 300 :: vw 100 :: vw 6000 :: vb 8 :: vb 3 :: vb 20 :: vw 3000 :: vw 6000 :: vq 77 :: vb 5 :: rp 15 (vb 0) (vp 112 0 :: vp 85 0 :: vs 1408 0 1 1 :: vi 1 :: vm 113 :: vf :: v0 :: vs 1411 0 1 1 :: []))),
  (115, .map #[] 4),
  (116, .map #[] 0),
  (117, .map #[] 0),
  (118, .map #[⟨vi 3, vs 469 0 0 1, 0⟩, ⟨vi 5, vs 776 0 0 1, 1⟩] 2),
  (119, oc 224 ([vm 115, vm 116, vm 117, vm 118])),
  (120, oc 161 ([vp 114 0, vp 119 0, vp 13 0, .func (.func 35) #[vp 15 0] #[], .func (.func 36) #[] #[vp 16 0], .func (.func 38) #[] #[vp 16 0, vp 75 0], .func (.func 40) #[vp 15 0] #[], vs 1238 3 0 0, v0, vi 3, vi 4, vi 5, v0])),
  (121, oc 166 ([vp 120 0, vi 3, vi 0, vw 1, vw 2, vs 1236 0 72 72, vi 0, vb 1, vi 0])),
  (122, oc 169 ([vp 120 0, vi 4, vi 0, vi 0])),
  (123, oc 172 ([vp 120 0, vi 5, vi 0])),
  (124, oc 131 ([.func (.func 70) #[vp 121 0] #[], vb 2, vf, vf, vq 9])),
  (127, oc 131 ([.func (.func 71) #[vp 122 0] #[], vb 1, vf, vf, vq 3])),
  (130, oc 131 ([.func (.func 72) #[vp 123 0] #[], vb 2, vf, vf, vq 9])),
  (137, oc 25 ([vw 2])),
  (138, oc 62 ([vi 0, vb 1, vi 0, vs 137 0 1 1, vh 9, vh 0, vf, vw 0, v0, vt, vi 6, vs 1798 0 1 1])),
  (145, oc 25 ([vw 2])),
  (146, oc 236 (vp 62 0 :: vi 6 :: vi 0 :: vb 1 :: vi 1 :: vs 145 0 1 1 :: vh 9 :: vh 0 :: vf :: vw 0 :: v0 :: vt :: vi 6 :: rp 3 (vt) (vi 0 :: vi 1 :: vh 0 :: vf :: vw 0 :: v0 :: vb 0 :: vi 0 :: []))),
  (147, oc 131 ([.func (.func 100) #[vp 146 0] #[], vb 3, vf, vf, vq 15])),
  (251, oc 255 ([vq 4354685564936845355])),
  (258, oc 25 ([vw 1])),
  (259, .map #[⟨vi 11, vi 0, 3⟩] 4),
  (260, oc 411 ([vs 328 0 1 1, vm 259])),
  (261, oc 146 (vs 258 0 1 1 :: vh 9 :: vt :: vi 256 :: vh 4 :: vi 4000 :: vi 4000 :: vi 1000 :: vw 300 :: vw 100 :: vw 6000 :: vb 8 :: vb 3 :: vb 20 :: vw 3000 :: vw 6000 :: vq 1 :: rp 16 (vb 0) (vw 2298633409 :: vw 1703865447 :: vh 9 :: vb 3 :: vq 9001 :: vw 2082467969 :: vw 982949460 :: vw 3000 :: vh 4 :: vs 961 0 1 1 :: vp 967 0 :: vp 980 0 :: vp 987 0 :: vp 994 0 :: vp 260 0 :: vs 996 0 56 56 :: vi 3000 :: vi 0 :: vi 0 :: vw 1 :: v0 :: v0 :: []))),
  (328, oc 359 ([vq 12301, vi 11])),
  (330, oc 25 ([vw 2])),
  (331, oc 194 ([vi 1, vp 261 0, vs 330 0 1 1, vs 2079 0 1 1, vf])),
  (333, oc 191 ([vp 331 0])),
  (383, oc 164 ([vb 0, vi 0])),
  (398, oc 119 ([vw 1, vw 2, vs 2165 0 24 24, vq 9001])),
  (446, oc 5 (vb 0 :: vb 9 :: vb 0 :: vb 9 :: rp 4 (vb 0) (vb 188 :: vb 79 :: vb 7 :: vb 224 :: vb 1 :: vb 0 :: vb 0 :: vb 28 :: vb 137 :: vb 2 :: vb 92 :: vb 193 :: vb 0 :: vb 0 :: vb 11 :: vb 184 :: vb 0 :: vb 4 :: vb 0 :: vb 4 :: vb 101 :: vb 142 :: vb 236 :: vb 103 :: vb 0 :: vb 5 :: vb 0 :: vb 8 :: rp 3 (vb 0) (vb 1 :: [])))),
  (469, oc 164 ([vb 0, vi 0])),
  (776, oc 164 ([vb 0, vi 0])),
  (820, oc 5 (vb 0 :: vb 9 :: vb 0 :: vb 9 :: vb 137 :: vb 2 :: vb 92 :: vb 193 :: vb 213 :: vb 106 :: vb 0 :: vb 220 :: vb 2 :: vb 0 :: vb 0 :: vb 88 :: vb 124 :: vb 31 :: vb 240 :: vb 129 :: vb 0 :: vb 0 :: vb 11 :: vb 184 :: vb 0 :: vb 4 :: vb 0 :: vb 4 :: vb 58 :: vb 150 :: vb 158 :: vb 84 :: vb 0 :: vb 5 :: vb 0 :: vb 8 :: rp 3 (vb 0) (vb 2 :: vb 0 :: vb 7 :: vb 0 :: vb 60 :: vb 124 :: vb 31 :: vb 240 :: vb 129 :: vb 137 :: vb 2 :: vb 92 :: vb 193 :: vb 58 :: vb 150 :: vb 158 :: vb 84 :: vb 101 :: vb 142 :: vb 236 :: vb 103 :: vb 0 :: vb 0 :: vb 11 :: vb 184 :: vb 0 :: vb 4 :: vb 0 :: vb 9 :: rp 19 (vb 0) (vb 1 :: rp 3 (vb 0) (vb 1 :: vb 244 :: vb 7 :: vb 233 :: vb 146 :: vb 14 :: vb 78 :: vb 104 :: vb 30 :: []))))),
  (863, oc 164 ([vb 0, vi 0, vb 0, vi 0])),
  (961, oc 25 ([vw 2])),
  (967, oc 415 ([vs 976 0 1 1, vi 0, vi 0, vi 20])),
  (972, oc 485 ([vq 100, vq 6000, vq 300, vq 0, vq 0, vf])),
  (973, oc 487 ([vi 256, vi 512, vi 65536, vi 0])),
  (974, oc 419 ([vw 1, vw 2, vp 972 0, vp 973 0, vi 3, vi 0, vf, vs 2021 0 1 1])),
  (976, oc 360 ([vp 974 0])),
  (980, oc 214 (vi 256 :: vh 4 :: vi 4000 :: vi 4000 :: vi 1000 :: vw 300 :: vw 100 :: vw 6000 :: vb 8 :: vb 3 :: vb 20 :: vw 3000 :: vw 6000 :: vw 1703865447 :: rp 16 (vh 0) (v0 :: vi 0 :: vi 0 :: []))),
  (987, oc 244 ([vw 1703865446, vw 1703865447, v0, vf, vw 0])),
  (988, .map #[] 0),
  (989, oc 474 ([vw 982949459, vm 988, v0])),
  (990, .map #[] 0),
  (991, oc 247 ([vm 990, vi 0])),
  (992, .map #[] 0),
  (993, .map #[] 0),
  (994, oc 202 ([vh 4, vi 4000, vi 1000, vp 989 0, vp 991 0, vm 992, vm 993, v0, vi 0])),
  (996, oc 5 (vb 124 :: vb 31 :: vb 240 :: vb 129 :: vb 137 :: vb 2 :: vb 92 :: vb 193 :: vb 58 :: vb 150 :: vb 158 :: vb 84 :: vb 101 :: vb 142 :: vb 236 :: vb 103 :: vb 0 :: vb 0 :: vb 11 :: vb 184 :: vb 0 :: vb 4 :: vb 0 :: vb 9 :: rp 19 (vb 0) (vb 1 :: rp 3 (vb 0) (vb 1 :: vb 244 :: vb 7 :: vb 233 :: vb 146 :: vb 14 :: vb 78 :: vb 104 :: vb 30 :: [])))),
  (1168, oc 164 ([vb 0, vi 0, vb 0, vi 0])),
  (1236, oc 5 (vb 0 :: vb 9 :: vb 0 :: vb 9 :: vb 124 :: vb 31 :: vb 240 :: vb 129 :: vb 183 :: vb 199 :: vb 120 :: vb 187 :: vb 10 :: vb 0 :: vb 0 :: vb 60 :: vb 124 :: vb 31 :: vb 240 :: vb 129 :: vb 137 :: vb 2 :: vb 92 :: vb 193 :: vb 58 :: vb 150 :: vb 158 :: vb 84 :: vb 101 :: vb 142 :: vb 236 :: vb 103 :: vb 0 :: vb 0 :: vb 11 :: vb 184 :: vb 0 :: vb 4 :: vb 0 :: vb 9 :: rp 19 (vb 0) (vb 1 :: rp 3 (vb 0) (vb 1 :: vb 244 :: vb 7 :: vb 233 :: vb 146 :: vb 14 :: vb 78 :: vb 104 :: vb 30 :: [])))),
  (1238, oc 56 ([vw 1, vw 2, vs 1236 0 72 72])),
  (1331, oc 25 ([vw 2])),
  (1332, .map #[⟨vi 11, vi 0, 0⟩] 1),
  (1333, oc 411 ([vs 1405 0 1 1, vm 1332])),
  (1334, oc 146 (vs 1331 0 1 1 :: vh 9 :: vt :: vi 256 :: vh 4 :: vi 4000 :: vi 4000 :: vi 1000 :: vw 300 :: vw 100 :: vw 6000 :: vb 8 :: vb 3 :: vb 20 :: vw 3000 :: vw 6000 :: vq 77 :: vb 5 :: rp 15 (vb 0) (vw 2082467969 :: vw 982949460 :: vh 9 :: vb 3 :: vq 0 :: vw 2298633409 :: vw 1703865447 :: vw 3000 :: vh 4 :: vs 1338 0 1 1 :: vp 1342 0 :: vp 1355 0 :: vp 1362 0 :: vp 1369 0 :: vp 1333 0 :: v0 :: vi 3000 :: vi 0 :: vi 0 :: vw 0 :: v0 :: v0 :: []))),
  (1338, oc 25 ([vw 1])),
  (1342, oc 415 ([vs 1351 0 1 1, vi 0, vi 0, vi 20])),
  (1347, oc 485 ([vq 100, vq 6000, vq 300, vq 0, vq 0, vf])),
  (1348, oc 487 ([vi 256, vi 512, vi 65536, vi 0])),
  (1349, oc 419 ([vw 2, vw 1, vp 1347 0, vp 1348 0, vi 3, vi 0, vf, v0])),
  (1351, oc 360 ([vp 1349 0])),
  (1355, oc 214 (vi 256 :: vh 4 :: vi 4000 :: vi 4000 :: vi 1000 :: vw 300 :: vw 100 :: vw 6000 :: vb 8 :: vb 3 :: vb 20 :: vw 3000 :: vw 6000 :: vw 982949460 :: rp 16 (vh 0) (v0 :: vi 0 :: vi 0 :: []))),
  (1362, oc 244 ([vw 982949459, vw 982949460, v0, vf, vw 0])),
  (1363, .map #[] 0),
  (1364, oc 474 ([vw 1703865446, vm 1363, v0])),
  (1365, .map #[] 0),
  (1366, oc 247 ([vm 1365, vi 0])),
  (1367, .map #[] 0),
  (1368, .map #[] 0),
  (1369, oc 202 ([vh 4, vi 4000, vi 1000, vp 1364 0, vp 1366 0, vm 1367, vm 1368, v0, vi 0])),
  (1405, oc 359 ([vq 3300, vi 11])),
  (1406, oc 194 ([vi 1, vp 1334 0, v0, vs 1421 0 1 1, vf])),
  (1408, oc 191 ([vp 1406 0])),
  (1411, oc 32 ([vb 1, vi 1])),
  (1421, oc 257 ([vw 1, vh 9, vh 9])),
  (1426, oc 104 ([vb 9, vj 0, vb 0, vi 0, v0, vh 0, vh 0, vf, vw 0, v0, vf, vw 1, vw 2, vs 446 0 40 40, vi 0, vq 0, vi 0, vi 0, vh 0, vf, vw 0, v0, vb 0, vi 0, vb 9, vj 0, vb 0, vi 0, v0, vh 0, vh 0, vf, vw 0, v0, vf, vw 1, vw 2, vs 1236 0 72 72, vi 0, vq 0, vi 0, vi 0, vh 0, vf, vw 0, v0, vb 0, vi 0])),
  (1514, oc 5 ([vb 0, vb 9, vb 0, vb 9, vb 137, vb 2, vb 92, vb 193, vb 252, vb 37, vb 169, vb 15, vb 11, vb 0, vb 0, vb 4])),
  (1516, oc 56 ([vw 2, vw 1, vs 1514 0 16 16])),
  (1643, oc 32 ([vb 1, vi 1])),
  (1777, oc 176 ([vi 0, vi 1])),
  (1798, oc 34 ([vi 0, vi 1, vh 0, vf, vw 0, v0, vb 0, vi 0])),
  (1899, oc 5 ([vb 97, vb 98, vb 99])),
  (1900, oc 62 ([vi 0, vb 2, vi 1, v0, vh 0, vh 0, vf, vw 0, vs 1899 0 3 3, vf, vi 7, v0])),
  (1907, oc 5 ([vb 97, vb 98, vb 99])),
  (1908, oc 236 (vp 62 0 :: vi 7 :: vi 1 :: vb 2 :: vi 1 :: v0 :: vh 0 :: vh 0 :: vf :: vw 0 :: vs 1907 0 3 3 :: vf :: vi 0 :: rp 3 (vf) (vi 0 :: vi 0 :: vh 0 :: vf :: vw 0 :: v0 :: vb 0 :: vi 0 :: []))),
  (1909, oc 131 ([.func (.func 100) #[vp 1908 0] #[], vb 1, vf, vf, vq 0])),
  (1914, oc 62 ([vi 1, vb 3, vi 1, v0, vh 0, vh 0, vf, vw 0, v0, vt, vi 8, v0])),
  (1916, oc 63 ([vp 138 0, vp 1900 0, vp 1914 0])),
  (1918, oc 178 ([vi 0, vf, vi 0, vt, vi 1, vf, vi 2, vf])),
  (1920, oc 236 (vp 120 0 :: vi 8 :: vi 2 :: vb 3 :: vi 1 :: v0 :: vh 0 :: vh 0 :: vf :: vw 0 :: v0 :: vt :: vi 0 :: rp 3 (vf) (vi 0 :: vi 0 :: vh 0 :: vf :: vw 0 :: v0 :: vb 0 :: vi 0 :: []))),
  (1921, oc 131 ([.func (.func 100) #[vp 1920 0] #[], vb 1, vf, vf, vq 0])),
  (1923, oc 127 ([vp 66 0, vp 69 0, vp 72 0, vp 124 0, vp 127 0, vp 130 0, vp 147 0, vp 1909 0, vp 1921 0])),
  (1972, oc 164 ([vb 0, vi 0, vb 0, vi 0])),
  (2021, oc 25 ([vw 1])),
  (2079, oc 257 ([vw 2, vh 9, vh 9])),
  (2088, oc 104 ([vb 1, vj 0, vb 1, vi 0, vs 145 0 1 1, vh 9, vh 0, vf, vw 0, v0, vt, vw 0, vw 0, v0, vi 0, vq 0, vi 0, vi 1, vh 0, vf, vw 0, v0, vb 0, vi 0, vb 9, vj 0, vb 0, vi 0, v0, vh 0, vh 0, vf, vw 0, v0, vf, vw 2, vw 1, vs 820 0 100 100, vi 0, vq 0, vi 0, vi 0, vh 0, vf, vw 0, v0, vb 0, vi 0, vb 9, vj 0, vb 0, vi 0, v0, vh 0, vh 0, vf, vw 0, v0, vf, vw 2, vw 1, vs 1514 0 16 16, vi 0, vq 0, vi 0, vi 0, vh 0, vf, vw 0, v0, vb 0, vi 0, vb 11, vi 0, vb 1, vi 1, vs 145 0 1 1, vh 9, vh 0, vf, vw 0, v0, vt, vw 0, vw 0, v0, vi 1, vq 0, vi 0, vi 1, vh 0, vf, vw 0, v0, vb 0, vi 0, vb 10, vj 0, vb 0, vi 0, v0, vh 0, vh 0, vf, vw 0, v0, vf, vw 0, vw 0, v0, vi 1, vq 9001, vi 0, vi 0, vh 0, vf, vw 0, v0, vb 0, vi 0])),
  (2165, oc 5 (vb 0 :: vb 9 :: vb 0 :: vb 9 :: vb 124 :: vb 31 :: vb 240 :: vb 129 :: vb 109 :: vb 215 :: vb 108 :: vb 247 :: vb 4 :: vb 0 :: vb 0 :: vb 12 :: rp 7 (vb 0) (vb 1 :: [])))],
  vt, 2207, [127, 122, 115, 118],
  [(115, .map #[⟨.agg #[vb 1, vi 1], vi 4, 4⟩] 5),
  (118, .map #[⟨vi 3, vs 469 0 0 1, 0⟩, ⟨vi 5, vs 776 0 0 1, 1⟩, ⟨vi 4, vs 2206 0 1 1, 2⟩] 3),
  (122, oc 169 ([vp 120 0, vi 4, vi 1, vi 1])),
  (127, oc 131 ([.func (.func 71) #[vp 122 0] #[], vb 1, vf, vf, vq 4])),
  (2206, oc 164 ([vb 1, vi 1]))]⟩
theorem fc12ok : CkOk Tryz.prog fc12 := ckOk_of (N := 200000) fcS11ok (by kernel_rfl) (by kernel_rfl)
noncomputable def fcS12 : Summ := ckS fc12 (fcS11)
theorem fcS12ok : SOk Tryz.prog fcS12 := ckS_ok fcS11ok fc12ok
def fc13 : Ck := ⟨13, 2224, [vp 15 0, .agg #[vb 2, vb 0, vi 0, vi 0, vb 0, vi 0, v0, vh 0, vh 0, vf, vw 0, v0, vf, vw 0, vw 0, v0]],
  [(13, oc 154 ([vs 1923 0 9 9])),
  (14, oc 123 ([vi 256, vs 398 0 1 1])),
  (15, oc 75 (vs 20 0 1 1 :: vh 9 :: vt :: vi 256 :: vh 4 :: vi 4000 :: vi 4000 :: vi 1000 :: vw 300 :: vw 100 :: vw 6000 :: vb 8 :: vb 3 :: vb 20 :: vw 3000 :: vw 6000 :: vq 1 :: rp 16 (vb 0) (vs 78 0 1 1 :: vh 9 :: vt :: vi 256 :: vh 4 :: vi 4000 :: vi 4000 :: vi 1000 :: vw 300 :: vw 100 :: vw 6000 :: vb 8 :: vb 3 :: vb 20 :: vw 3000 :: vw 6000 :: vq 77 :: vb 5 :: rp 15 (vb 0) (vp 13 0 :: vp 14 0 :: vp 62 0 :: vp 120 0 :: vq 9001 :: vs 1916 0 3 3 :: vs 2088 0 5 5 :: vs 1426 0 2 2 :: vs 1918 0 4 4 :: vs 1777 0 1 1 :: [])))),
  (16, oc 22 ([vp 15 0])),
  (17, oc 3 ([vi 0])),
  (20, oc 25 ([vw 1])),
  (27, oc 252 ([vs 51 0 8 8])),
  (28, .map #[] 0),
  (31, .map #[] 0),
  (34, .map #[] 0),
  (37, .map #[] 0),
  (40, .map #[] 0),
  (43, .map #[] 0),
  (46, .map #[] 0),
  (49, .map #[⟨.agg #[vw 2, vh 9, vh 9], vi 1, 3⟩] 4),
  (51, oc 253 ([vm 28, vm 31, vm 34, vm 37, vm 40, vm 43, vm 46, vm 49])),
  (53, oc 25 ([vw 1])),
  (55, .map #[⟨vw 2298633409, vi 1, 0⟩] 1),
  (56, oc 190 (vs 53 0 1 1 :: vh 9 :: vt :: vi 256 :: vh 4 :: vi 4000 :: vi 4000 :: vi 1000 :: vw 300 :: vw 100 :: vw 6000 :: vb 8 :: vb 3 :: vb 20 :: vw 3000 :: vw 6000 :: vq 1 :: rp 16 (vb 0) (vp 251 0 :: vp 27 0 :: vs 333 0 1 1 :: vi 1 :: vm 55 :: vf :: v0 :: vs 1643 0 1 1 :: []))),
  (57, .map #[] 19),
  (58, .map #[] 0),
  (59, .map #[] 0),
  (60, .map #[⟨vi 6, vs 1168 0 0 2, 0⟩, ⟨vi 2, vs 383 0 0 1, 1⟩, ⟨vi 0, vs 863 0 0 2, 2⟩, ⟨vi 1, vs 1972 0 0 2, 3⟩] 4),
  (61, oc 224 ([vm 57, vm 58, vm 59, vm 60])),
  (62, oc 161 ([vp 56 0, vp 61 0, vp 13 0, .func (.func 35) #[vp 15 0] #[], .func (.func 36) #[] #[vp 16 0], .func (.func 38) #[] #[vp 16 0, vp 17 0], .func (.func 40) #[vp 15 0] #[], vs 1516 3 0 0, v0, vi 0, vi 1, vi 2, v0])),
  (63, oc 166 ([vp 62 0, vi 0, vi 0, vw 2, vw 1, vs 1514 0 16 16, vi 1, vb 1, vi 7])),
  (64, oc 169 ([vp 62 0, vi 1, vi 0, vi 0])),
  (65, oc 172 ([vp 62 0, vi 2, vi 0])),
  (66, oc 131 ([.func (.func 70) #[vp 63 0] #[], vb 2, vf, vf, vq 13])),
  (69, oc 131 ([.func (.func 71) #[vp 64 0] #[], vb 2, vf, vf, vq 10])),
  (72, oc 131 ([.func (.func 72) #[vp 65 0] #[], vb 2, vf, vf, vq 14])),
  (75, oc 3 ([vi 1])),
  (78, oc 25 ([vw 2])),
  (85, oc 252 ([vs 109 0 8 8])),
  (86, .map #[⟨.agg #[vw 1, vh 9, vh 9], vi 1, 0⟩] 1),
  (89, .map #[] 0),
  (92, .map #[] 0),
  (95, .map #[] 0),
  (98, .map #[] 0),
  (101, .map #[] 0),
  (104, .map #[] 0),
  (107, .map #[] 0),
  (109, oc 253 ([vm 86, vm 89, vm 92, vm 95, vm 98, vm 101, vm 104, vm 107])),
  (111, oc 25 ([vw 2])),
  (112, oc 255 ([vq 4354685564936845431])),
  (113, .map #[⟨vw 2082467969, vi 1, 0⟩] 1),
  (114, oc 190 (vs 111 0 1 1 :: vh 9 :: vt :: vi 256 :: vh 4 :: vi 4000 :: vi 4000 :: vi 1000 :: vw 300 :: vw 100 :: vw 6000 :: vb 8 :: vb 3 :: vb 20 :: vw 3000 :: vw 6000 :: vq 77 :: vb 5 :: rp 15 (vb 0) (vp 112 0 :: vp 85 0 :: vs 1408 0 1 1 :: vi 1 :: vm 113 :: vf :: v0 :: vs 1411 0 1 1 :: []))),
  (115, .map #[⟨.agg #[vb 1, vi 1], vi 4, 4⟩, ⟨.agg #[vb 2, vi 1], vi 4, 5⟩] 6),
  (116, .map #[] 0),
  (117, .map #[] 0),
  (118, .map #[⟨vi 3, vs 469 0 0 1, 0⟩, ⟨vi 5, vs 776 0 0 1, 1⟩, ⟨vi 4, vs 2223 0 2 2, 2⟩] 3),
  (119, oc 224 ([vm 115, vm 116, vm 117, vm 118])),
  (120, oc 161 ([vp 114 0, vp 119 0, vp 13 0, .func (.func 35) #[vp 15 0] #[], .func (.func 36) #[] #[vp 16 0], .func (.func 38) #[] #[vp 16 0, vp 75 0], .func (.func 40) #[vp 15 0] #[], vs 1238 3 0 0, v0, vi 3, vi 4, vi 5, v0])),
  (121, oc 166 ([vp 120 0, vi 3, vi 0, vw 1, vw 2, vs 1236 0 72 72, vi 0, vb 1, vi 0])),
  (122, oc 169 ([vp 120 0, vi 4, vi 2, vi 1])),
  (123, oc 172 ([vp 120 0, vi 5, vi 0])),
  (124, oc 131 ([.func (.func 70) #[vp 121 0] #[], vb 2, vf, vf, vq 9])),
  (127, oc 131 ([.func (.func 71) #[vp 122 0] #[], vb 1, vf, vf, vq 5])),
  (130, oc 131 ([.func (.func 72) #[vp 123 0] #[], vb 2, vf, vf, vq 9])),
  (137, oc 25 ([vw 2])),
  (138, oc 62 ([vi 0, vb 1, vi 0, vs 137 0 1 1, vh 9, vh 0, vf, vw 0, v0, vt, vi 6, vs 1798 0 1 1])),
  (145, oc 25 ([vw 2])),
  (146, oc 236 (vp 62 0 :: vi 6 :: vi 0 :: vb 1 :: vi 1 :: vs 145 0 1 1 :: vh 9 :: vh 0 :: vf :: vw 0 :: v0 :: vt :: vi 6 :: rp 3 (vt) (vi 0 :: vi 1 :: vh 0 :: vf :: vw 0 :: v0 :: vb 0 :: vi 0 :: []))),
  (147, oc 131 ([.func (.func 100) #[vp 146 0] #[], vb 3, vf, vf, vq 15])),
  (251, oc 255 ([vq 4354685564936845355])),
  (258, oc 25 ([vw 1])),
  (259, .map #[⟨vi 11, vi 0, 3⟩] 4),
  (260, oc 411 ([vs 328 0 1 1, vm 259])),
  (261, oc 146 (vs 258 0 1 1 :: vh 9 :: vt :: vi 256 :: vh 4 :: vi 4000 :: vi 4000 :: vi 1000 :: vw 300 :: vw 100 :: vw 6000 :: vb 8 :: vb 3 :: vb 20 :: vw 3000 :: vw 6000 :: vq 1 :: rp 16 (vb 0) (vw 2298633409 :: vw 1703865447 :: vh 9 :: vb 3 :: vq 9001 :: vw 2082467969 :: vw 982949460 :: vw 3000 :: vh 4 :: vs 961 0 1 1 :: vp 967 0 :: vp 980 0 :: vp 987 0 :: vp 994 0 :: vp 260 0 :: vs 996 0 56 56 :: vi 3000 :: vi 0 :: vi 0 :: vw 1 :: v0 :: v0 :: []))),
  (328, oc 359 ([vq 12301, vi 11])),
  (330, oc 25 ([vw 2])),
  (331, oc 194 ([vi 1, vp 261 0, vs 330 0 1 1, vs 2079 0 1 1, vf])),
  (333, oc 191 ([vp 331 0])),
  (383, oc 164 ([vb 0, vi 0])),
  (398, oc 119 ([vw 1, vw 2, vs 2165 0 24 24, vq 9001])),
  (446, oc 5 (vb 0 :: vb 9 :: vb 0 :: vb 9 :: rp 4 (vb 0) (vb 188 :: vb 79 :: vb 7 :: vb 224 :: vb 1 :: vb 0 :: vb 0 :: vb 28 :: vb 137 :: vb 2 :: vb 92 :: vb 193 :: vb 0 :: vb 0 :: vb 11 :: vb 184 :: vb 0 :: vb 4 :: vb 0 :: vb 4 :: vb 101 :: vb 142 :: vb 236 :: vb 103 :: vb 0 :: vb 5 :: vb 0 :: vb 8 :: rp 3 (vb 0) (vb 1 :: [])))),
  (469, oc 164 ([vb 0, vi 0])),
  (776, oc 164 ([vb 0, vi 0])),
  (820, oc 5 (vb 0 :: vb 9 :: vb 0 :: vb 9 :: vb 137 :: vb 2 :: vb 92 :: vb 193 :: vb 213 :: vb 106 :: vb 0 :: vb 220 :: vb 2 :: vb 0 :: vb 0 :: vb 88 :: vb 124 :: vb 31 :: vb 240 :: vb 129 :: vb 0 :: vb 0 :: vb 11 :: vb 184 :: vb 0 :: vb 4 :: vb 0 :: vb 4 :: vb 58 :: vb 150 :: vb 158 :: vb 84 :: vb 0 :: vb 5 :: vb 0 :: vb 8 :: rp 3 (vb 0) (vb 2 :: vb 0 :: vb 7 :: vb 0 :: vb 60 :: vb 124 :: vb 31 :: vb 240 :: vb 129 :: vb 137 :: vb 2 :: vb 92 :: vb 193 :: vb 58 :: vb 150 :: vb 158 :: vb 84 :: vb 101 :: vb 142 :: vb 236 :: vb 103 :: vb 0 :: vb 0 :: vb 11 :: vb 184 :: vb 0 :: vb 4 :: vb 0 :: vb 9 :: rp 19 (vb 0) (vb 1 :: rp 3 (vb 0) (vb 1 :: vb 244 :: vb 7 :: vb 233 :: vb 146 :: vb 14 :: vb 78 :: vb 104 :: vb 30 :: []))))),
  (863, oc 164 ([vb 0, vi 0, vb 0, vi 0])),
  (961, oc 25 ([vw 2])),
  (967, oc 415 ([vs 976 0 1 1, vi 0, vi 0, vi 20])),
  (972, oc 485 ([vq 100, vq 6000, vq 300, vq 0, vq 0, vf])),
  (973, oc 487 ([vi 256, vi 512, vi 65536, vi 0])),
  (974, oc 419 ([vw 1, vw 2, vp 972 0, vp 973 0, vi 3, vi 0, vf, vs 2021 0 1 1])),
  (976, oc 360 ([vp 974 0])),
  (980, oc 214 (vi 256 :: vh 4 :: vi 4000 :: vi 4000 :: vi 1000 :: vw 300 :: vw 100 :: vw 6000 :: vb 8 :: vb 3 :: vb 20 :: vw 3000 :: vw 6000 :: vw 1703865447 :: rp 16 (vh 0) (v0 :: vi 0 :: vi 0 :: []))),
  (987, oc 244 ([vw 1703865446, vw 1703865447, v0, vf, vw 0])),
  (988, .map #[] 0),
  (989, oc 474 ([vw 982949459, vm 988, v0])),
  (990, .map #[] 0),
  (991, oc 247 ([vm 990, vi 0])),
  (992, .map #[] 0),
  (993, .map #[] 0),
  (994, oc 202 ([vh 4, vi 4000, vi 1000, vp 989 0, vp 991 0, vm 992, vm 993, v0, vi 0])),
  (996, oc 5 (vb 124 :: vb 31 :: vb 240 :: vb 129 :: vb 137 :: vb 2 :: vb 92 :: vb 193 :: vb 58 :: vb 150 :: vb 158 :: vb 84 :: vb 101 :: vb 142 :: vb 236 :: vb 103 :: vb 0 :: vb 0 :: vb 11 :: vb 184 :: vb 0 :: vb 4 :: vb 0 :: vb 9 :: rp 19 (vb 0) (vb 1 :: rp 3 (vb 0) (vb 1 :: vb 244 :: vb 7 :: vb 233 :: vb 146 :: vb 14 :: vb 78 :: vb 104 :: vb 30 :: [])))),
  (1168, oc 164 ([vb 0, vi 0, vb 0, vi 0])),
  (1236, oc 5 (vb 0 :: vb 9 :: vb 0 :: vb 9 :: vb 124 :: vb 31 :: vb 240 :: vb 129 :: vb 183 :: vb 199 :: vb 120 :: vb 187 :: vb 10 :: vb 0 :: vb 0 :: vb 60 :: vb 124 :: vb 31 :: vb 240 :: vb 129 :: vb 137 :: vb 2 :: vb 92 :: vb 193 :: vb 58 :: vb 150 :: vb 158 :: vb 84 :: vb 101 :: vb 142 :: vb 236 :: vb 103 :: vb 0 :: vb 0 :: vb 11 :: vb 184 :: vb 0 :: vb 4 :: vb 0 :: vb 9 :: rp 19 (vb 0) (vb 1 :: rp 3 (vb 0) (vb 1 :: vb 244 :: vb 7 :: vb 233 :: vb 146 :: vb 14 :: vb 78 :: vb 104 :: vb 30 :: [])))),
  (1238, oc 56 ([vw 1, vw 2, vs 1236 0 72 72])),
  (1331, oc 25 ([vw 2])),
  (1332, .map #[⟨vi 11, vi 0, 0⟩] 1),
  (1333, oc 411 ([vs 1405 0 1 1, vm 1332])),
  (1334, oc 146 (vs 1331 0 1 1 :: vh 9 :: vt :: vi 256 :: vh 4 :: vi 4000 :: vi 4000 :: vi 1000 :: vw 300 :: vw 100 :: vw 6000 :: vb 8 :: vb 3 :: vb 20 :: vw 3000 :: vw 6000 :: vq 77 :: vb 5 :: rp 15 (vb 0) (vw 2082467969 :: vw 982949460 :: vh 9 :: vb 3 :: vq 0 :: vw 2298633409 :: vw 1703865447 :: vw 3000 :: vh 4 :: vs 1338 0 1 1 :: vp 1342 0 :: vp 1355 0 :: vp 1362 0 :: vp 1369 0 :: vp 1333 0 :: v0 :: vi 3000 :: vi 0 :: vi 0 :: vw 0 :: v0 :: v0 :: []))),
  (1338, oc 25 ([vw 1])),
  (1342, oc 415 ([vs 1351 0 1 1, vi 0, vi 0, vi 20])),
  (1347, oc 485 ([vq 100, vq 6000, vq 300, vq 0, vq 0, vf])),
  (1348, oc 487 ([vi 256, vi 512, vi 65536, vi 0])),
  (1349, oc 419 ([vw 2, vw 1, vp 1347 0, vp 1348 0, vi 3, vi 0, vf, v0])),
  (1351, oc 360 ([vp 1349 0])),
  (1355, oc 214 (vi 256 :: vh 4 :: vi 4000 :: vi 4000 :: vi 1000 :: vw 300 :: vw 100 :: vw 6000 :: vb 8 :: vb 3 :: vb 20 :: vw 3000 :: vw 6000 :: vw 982949460 :: rp 16 (vh 0) (v0 :: vi 0 :: vi 0 :: []))),
  (1362, oc 244 ([vw 982949459, vw 982949460, v0, vf, vw 0])),
  (1363, .map #[] 0),
  (1364, oc 474 ([vw 1703865446, vm 1363, v0])),
  (1365, .map #[] 0),
  (1366, oc 247 ([vm 1365, vi 0])),
  (1367, .map #[] 0),
  (1368, .map #[] 0),
  (1369, oc 202 ([vh 4, vi 4000, vi 1000, vp 1364 0, vp 1366 0, vm 1367, vm 1368, v0, vi 0])),
  (1405, oc 359 ([vq 3300, vi 11])),
  (1406, oc 194 ([vi 1, vp 1334 0, v0, vs 1421 0 1 1, vf])),
  (1408, oc 191 ([vp 1406 0])),
  (1411, oc 32 ([vb 1, vi 1])),
  (1421, oc 257 ([vw 1, vh 9, vh 9])),
  (1426, oc 104 ([vb 9, vj 0, vb 0, vi 0, v0, vh 0, vh 0, vf, vw 0, v0, vf, vw 1, vw 2, vs 446 0 40 40, vi 0, vq 0, vi 0, vi 0, vh 0, vf, vw 0, v0, vb 0, vi 0, vb 9, vj 0, vb 0, vi 0, v0, vh 0, vh 0, vf, vw 0, v0, vf, vw 1, vw 2, vs 1236 0 72 72, vi 0, vq 0, vi 0, vi 0, vh 0, vf, vw 0, v0, vb 0, vi 0])),
  (1514, oc 5 ([vb 0, vb 9, vb 0, vb 9, vb 137, vb 2, vb 92, vb 193, vb 252, vb 37, vb 169, vb 15, vb 11, vb 0, vb 0, vb 4])),
  (1516, oc 56 ([vw 2, vw 1, vs 1514 0 16 16])),
  (1643, oc 32 ([vb 1, vi 1])),
  (1777, oc 176 ([vi 0, vi 1])),
  (1798, oc 34 ([vi 0, vi 1, vh 0, vf, vw 0, v0, vb 0, vi 0])),
  (1899, oc 5 ([vb 97, vb 98, vb 99])),
  (1900, oc 62 ([vi 0, vb 2, vi 1, v0, vh 0, vh 0, vf, vw 0, vs 1899 0 3 3, vf, vi 7, v0])),
  (1907, oc 5 ([vb 97, vb 98, vb 99])),
  (1908, oc 236 (vp 62 0 :: vi 7 :: vi 1 :: vb 2 :: vi 1 :: v0 :: vh 0 :: vh 0 :: vf :: vw 0 :: vs 1907 0 3 3 :: vf :: vi 0 :: rp 3 (vf) (vi 0 :: vi 0 :: vh 0 :: vf :: vw 0 :: v0 :: vb 0 :: vi 0 :: []))),
  (1909, oc 131 ([.func (.func 100) #[vp 1908 0] #[], vb 1, vf, vf, vq 0])),
  (1914, oc 62 ([vi 1, vb 3, vi 1, v0, vh 0, vh 0, vf, vw 0, v0, vt, vi 8, v0])),
  (1916, oc 63 ([vp 138 0, vp 1900 0, vp 1914 0])),
  (1918, oc 178 ([vi 0, vf, vi 0, vt, vi 1, vf, vi 2, vf])),
  (1920, oc 236 (vp 120 0 :: vi 8 :: vi 2 :: vb 3 :: vi 1 :: v0 :: vh 0 :: vh 0 :: vf :: vw 0 :: v0 :: vt :: vi 0 :: rp 3 (vf) (vi 0 :: vi 0 :: vh 0 :: vf :: vw 0 :: v0 :: vb 0 :: vi 0 :: []))),
  (1921, oc 131 ([.func (.func 100) #[vp 1920 0] #[], vb 1, vf, vf, vq 0])),
  (1923, oc 127 ([vp 66 0, vp 69 0, vp 72 0, vp 124 0, vp 127 0, vp 130 0, vp 147 0, vp 1909 0, vp 1921 0])),
  (1972, oc 164 ([vb 0, vi 0, vb 0, vi 0])),
  (2021, oc 25 ([vw 1])),
  (2079, oc 257 ([vw 2, vh 9, vh 9])),
  (2088, oc 104 ([vb 1, vj 0, vb 1, vi 0, vs 145 0 1 1, vh 9, vh 0, vf, vw 0, v0, vt, vw 0, vw 0, v0, vi 0, vq 0, vi 0, vi 1, vh 0, vf, vw 0, v0, vb 0, vi 0, vb 9, vj 0, vb 0, vi 0, v0, vh 0, vh 0, vf, vw 0, v0, vf, vw 2, vw 1, vs 820 0 100 100, vi 0, vq 0, vi 0, vi 0, vh 0, vf, vw 0, v0, vb 0, vi 0, vb 9, vj 0, vb 0, vi 0, v0, vh 0, vh 0, vf, vw 0, v0, vf, vw 2, vw 1, vs 1514 0 16 16, vi 0, vq 0, vi 0, vi 0, vh 0, vf, vw 0, v0, vb 0, vi 0, vb 11, vi 0, vb 1, vi 1, vs 145 0 1 1, vh 9, vh 0, vf, vw 0, v0, vt, vw 0, vw 0, v0, vi 1, vq 0, vi 0, vi 1, vh 0, vf, vw 0, v0, vb 0, vi 0, vb 10, vj 0, vb 0, vi 0, v0, vh 0, vh 0, vf, vw 0, v0, vf, vw 0, vw 0, v0, vi 1, vq 9001, vi 0, vi 0, vh 0, vf, vw 0, v0, vb 0, vi 0])),
  (2165, oc 5 (vb 0 :: vb 9 :: vb 0 :: vb 9 :: vb 124 :: vb 31 :: vb 240 :: vb 129 :: vb 109 :: vb 215 :: vb 108 :: vb 247 :: vb 4 :: vb 0 :: vb 0 :: vb 12 :: rp 7 (vb 0) (vb 1 :: []))),
  (2223, oc 164 ([vb 1, vi 1, vb 2, vi 1]))],
  vt, 2248, [127, 122, 115, 2223, 118],
  [(115, .map #[⟨.agg #[vb 2, vi 1], vi 4, 5⟩, ⟨.agg #[vb 3, vi 1], vi 4, 6⟩] 7),
  (118, .map #[⟨vi 3, vs 469 0 0 1, 0⟩, ⟨vi 5, vs 776 0 0 1, 1⟩, ⟨vi 4, vs 2223 0 2 2, 2⟩] 3),
  (122, oc 169 ([vp 120 0, vi 4, vi 3, vi 1])),
  (127, oc 131 ([.func (.func 71) #[vp 122 0] #[], vb 1, vf, vf, vq 6])),
  (2223, oc 164 ([vb 2, vi 1, vb 3, vi 1]))]⟩
theorem fc13ok : CkOk Tryz.prog fc13 := ckOk_of (N := 200000) fcS12ok (by kernel_rfl) (by kernel_rfl)
noncomputable def fcS13 : Summ := ckS fc13 (fcS12)
theorem fcS13ok : SOk Tryz.prog fcS13 := ckS_ok fcS12ok fc13ok
def fc14 : Ck := ⟨13, 2248, [vp 15 0, .agg #[vb 2, vb 0, vi 0, vi 0, vb 0, vi 0, v0, vh 0, vh 0, vf, vw 0, v0, vf, vw 0, vw 0, v0]],
  [(13, oc 154 ([vs 1923 0 9 9])),
  (14, oc 123 ([vi 256, vs 398 0 1 1])),
  (15, oc 75 (vs 20 0 1 1 :: vh 9 :: vt :: vi 256 :: vh 4 :: vi 4000 :: vi 4000 :: vi 1000 :: vw 300 :: vw 100 :: vw 6000 :: vb 8 :: vb 3 :: vb 20 :: vw 3000 :: vw 6000 :: vq 1 :: rp 16 (vb 0) (vs 78 0 1 1 :: vh 9 :: vt :: vi 256 :: vh 4 :: vi 4000 :: vi 4000 :: vi 1000 :: vw 300 :: vw 100 :: vw 6000 :: vb 8 :: vb 3 :: vb 20 :: vw 3000 :: vw 6000 :: vq 77 :: vb 5 :: rp 15 (vb 0) (vp 13 0 :: vp 14 0 :: vp 62 0 :: vp 120 0 :: vq 9001 :: vs 1916 0 3 3 :: vs 2088 0 5 5 :: vs 1426 0 2 2 :: vs 1918 0 4 4 :: vs 1777 0 1 1 :: [])))),
  (16, oc 22 ([vp 15 0])),
  (17, oc 3 ([vi 0])),
  (20, oc 25 ([vw 1])),
  (27, oc 252 ([vs 51 0 8 8])),
  (28, .map #[] 0),
  (31, .map #[] 0),
  (34, .map #[] 0),
  (37, .map #[] 0),
  (40, .map #[] 0),
  (43, .map #[] 0),
  (46, .map #[] 0),
  (49, .map #[⟨.agg #[vw 2, vh 9, vh 9], vi 1, 3⟩] 4),
  (51, oc 253 ([vm 28, vm 31, vm 34, vm 37, vm 40, vm 43, vm 46, vm 49])),
  (53, oc 25 ([vw 1])),
  (55, .map #[⟨vw 2298633409, vi 1, 0⟩] 1),
  (56, oc 190 (vs 53 0 1 1 :: vh 9 :: vt :: vi 256 :: vh 4 :: vi 4000 :: vi 4000 :: vi 1000 :: vw 300 :: vw 100 :: vw 6000 :: vb 8 :: vb 3 :: vb 20 :: vw 3000 :: vw 6000 :: vq 1 :: rp 16 (vb 0) (vp 251 0 :: vp 27 0 :: vs 333 0 1 1 :: vi 1 :: vm 55 :: vf :: v0 :: vs 1643 0 1 1 :: []))),
  (57, .map #[] 19),
  (58, .map #[] 0),
  (59, .map #[] 0),
  (60, .map #[⟨vi 6, vs 1168 0 0 2, 0⟩, ⟨vi 2, vs 383 0 0 1, 1⟩, ⟨vi 0, vs 863 0 0 2, 2⟩, ⟨vi 1, vs 1972 0 0 2, 3⟩] 4),
  (61, oc 224 ([vm 57, vm 58, vm 59, vm 60])),
  (62, oc 161 ([vp 56 0, vp 61 0, vp 13 0, .func (.func 35) #[vp 15 0] #[], .func (.func 36) #[] #[vp 16 0], .func (.func 38) #[] #[vp 16 0, vp 17 0], .func (.func 40) #[vp 15 0] #[], vs 1516 3 0 0, v0, vi 0, vi 1, vi 2, v0])),
  (63, oc 166 ([vp 62 0, vi 0, vi 0, vw 2, vw 1, vs 1514 0 16 16, vi 1, vb 1, vi 7])),
  (64, oc 169 ([vp 62 0, vi 1, vi 0, vi 0])),
  (65, oc 172 ([vp 62 0, vi 2, vi 0])),
  (66, oc 131 ([.func (.func 70) #[vp 63 0] #[], vb 2, vf, vf, vq 13])),
  (69, oc 131 ([.func (.func 71) #[vp 64 0] #[], vb 2, vf, vf, vq 10])),
  (72, oc 131 ([.func (.func 72) #[vp 65 0] #[], vb 2, vf, vf, vq 14])),
  (75, oc 3 ([vi 1])),
  (78, oc 25 ([vw 2])),
  (85, oc 252 ([vs 109 0 8 8])),
  (86, .map #[⟨.agg #[vw 1, vh 9, vh 9], vi 1, 0⟩] 1),
  (89, .map #[] 0),
  (92, .map #[] 0),
  (95, .map #[] 0),
  (98, .map #[] 0),
  (101, .map #[] 0),
  (104, .map #[] 0),
  (107, .map #[] 0),
  (109, oc 253 ([vm 86, vm 89, vm 92, vm 95, vm 98, vm 101, vm 104, vm 107])),
  (111, oc 25 ([vw 2])),
  (112, oc 255 ([vq 4354685564936845431])),
  (113, .map #[⟨vw 2082467969, vi 1, 0⟩] 1),
  (114, oc 190 (vs 111 0 1 1 :: vh 9 :: vt :: vi 256 :: vh 4 :: vi 4000 :: vi 4000 :: vi 1000 :: vw 300 :: vw 100 :: vw 6000 :: vb 8 :: vb 3 :: vb 20 :: vw 3000 :: vw 6000 :: vq 77 :: vb 5 :: rp 15 (vb 0) (vp 112 0 :: vp 85 0 :: vs 1408 0 1 1 :: vi 1 :: vm 113 :: vf :: v0 :: vs 1411 0 1 1 :: []))),
  (115, .map #[⟨.agg #[vb 2, vi 1], vi 4, 5⟩, ⟨.agg #[vb 3, vi 1], vi 4, 6⟩] 7),
  (116, .map #[] 0),
  (117, .map #[] 0),
  (118, .map #[⟨vi 3, vs 469 0 0 1, 0⟩, ⟨vi 5, vs 776 0 0 1, 1⟩, ⟨vi 4, vs 2223 0 2 2, 2⟩] 3),
  (119, oc 224 ([vm 115, vm 116, vm 117, vm 118])),
  (120, oc 161 ([vp 114 0, vp 119 0, vp 13 0, .func (.func 35) #[vp 15 0] #[], .func (.func 36) #[] #[vp 16 0], .func (.func 38) #[] #[vp 16 0, vp 75 0], .func (.func 40) #[vp 15 0] #[], vs 1238 3 0 0, v0, vi 3, vi 4, vi 5, v0])),
  (121, oc 166 ([vp 120 0, vi 3, vi 0, vw 1, vw 2, vs 1236 0 72 72, vi 0, vb 1, vi 0])),
  (122, oc 169 ([vp 120 0, vi 4, vi 3, vi 1])),
  (123, oc 172 ([vp 120 0, vi 5, vi 0])),
  (124, oc 131 ([.func (.func 70) #[vp 121 0] #[], vb 2, vf, vf, vq 9])),
  (127, oc 131 ([.func (.func 71) #[vp 122 0] #[], vb 1, vf, vf, vq 6])),
  (130, oc 131 ([.func (.func 72) #[vp 123 0] #[], vb 2, vf, vf, vq 9])),
  (137, oc 25 ([vw 2])),
  (138, oc 62 ([vi 0, vb 1, vi 0, vs 137 0 1 1, vh 9, vh 0, vf, vw 0, v0, vt, vi 6, vs 1798 0 1 1])),
  (145, oc 25 ([vw 2])),
  (146, oc 236 (vp 62 0 :: vi 6 :: vi 0 :: vb 1 :: vi 1 :: vs 145 0 1 1 :: vh 9 :: vh 0 :: vf :: vw 0 :: v0 :: vt :: vi 6 :: rp 3 (vt) (vi 0 :: vi 1 :: vh 0 :: vf :: vw 0 :: v0 :: vb 0 :: vi 0 :: []))),
  (147, oc 131 ([.func (.func 100) #[vp 146 0] #[], vb 3, vf, vf, vq 15])),
  (251, oc 255 ([vq 4354685564936845355])),
  (258, oc 25 ([vw 1])),
  (259, .map #[⟨vi 11, vi 0, 3⟩] 4),
  (260, oc 411 ([vs 328 0 1 1, vm 259])),
  (261, oc 146 (vs 258 0 1 1 :: vh 9 :: vt :: vi 256 :: vh 4 :: vi 4000 :: vi 4000 :: vi 1000 :: vw 300 :: vw 100 :: vw 6000 :: vb 8 :: vb 3 :: vb 20 :: vw 3000 :: vw 6000 :: vq 1 :: rp 16 (vb 0) (vw 2298633409 :: vw 1703865447 :: vh 9 :: vb 3 :: vq 9001 :: vw 2082467969 :: vw 982949460 :: vw 3000 :: vh 4 :: vs 961 0 1 1 :: vp 967 0 :: vp 980 0 :: vp 987 0 :: vp 994 0 :: vp 260 0 :: vs 996 0 56 56 :: vi 3000 :: vi 0 :: vi 0 :: vw 1 :: v0 :: v0 :: []))),
  (328, oc 359 ([vq 12301, vi 11])),
  (330, oc 25 ([vw 2])),
  (331, oc 194 ([vi 1, vp 261 0, vs 330 0 1 1, vs 2079 0 1 1, vf])),
  (333, oc 191 ([vp 331 0])),
  (383, oc 164 ([vb 0, vi 0])),
  (398, oc 119 ([vw 1, vw 2, vs 2165 0 24 24, vq 9001])),
  (446, oc 5 (vb 0 :: vb 9 :: vb 0 :: vb 9 :: rp 4 (vb 0) (vb 188 :: vb 79 :: vb 7 :: vb 224 :: vb 1 :: vb 0 :: vb 0 :: vb 28 :: vb 137 :: vb 2 :: vb 92 :: vb 193 :: vb 0 :: vb 0 :: vb 11 :: vb 184 :: vb 0 :: vb 4 :: vb 0 :: vb 4 :: vb 101 :: vb 142 :: vb 236 :: vb 103 :: vb 0 :: vb 5 :: vb 0 :: vb 8 :: rp 3 (vb 0) (vb 1 :: [])))),
  (469, oc 164 ([vb 0, vi 0])),
  (776, oc 164 ([vb 0, vi 0])),
  (820, oc 5 (vb 0 :: vb 9 :: vb 0 :: vb 9 :: vb 137 :: vb 2 :: vb 92 :: vb 193 :: vb 213 :: vb 106 :: vb 0 :: vb 220 :: vb 2 :: vb 0 :: vb 0 :: vb 88 :: vb 124 :: vb 31 :: vb 240 :: vb 129 :: vb 0 :: vb 0 :: vb 11 :: vb 184 :: vb 0 :: vb 4 :: vb 0 :: vb 4 :: vb 58 :: vb 150 :: vb 158 :: vb 84 :: vb 0 :: vb 5 :: vb 0 :: vb 8 :: rp 3 (vb 0) (vb 2 :: vb 0 :: vb 7 :: vb 0 :: vb 60 :: vb 124 :: vb 31 :: vb 240 :: vb 129 :: vb 137 :: vb 2 :: vb 92 :: vb 193 :: vb 58 :: vb 150 :: vb 158 :: vb 84 :: vb 101 :: vb 142 :: vb 236 :: vb 103 :: vb 0 :: vb 0 :: vb 11 :: vb 184 :: vb 0 :: vb 4 :: vb 0 :: vb 9 :: rp 19 (vb 0) (vb 1 :: rp 3 (vb 0) (vb 1 :: vb 244 :: vb 7 :: vb 233 :: vb 146 :: vb 14 :: vb 78 :: vb 104 :: vb 30 :: []))))),
  (863, oc 164 ([vb 0, vi 0, vb 0, vi 0])),
  (961, oc 25 ([vw 2])),
  (967, oc 415 ([vs 976 0 1 1, vi 0, vi 0, vi 20])),
  (972, oc 485 ([vq 100, vq 6000, vq 300, vq 0, vq 0, vf])),
  (973, oc 487 ([vi 256, vi 512, vi 65536, vi 0])),
  (974, oc 419 ([vw 1, vw 2, vp 972 0, vp 973 0, vi 3, vi 0, vf, vs 2021 0 1 1])),
  (976, oc 360 ([vp 974 0])),
  (980, oc 214 (vi 256 :: vh 4 :: vi 4000 :: vi 4000 :: vi 1000 :: vw 300 :: vw 100 :: vw 6000 :: vb 8 :: vb 3 :: vb 20 :: vw 3000 :: vw 6000 :: vw 1703865447 :: rp 16 (vh 0) (v0 :: vi 0 :: vi 0 :: []))),
  (987, oc 244 ([vw 1703865446, vw 1703865447, v0, vf, vw 0])),
  (988, .map #[] 0),
  (989, oc 474 ([vw 982949459, vm 988, v0])),
  (990, .map #[] 0),
  (991, oc 247 ([vm 990, vi 0])),
  (992, .map #[] 0),
  (993, .map #[] 0),
  (994, oc 202 ([vh 4, vi 4000, vi 1000, vp 989 0, vp 991 0, vm 992, vm 993, v0, vi 0])),
  (996, oc 5 (vb 124 :: vb 31 :: vb 240 :: vb 129 :: vb 137 :: vb 2 :: vb 92 :: vb 193 :: vb 58 :: vb 150 :: vb 158 :: vb 84 :: vb 101 :: vb 142 :: vb 236 :: vb 103 :: vb 0 :: vb 0 :: vb 11 :: vb 184 :: vb 0 :: vb 4 :: vb 0 :: vb 9 :: rp 19 (vb 0) (vb 1 :: rp 3 (vb 0) (vb 1 :: vb 244 :: vb 7 :: vb 233 :: vb 146 :: vb 14 :: vb 78 :: vb 104 :: vb 30 :: [])))),
  (1168, oc 164 ([vb 0, vi 0, vb 0, vi 0])),
  (1236, oc 5 (vb 0 :: vb 9 :: vb 0 :: vb 9 :: vb 124 :: vb 31 :: vb 240 :: vb 129 :: vb 183 :: vb 199 :: vb 120 :: vb 187 :: vb 10 :: vb 0 :: vb 0 :: vb 60 :: vb 124 :: vb 31 :: vb 240 :: vb 129 :: vb 137 :: vb 2 :: vb 92 :: vb 193 :: vb 58 :: vb 150 :: vb 158 :: vb 84 :: vb 101 :: vb 142 :: vb 236 :: vb 103 :: vb 0 :: vb 0 :: vb 11 :: vb 184 :: vb 0 :: vb 4 :: vb 0 :: vb 9 :: rp 19 (vb 0) (vb 1 :: rp 3 (vb 0) (vb 1 :: vb 244 :: vb 7 :: vb 233 :: vb 146 :: vb 14 :: vb 78 :: vb 104 :: vb 30 :: [])))),
  (1238, oc 56 ([vw 1, vw 2, vs 1236 0 72 72])),
  (1331, oc 25 ([vw 2])),
  (1332, .map #[⟨vi 11, vi 0, 0⟩] 1),
  (1333, oc 411 ([vs 1405 0 1 1, vm 1332])),
  (1334, oc 146 (vs 1331 0 1 1 :: vh 9 :: vt :: vi 256 :: vh 4 :: vi 4000 :: vi 4000 :: vi 1000 :: vw 300 :: vw 100 :: vw 6000 :: vb 8 :: vb 3 :: vb 20 :: vw 3000 :: vw 6000 :: vq 77 :: vb 5 :: rp 15 (vb 0) (vw 2082467969 :: vw 982949460 :: vh 9 :: vb 3 :: vq 0 :: vw 2298633409 :: vw 1703865447 :: vw 3000 :: vh 4 :: vs 1338 0 1 1 :: vp 1342 0 :: vp 1355 0 :: vp 1362 0 :: vp 1369 0 :: vp 1333 0 :: v0 :: vi 3000 :: vi 0 :: vi 0 :: vw 0 :: v0 :: v0 :: []))),
  (1338, oc 25 ([vw 1])),
  (1342, oc 415 ([vs 1351 0 1 1, vi 0, vi 0, vi 20])),
  (1347, oc 485 ([vq 100, vq 6000, vq 300, vq 0, vq 0, vf])),
  (1348, oc 487 ([vi 256, vi 512, vi 65536, vi 0])),
  (1349, oc 419 ([vw 2, vw 1, vp 1347 0, vp 1348 0, vi 3, vi 0, vf, v0])),
  (1351, oc 360 ([vp 1349 0])),
  (1355, oc 214 (vi 256 :: vh 4 :: vi 4000 :: vi 4000 :: vi 1000 :: vw 300 :: vw 100 :: vw 6000 :: vb 8 :: vb 3 :: vb 20 :: vw 3000 :: vw 6000 :: vw 982949460 :: rp 16 (vh 0) (v0 :: vi 0 :: vi 0 :: []))),
  (1362, oc 244 ([vw 982949459, vw 982949460, v0, vf, vw 0])),
  (1363, .map #[] 0),
  (1364, oc 474 ([vw 1703865446, vm 1363, v0])),
  (1365, .map #[] 0),
  (1366, oc 247 ([vm 1365, vi 0])),
  (1367, .map #[] 0),
  (1368, .map #[] 0),
  (1369, oc 202 ([vh 4, vi 4000, vi 1000, vp 1364 0, vp 1366 0, vm 1367, vm 1368, v0, vi 0])),
  (1405, oc 359 ([vq 3300, vi 11])),
  (1406, oc 194 ([vi 1, vp 1334 0, v0, vs 1421 0 1 1, vf])),
  (1408, oc 191 ([vp 1406 0])),
  (1411, oc 32 ([vb 1, vi 1])),
  (1421, oc 257 ([vw 1, vh 9, vh 9])),
  (1426, oc 104 ([vb 9, vj 0, vb 0, vi 0, v0, vh 0, vh 0, vf, vw 0, v0, vf, vw 1, vw 2, vs 446 0 40 40, vi 0, vq 0, vi 0, vi 0, vh 0, vf, vw 0, v0, vb 0, vi 0, vb 9, vj 0, vb 0, vi 0, v0, vh 0, vh 0, vf, vw 0, v0, vf, vw 1, vw 2, vs 1236 0 72 72, vi 0, vq 0, vi 0, vi 0, vh 0, vf, vw 0, v0, vb 0, vi 0])),
  (1514, oc 5 ([vb 0, vb 9, vb 0, vb 9, vb 137, vb 2, vb 92, vb 193, vb 252, vb 37, vb 169, vb 15, vb 11, vb 0, vb 0, vb 4])),
  (1516, oc 56 ([vw 2, vw 1, vs 1514 0 16 16])),
  (1643, oc 32 ([vb 1, vi 1])),
  (1777, oc 176 ([vi 0, vi 1])),
  (1798, oc 34 ([vi 0, vi 1, vh 0, vf, vw 0, v0, vb 0, vi 0])),
  (1899, oc 5 ([vb 97, vb 98, vb 99])),
  (1900, oc 62 ([vi 0, vb 2, vi 1, v0, vh 0, vh 0, vf, vw 0, vs 1899 0 3 3, vf, vi 7, v0])),
  (1907, oc 5 ([vb 97, vb 98, vb 99])),
  (1908, oc 236 (vp 62 0 :: vi 7 :: vi 1 :: vb 2 :: vi 1 :: v0 :: vh 0 :: vh 0 :: vf :: vw 0 :: vs 1907 0 3 3 :: vf :: vi 0 :: rp 3 (vf) (vi 0 :: vi 0 :: vh 0 :: vf :: vw 0 :: v0 :: vb 0 :: vi 0 :: []))),
  (1909, oc 131 ([.func (.func 100) #[vp 1908 0] #[], vb 1, vf, vf, vq 0])),
  (1914, oc 62 ([vi 1, vb 3, vi 1, v0, vh 0, vh 0, vf, vw 0, v0, vt, vi 8, v0])),
  (1916, oc 63 ([vp 138 0, vp 1900 0, vp 1914 0])),
  (1918, oc 178 ([vi 0, vf, vi 0, vt, vi 1, vf, vi 2, vf])),
  (1920, oc 236 (vp 120 0 :: vi 8 :: vi 2 :: vb 3 :: vi 1 :: v0 :: vh 0 :: vh 0 :: vf :: vw 0 :: v0 :: vt :: vi 0 :: rp 3 (vf) (vi 0 :: vi 0 :: vh 0 :: vf :: vw 0 :: v0 :: vb 0 :: vi 0 :: []))),
  (1921, oc 131 ([.func (.func 100) #[vp 1920 0] #[], vb 1, vf, vf, vq 0])),
  (1923, oc 127 ([vp 66 0, vp 69 0, vp 72 0, vp 124 0, vp 127 0, vp 130 0, vp 147 0, vp 1909 0, vp 1921 0])),
  (1972, oc 164 ([vb 0, vi 0, vb 0, vi 0])),
  (2021, oc 25 ([vw 1])),
  (2079, oc 257 ([vw 2, vh 9, vh 9])),
  (2088, oc 104 ([vb 1, vj 0, vb 1, vi 0, vs 145 0 1 1, vh 9, vh 0, vf, vw 0, v0, vt, vw 0, vw 0, v0, vi 0, vq 0, vi 0, vi 1, vh 0, vf, vw 0, v0, vb 0, vi 0, vb 9, vj 0, vb 0, vi 0, v0, vh 0, vh 0, vf, vw 0, v0, vf, vw 2, vw 1, vs 820 0 100 100, vi 0, vq 0, vi 0, vi 0, vh 0, vf, vw 0, v0, vb 0, vi 0, vb 9, vj 0, vb 0, vi 0, v0, vh 0, vh 0, vf, vw 0, v0, vf, vw 2, vw 1, vs 1514 0 16 16, vi 0, vq 0, vi 0, vi 0, vh 0, vf, vw 0, v0, vb 0, vi 0, vb 11, vi 0, vb 1, vi 1, vs 145 0 1 1, vh 9, vh 0, vf, vw 0, v0, vt, vw 0, vw 0, v0, vi 1, vq 0, vi 0, vi 1, vh 0, vf, vw 0, v0, vb 0, vi 0, vb 10, vj 0, vb 0, vi 0, v0, vh 0, vh 0, vf, vw 0, v0, vf, vw 0, vw 0, v0, vi 1, vq 9001, vi 0, vi 0, vh 0, vf, vw 0, v0, vb 0, vi 0])),
  (2165, oc 5 (vb 0 :: vb 9 :: vb 0 :: vb 9 :: vb 124 :: vb 31 :: vb 240 :: vb 129 :: vb 109 :: vb 215 :: vb 108 :: vb 247 :: vb 4 :: vb 0 :: vb 0 :: vb 12 :: rp 7 (vb 0) (vb 1 :: []))),
  (2223, oc 164 ([vb 2, vi 1, vb 3, vi 1]))],
  vt, 2340, [127, 122, 1334, 1405, 1332, 1333, 1349, 114, 86, 1406, 1426, 15, 120, 130],
  [(15, oc 75 (vs 20 0 1 1 :: vh 9 :: vt :: vi 256 :: vh 4 :: vi 4000 :: vi 4000 :: vi 1000 :: vw 300 :: vw 100 :: vw 6000 :: vb 8 :: vb 3 :: vb 20 :: vw 3000 :: vw 6000 :: vq 1 :: rp 16 (vb 0) (vs 78 0 1 1 :: vh 9 :: vt :: vi 256 :: vh 4 :: vi 4000 :: vi 4000 :: vi 1000 :: vw 300 :: vw 100 :: vw 6000 :: vb 8 :: vb 3 :: vb 20 :: vw 3000 :: vw 6000 :: vq 77 :: vb 5 :: rp 15 (vb 0) (vp 13 0 :: vp 14 0 :: vp 62 0 :: vp 120 0 :: vq 9001 :: vs 1916 0 3 3 :: vs 2088 0 5 5 :: vs 2330 0 3 3 :: vs 1918 0 4 4 :: vs 1777 0 1 1 :: [])))),
  (86, .map #[⟨.agg #[vw 1, vh 9, vh 9], vi 1, 1⟩] 2),
  (114, oc 190 (vs 111 0 1 1 :: vh 9 :: vt :: vi 256 :: vh 4 :: vi 4000 :: vi 4000 :: vi 1000 :: vw 300 :: vw 100 :: vw 6000 :: vb 8 :: vb 3 :: vb 20 :: vw 3000 :: vw 6000 :: vq 77 :: vb 5 :: rp 15 (vb 0) (vp 112 0 :: vp 85 0 :: vs 1408 0 1 1 :: vi 1 :: vm 113 :: vf :: v0 :: vs 1411 0 1 1 :: []))),
  (120, oc 161 ([vp 114 0, vp 119 0, vp 13 0, .func (.func 35) #[vp 15 0] #[], .func (.func 36) #[] #[vp 16 0], .func (.func 38) #[] #[vp 16 0, vp 75 0], .func (.func 40) #[vp 15 0] #[], vs 1238 3 0 0, vs 2333 0 1 1, vi 3, vi 4, vi 5, v0])),
  (122, oc 169 ([vp 120 0, vi 4, vi 4, vi 1])),
  (127, oc 131 ([.func (.func 71) #[vp 122 0] #[], vb 1, vf, vt, vq 7])),
  (130, oc 131 ([.func (.func 72) #[vp 123 0] #[], vb 1, vf, vf, vq 9])),
  (1332, .map #[⟨vi 11, vi 0, 1⟩] 2),
  (1333, oc 411 ([vs 1405 0 1 1, vm 1332])),
  (1334, oc 146 (vs 1331 0 1 1 :: vh 9 :: vt :: vi 256 :: vh 4 :: vi 4000 :: vi 4000 :: vi 1000 :: vw 300 :: vw 100 :: vw 6000 :: vb 8 :: vb 3 :: vb 20 :: vw 3000 :: vw 6000 :: vq 77 :: vb 5 :: rp 15 (vb 0) (vw 2082467969 :: vw 982949460 :: vh 9 :: vb 3 :: vq 9001 :: vw 2298633409 :: vw 1703865447 :: vw 3000 :: vh 4 :: vs 1338 0 1 1 :: vp 1342 0 :: vp 1355 0 :: vp 1362 0 :: vp 1369 0 :: vp 1333 0 :: v0 :: vi 3000 :: vi 0 :: vi 0 :: vw 1 :: v0 :: v0 :: []))),
  (1349, oc 419 ([vw 2, vw 1, vp 1347 0, vp 1348 0, vi 3, vi 0, vf, vs 2268 0 1 1])),
  (1405, oc 359 ([vq 12301, vi 11])),
  (1406, oc 194 ([vi 1, vp 1334 0, v0, vs 2325 0 1 1, vf])),
  (2268, oc 25 ([vw 1])),
  (2294, oc 5 (vb 0 :: vb 9 :: vb 0 :: vb 9 :: vb 137 :: vb 2 :: vb 92 :: vb 193 :: vb 184 :: vb 20 :: vb 241 :: vb 71 :: vb 4 :: vb 0 :: vb 0 :: vb 12 :: rp 7 (vb 0) (vb 1 :: []))),
  (2325, oc 257 ([vw 1, vh 9, vh 9])),
  (2330, oc 104 ([vb 9, vj 0, vb 0, vi 0, v0, vh 0, vh 0, vf, vw 0, v0, vf, vw 1, vw 2, vs 446 0 40 40, vi 0, vq 0, vi 0, vi 0, vh 0, vf, vw 0, v0, vb 0, vi 0, vb 9, vj 0, vb 0, vi 0, v0, vh 0, vh 0, vf, vw 0, v0, vf, vw 1, vw 2, vs 1236 0 72 72, vi 0, vq 0, vi 0, vi 0, vh 0, vf, vw 0, v0, vb 0, vi 0, vb 10, vj 0, vb 0, vi 0, v0, vh 0, vh 0, vf, vw 0, v0, vf, vw 0, vw 0, v0, vi 1, vq 9001, vi 0, vi 0, vh 0, vf, vw 0, v0, vb 0, vi 0])),
  (2333, oc 56 ([vw 2, vw 1, vs 2294 0 24 24]))]⟩
theorem fc14ok : CkOk Tryz.prog fc14 := ckOk_of (N := 200000) fcS13ok (by kernel_rfl) (by kernel_rfl)
noncomputable def fcS14 : Summ := ckS fc14 (fcS13)
theorem fcS14ok : SOk Tryz.prog fcS14 := ckS_ok fcS13ok fc14ok
def fc15 : Ck := ⟨13, 2453, [vp 15 0, .agg #[vb 2, vb 0, vi 0, vi 0, vb 0, vi 0, v0, vh 0, vh 0, vf, vw 0, v0, vf, vw 0, vw 0, v0]],
  [(13, oc 154 ([vs 1923 0 9 9])),
  (14, oc 123 ([vi 256, vs 2401 0 2 2])),
  (15, oc 75 (vs 20 0 1 1 :: vh 9 :: vt :: vi 256 :: vh 4 :: vi 4000 :: vi 4000 :: vi 1000 :: vw 300 :: vw 100 :: vw 6000 :: vb 8 :: vb 3 :: vb 20 :: vw 3000 :: vw 6000 :: vq 1 :: rp 16 (vb 0) (vs 78 0 1 1 :: vh 9 :: vt :: vi 256 :: vh 4 :: vi 4000 :: vi 4000 :: vi 1000 :: vw 300 :: vw 100 :: vw 6000 :: vb 8 :: vb 3 :: vb 20 :: vw 3000 :: vw 6000 :: vq 77 :: vb 5 :: rp 15 (vb 0) (vp 13 0 :: vp 14 0 :: vp 62 0 :: vp 120 0 :: vq 9001 :: vs 1916 0 3 3 :: vs 2088 0 5 5 :: vs 2330 0 3 3 :: vs 1918 0 4 4 :: vs 1777 0 1 1 :: [])))),
  (16, oc 22 ([vp 15 0])),
  (17, oc 3 ([vi 0])),
  (20, oc 25 ([vw 1])),
  (27, oc 252 ([vs 51 0 8 8])),
  (28, .map #[] 0),
  (31, .map #[] 0),
  (34, .map #[] 0),
  (37, .map #[] 0),
  (40, .map #[] 0),
  (43, .map #[] 0),
  (46, .map #[] 0),
  (49, .map #[⟨.agg #[vw 2, vh 9, vh 9], vi 1, 3⟩] 4),
  (51, oc 253 ([vm 28, vm 31, vm 34, vm 37, vm 40, vm 43, vm 46, vm 49])),
  (53, oc 25 ([vw 1])),
  (55, .map #[⟨vw 2298633409, vi 1, 0⟩] 1),
  (56, oc 190 (vs 53 0 1 1 :: vh 9 :: vt :: vi 256 :: vh 4 :: vi 4000 :: vi 4000 :: vi 1000 :: vw 300 :: vw 100 :: vw 6000 :: vb 8 :: vb 3 :: vb 20 :: vw 3000 :: vw 6000 :: vq 1 :: rp 16 (vb 0) (vp 251 0 :: vp 27 0 :: vs 333 0 1 1 :: vi 1 :: vm 55 :: vf :: v0 :: vs 1643 0 1 1 :: []))),
  (57, .map #[⟨.agg #[vb 1, vi 1], vi 7, 19⟩, ⟨.agg #[vb 2, vi 1], vi 7, 20⟩] 21),
  (58, .map #[] 0),
  (59, .map #[] 0),
  (60, .map #[⟨vi 6, vs 1168 0 0 2, 0⟩, ⟨vi 2, vs 383 0 0 1, 1⟩, ⟨vi 0, vs 863 0 0 2, 2⟩, ⟨vi 1, vs 1972 0 0 2, 3⟩, ⟨vi 7, vs 2452 0 2 2, 4⟩] 5),
  (61, oc 224 ([vm 57, vm 58, vm 59, vm 60])),
  (62, oc 161 ([vp 56 0, vp 61 0, vp 13 0, .func (.func 35) #[vp 15 0] #[], .func (.func 36) #[] #[vp 16 0], .func (.func 38) #[] #[vp 16 0, vp 17 0], .func (.func 40) #[vp 15 0] #[], vs 1516 3 0 0, v0, vi 0, vi 1, vi 2, v0])),
  (63, oc 166 ([vp 62 0, vi 0, vi 0, vw 2, vw 1, vs 1514 0 16 16, vi 1, vb 1, vi 7])),
  (64, oc 169 ([vp 62 0, vi 1, vi 0, vi 0])),
  (65, oc 172 ([vp 62 0, vi 2, vi 0])),
  (66, oc 131 ([.func (.func 70) #[vp 63 0] #[], vb 2, vf, vf, vq 13])),
  (69, oc 131 ([.func (.func 71) #[vp 64 0] #[], vb 2, vf, vf, vq 10])),
  (72, oc 131 ([.func (.func 72) #[vp 65 0] #[], vb 2, vf, vf, vq 14])),
  (75, oc 3 ([vi 1])),
  (78, oc 25 ([vw 2])),
  (85, oc 252 ([vs 109 0 8 8])),
  (86, .map #[⟨.agg #[vw 1, vh 9, vh 9], vi 1, 1⟩] 2),
  (89, .map #[] 0),
  (92, .map #[] 0),
  (95, .map #[] 0),
  (98, .map #[] 0),
  (101, .map #[] 0),
  (104, .map #[] 0),
  (107, .map #[] 0),
  (109, oc 253 ([vm 86, vm 89, vm 92, vm 95, vm 98, vm 101, vm 104, vm 107])),
  (111, oc 25 ([vw 2])),
  (112, oc 255 ([vq 4354685564936845431])),
  (113, .map #[⟨vw 2082467969, vi 1, 0⟩] 1),
  (114, oc 190 (vs 111 0 1 1 :: vh 9 :: vt :: vi 256 :: vh 4 :: vi 4000 :: vi 4000 :: vi 1000 :: vw 300 :: vw 100 :: vw 6000 :: vb 8 :: vb 3 :: vb 20 :: vw 3000 :: vw 6000 :: vq 77 :: vb 5 :: rp 15 (vb 0) (vp 112 0 :: vp 85 0 :: vs 1408 0 1 1 :: vi 1 :: vm 113 :: vf :: v0 :: vs 1411 0 1 1 :: []))),
  (115, .map #[] 8),
  (116, .map #[] 0),
  (117, .map #[] 0),
  (118, .map #[⟨vi 3, vs 469 0 0 1, 0⟩, ⟨vi 5, vs 776 0 0 1, 1⟩, ⟨vi 4, vs 2223 0 0 2, 2⟩] 3),
  (119, oc 224 ([vm 115, vm 116, vm 117, vm 118])),
  (120, oc 161 ([vp 114 0, vp 119 0, vp 13 0, .func (.func 35) #[vp 15 0] #[], .func (.func 36) #[] #[vp 16 0], .func (.func 38) #[] #[vp 16 0, vp 75 0], .func (.func 40) #[vp 15 0] #[], vs 1238 3 0 0, v0, vi 3, vi 4, vi 5, v0])),
  (121, oc 166 ([vp 120 0, vi 3, vi 0, vw 1, vw 2, vs 1236 0 72 72, vi 0, vb 1, vi 0])),
  (122, oc 169 ([vp 120 0, vi 4, vi 0, vi 0])),
  (123, oc 172 ([vp 120 0, vi 5, vi 0])),
  (124, oc 131 ([.func (.func 70) #[vp 121 0] #[], vb 2, vf, vf, vq 9])),
  (127, oc 131 ([.func (.func 71) #[vp 122 0] #[], vb 2, vf, vf, vq 9])),
  (130, oc 131 ([.func (.func 72) #[vp 123 0] #[], vb 2, vf, vf, vq 13])),
  (137, oc 25 ([vw 2])),
  (138, oc 62 ([vi 0, vb 1, vi 0, vs 137 0 1 1, vh 9, vh 0, vf, vw 0, v0, vt, vi 6, vs 1798 0 1 1])),
  (145, oc 25 ([vw 2])),
  (146, oc 236 (vp 62 0 :: vi 6 :: vi 0 :: vb 1 :: vi 1 :: vs 145 0 1 1 :: vh 9 :: vh 0 :: vf :: vw 0 :: v0 :: vt :: vi 6 :: rp 3 (vt) (vi 0 :: vi 1 :: vh 0 :: vf :: vw 0 :: v0 :: vb 0 :: vi 0 :: []))),
  (147, oc 131 ([.func (.func 100) #[vp 146 0] #[], vb 3, vf, vf, vq 15])),
  (251, oc 255 ([vq 4354685564936845355])),
  (258, oc 25 ([vw 1])),
  (259, .map #[⟨vi 11, vi 0, 3⟩] 4),
  (260, oc 411 ([vs 328 0 1 1, vm 259])),
  (261, oc 146 (vs 258 0 1 1 :: vh 9 :: vt :: vi 256 :: vh 4 :: vi 4000 :: vi 4000 :: vi 1000 :: vw 300 :: vw 100 :: vw 6000 :: vb 8 :: vb 3 :: vb 20 :: vw 3000 :: vw 6000 :: vq 1 :: rp 16 (vb 0) (vw 2298633409 :: vw 1703865447 :: vh 9 :: vb 3 :: vq 9001 :: vw 2082467969 :: vw 982949460 :: vw 3000 :: vh 4 :: vs 961 0 1 1 :: vp 967 0 :: vp 980 0 :: vp 987 0 :: vp 994 0 :: vp 260 0 :: vs 996 0 56 56 :: vi 3000 :: vi 0 :: vi 0 :: vw 1 :: v0 :: v0 :: []))),
  (328, oc 359 ([vq 12301, vi 11])),
  (330, oc 25 ([vw 2])),
  (331, oc 194 ([vi 1, vp 261 0, vs 330 0 1 1, vs 2079 0 1 1, vf])),
  (333, oc 191 ([vp 331 0])),
  (383, oc 164 ([vb 0, vi 0])),
  (446, oc 5 (vb 0 :: vb 9 :: vb 0 :: vb 9 :: rp 4 (vb 0) (vb 188 :: vb 79 :: vb 7 :: vb 224 :: vb 1 :: vb 0 :: vb 0 :: vb 28 :: vb 137 :: vb 2 :: vb 92 :: vb 193 :: vb 0 :: vb 0 :: vb 11 :: vb 184 :: vb 0 :: vb 4 :: vb 0 :: vb 4 :: vb 101 :: vb 142 :: vb 236 :: vb 103 :: vb 0 :: vb 5 :: vb 0 :: vb 8 :: rp 3 (vb 0) (vb 1 :: [])))),
  (469, oc 164 ([vb 0, vi 0])),
  (776, oc 164 ([vb 0, vi 0])),
  (820, oc 5 (vb 0 :: vb 9 :: vb 0 :: vb 9 :: vb 137 :: vb 2 :: vb 92 :: vb 193 :: vb 213 :: vb 106 :: vb 0 :: vb 220 :: vb 2 :: vb 0 :: vb 0 :: vb 88 :: vb 124 :: vb 31 :: vb 240 :: vb 129 :: vb 0 :: vb 0 :: vb 11 :: vb 184 :: vb 0 :: vb 4 :: vb 0 :: vb 4 :: vb 58 :: vb 150 :: vb 158 :: vb 84 :: vb 0 :: vb 5 :: vb 0 :: vb 8 :: rp 3 (vb 0) (vb 2 :: vb 0 :: vb 7 :: vb 0 :: vb 60 :: vb 124 :: vb 31 :: vb 240 :: vb 129 :: vb 137 :: vb 2 :: vb 92 :: vb 193 :: vb 58 :: vb 150 :: vb 158 :: vb 84 :: vb 101 :: vb 142 :: vb 236 :: vb 103 :: vb 0 :: vb 0 :: vb 11 :: vb 184 :: vb 0 :: vb 4 :: vb 0 :: vb 9 :: rp 19 (vb 0) (vb 1 :: rp 3 (vb 0) (vb 1 :: vb 244 :: vb 7 :: vb 233 :: vb 146 :: vb 14 :: vb 78 :: vb 104 :: vb 30 :: []))))),
  (863, oc 164 ([vb 0, vi 0, vb 0, vi 0])),
  (961, oc 25 ([vw 2])),
  (967, oc 415 ([vs 976 0 1 1, vi 0, vi 0, vi 20])),
  (972, oc 485 ([vq 100, vq 6000, vq 300, vq 0, vq 0, vf])),
  (973, oc 487 ([vi 256, vi 512, vi 65536, vi 0])),
  (974, oc 419 ([vw 1, vw 2, vp 972 0, vp 973 0, vi 3, vi 0, vf, vs 2021 0 1 1])),
  (976, oc 360 ([vp 974 0])),
  (980, oc 214 (vi 256 :: vh 4 :: vi 4000 :: vi 4000 :: vi 1000 :: vw 300 :: vw 100 :: vw 6000 :: vb 8 :: vb 3 :: vb 20 :: vw 3000 :: vw 6000 :: vw 1703865447 :: rp 16 (vh 0) (v0 :: vi 0 :: vi 0 :: []))),
  (987, oc 244 ([vw 1703865446, vw 1703865447, v0, vf, vw 0])),
  (988, .map #[] 0),
  (989, oc 474 ([vw 982949459, vm 988, v0])),
  (990, .map #[] 0),
  (991, oc 247 ([vm 990, vi 0])),
  (992, .map #[] 0),
  (993, .map #[] 0),
  (994, oc 202 ([vh 4, vi 4000, vi 1000, vp 989 0, vp 991 0, vm 992, vm 993, v0, vi 0])),
  (996, oc 5 (vb 124 :: vb 31 :: vb 240 :: vb 129 :: vb 137 :: vb 2 :: vb 92 :: vb 193 :: vb 58 :: vb 150 :: vb 158 :: vb 84 :: vb 101 :: vb 142 :: vb 236 :: vb 103 :: vb 0 :: vb 0 :: vb 11 :: vb 184 :: vb 0 :: vb 4 :: vb 0 :: vb 9 :: rp 19 (vb 0) (vb 1 :: rp 3 (vb 0) (vb 1 :: vb 244 :: vb 7 :: vb 233 :: vb 146 :: vb 14 :: vb 78 :: vb 104 :: vb 30 :: [])))),
  (1168, oc 164 ([vb 0, vi 0, vb 0, vi 0])),
  (1236, oc 5 (vb 0 :: vb 9 :: vb 0 :: vb 9 :: vb 124 :: vb 31 :: vb 240 :: vb 129 :: vb 183 :: vb 199 :: vb 120 :: vb 187 :: vb 10 :: vb 0 :: vb 0 :: vb 60 :: vb 124 :: vb 31 :: vb 240 :: vb 129 :: vb 137 :: vb 2 :: vb 92 :: vb 193 :: vb 58 :: vb 150 :: vb 158 :: vb 84 :: vb 101 :: vb 142 :: vb 236 :: vb 103 :: vb 0 :: vb 0 :: vb 11 :: vb 184 :: vb 0 :: vb 4 :: vb 0 :: vb 9 :: rp 19 (vb 0) (vb 1 :: rp 3 (vb 0) (vb 1 :: vb 244 :: vb 7 :: vb 233 :: vb 146 :: vb 14 :: vb 78 :: vb 104 :: vb 30 :: [])))),
  (1238, oc 56 ([vw 1, vw 2, vs 1236 0 72 72])),
  (1331, oc 25 ([vw 2])),
  (1332, .map #[⟨vi 11, vi 0, 1⟩] 2),
  (1333, oc 411 ([vs 1405 0 1 1, vm 1332])),
  (1334, oc 146 (vs 1331 0 1 1 :: vh 9 :: vt :: vi 256 :: vh 4 :: vi 4000 :: vi 4000 :: vi 1000 :: vw 300 :: vw 100 :: vw 6000 :: vb 8 :: vb 3 :: vb 20 :: vw 3000 :: vw 6000 :: vq 77 :: vb 5 :: rp 15 (vb 0) (vw 2082467969 :: vw 982949460 :: vh 9 :: vb 3 :: vq 9001 :: vw 2298633409 :: vw 1703865447 :: vw 3000 :: vh 4 :: vs 1338 0 1 1 :: vp 1342 0 :: vp 1355 0 :: vp 1362 0 :: vp 1369 0 :: vp 1333 0 :: v0 :: vi 3000 :: vi 0 :: vi 0 :: vw 1 :: v0 :: v0 :: []))),
  (1338, oc 25 ([vw 1])),
  (1342, oc 415 ([vs 1351 0 1 1, vi 0, vi 0, vi 20])),
  (1347, oc 485 ([vq 100, vq 6000, vq 300, vq 0, vq 0, vf])),
  (1348, oc 487 ([vi 256, vi 512, vi 65536, vi 0])),
  (1349, oc 419 ([vw 2, vw 1, vp 1347 0, vp 1348 0, vi 3, vi 0, vf, vs 2268 0 1 1])),
  (1351, oc 360 ([vp 1349 0])),
  (1355, oc 214 (vi 256 :: vh 4 :: vi 4000 :: vi 4000 :: vi 1000 :: vw 300 :: vw 100 :: vw 6000 :: vb 8 :: vb 3 :: vb 20 :: vw 3000 :: vw 6000 :: vw 982949460 :: rp 16 (vh 0) (v0 :: vi 0 :: vi 0 :: []))),
  (1362, oc 244 ([vw 982949459, vw 982949460, v0, vf, vw 0])),
  (1363, .map #[] 0),
  (1364, oc 474 ([vw 1703865446, vm 1363, v0])),
  (1365, .map #[] 0),
  (1366, oc 247 ([vm 1365, vi 0])),
  (1367, .map #[] 0),
  (1368, .map #[] 0),
  (1369, oc 202 ([vh 4, vi 4000, vi 1000, vp 1364 0, vp 1366 0, vm 1367, vm 1368, v0, vi 0])),
  (1405, oc 359 ([vq 12301, vi 11])),
  (1406, oc 194 ([vi 1, vp 1334 0, v0, vs 2325 0 1 1, vf])),
  (1408, oc 191 ([vp 1406 0])),
  (1411, oc 32 ([vb 1, vi 1])),
  (1514, oc 5 ([vb 0, vb 9, vb 0, vb 9, vb 137, vb 2, vb 92, vb 193, vb 252, vb 37, vb 169, vb 15, vb 11, vb 0, vb 0, vb 4])),
  (1516, oc 56 ([vw 2, vw 1, vs 1514 0 16 16])),
  (1643, oc 32 ([vb 1, vi 1])),
  (1777, oc 176 ([vi 0, vi 1])),
  (1798, oc 34 ([vi 0, vi 1, vh 0, vf, vw 0, v0, vb 0, vi 0])),
  (1899, oc 5 ([vb 97, vb 98, vb 99])),
  (1900, oc 62 ([vi 0, vb 2, vi 1, v0, vh 0, vh 0, vf, vw 0, vs 1899 0 3 3, vf, vi 7, v0])),
  (1907, oc 5 ([vb 97, vb 98, vb 99])),
  (1908, oc 236 (vp 62 0 :: vi 7 :: vi 1 :: vb 2 :: vi 1 :: v0 :: vh 0 :: vh 0 :: vf :: vw 0 :: vs 1907 0 3 3 :: vf :: vi 2 :: rp 3 (vf) (vi 0 :: vi 0 :: vh 0 :: vf :: vw 0 :: v0 :: vb 0 :: vi 0 :: []))),
  (1909, oc 131 ([.func (.func 100) #[vp 1908 0] #[], vb 1, vf, vf, vq 2])),
  (1914, oc 62 ([vi 1, vb 3, vi 1, v0, vh 0, vh 0, vf, vw 0, v0, vt, vi 8, v0])),
  (1916, oc 63 ([vp 138 0, vp 1900 0, vp 1914 0])),
  (1918, oc 178 ([vi 0, vf, vi 0, vt, vi 1, vf, vi 2, vf])),
  (1920, oc 236 (vp 120 0 :: vi 8 :: vi 2 :: vb 3 :: vi 1 :: v0 :: vh 0 :: vh 0 :: vf :: vw 0 :: v0 :: vt :: vi 0 :: rp 3 (vf) (vi 0 :: vi 0 :: vh 0 :: vf :: vw 0 :: v0 :: vb 0 :: vi 0 :: []))),
  (1921, oc 131 ([.func (.func 100) #[vp 1920 0] #[], vb 1, vf, vf, vq 0])),
  (1923, oc 127 ([vp 66 0, vp 69 0, vp 72 0, vp 124 0, vp 127 0, vp 130 0, vp 147 0, vp 1909 0, vp 1921 0])),
  (1972, oc 164 ([vb 0, vi 0, vb 0, vi 0])),
  (2021, oc 25 ([vw 1])),
  (2079, oc 257 ([vw 2, vh 9, vh 9])),
  (2088, oc 104 ([vb 1, vj 0, vb 1, vi 0, vs 145 0 1 1, vh 9, vh 0, vf, vw 0, v0, vt, vw 0, vw 0, v0, vi 0, vq 0, vi 0, vi 1, vh 0, vf, vw 0, v0, vb 0, vi 0, vb 9, vj 0, vb 0, vi 0, v0, vh 0, vh 0, vf, vw 0, v0, vf, vw 2, vw 1, vs 820 0 100 100, vi 0, vq 0, vi 0, vi 0, vh 0, vf, vw 0, v0, vb 0, vi 0, vb 9, vj 0, vb 0, vi 0, v0, vh 0, vh 0, vf, vw 0, v0, vf, vw 2, vw 1, vs 1514 0 16 16, vi 0, vq 0, vi 0, vi 0, vh 0, vf, vw 0, v0, vb 0, vi 0, vb 11, vi 0, vb 1, vi 1, vs 145 0 1 1, vh 9, vh 0, vf, vw 0, v0, vt, vw 0, vw 0, v0, vi 1, vq 0, vi 0, vi 1, vh 0, vf, vw 0, v0, vb 0, vi 0, vb 10, vj 0, vb 0, vi 0, v0, vh 0, vh 0, vf, vw 0, v0, vf, vw 0, vw 0, v0, vi 1, vq 9001, vi 0, vi 0, vh 0, vf, vw 0, v0, vb 0, vi 0])),
  (2165, oc 5 (vb 0 :: vb 9 :: vb 0 :: vb 9 :: vb 124 :: vb 31 :: vb 240 :: vb 129 :: vb 109 :: vb 215 :: vb 108 :: vb 247 :: vb 4 :: vb 0 :: vb 0 :: vb 12 :: rp 7 (vb 0) (vb 1 :: []))),
  (2223, oc 164 ([vb 0, vi 0, vb 0, vi 0])),
  (2268, oc 25 ([vw 1])),
  (2325, oc 257 ([vw 1, vh 9, vh 9])),
  (2330, oc 104 ([vb 9, vj 0, vb 0, vi 0, v0, vh 0, vh 0, vf, vw 0, v0, vf, vw 1, vw 2, vs 446 0 40 40, vi 0, vq 0, vi 0, vi 0, vh 0, vf, vw 0, v0, vb 0, vi 0, vb 9, vj 0, vb 0, vi 0, v0, vh 0, vh 0, vf, vw 0, v0, vf, vw 1, vw 2, vs 1236 0 72 72, vi 0, vq 0, vi 0, vi 0, vh 0, vf, vw 0, v0, vb 0, vi 0, vb 10, vj 0, vb 0, vi 0, v0, vh 0, vh 0, vf, vw 0, v0, vf, vw 0, vw 0, v0, vi 1, vq 9001, vi 0, vi 0, vh 0, vf, vw 0, v0, vb 0, vi 0])),
  (2399, oc 5 (vb 0 :: vb 9 :: vb 0 :: vb 9 :: vb 137 :: vb 2 :: vb 92 :: vb 193 :: vb 184 :: vb 20 :: vb 241 :: vb 71 :: vb 4 :: vb 0 :: vb 0 :: vb 12 :: rp 7 (vb 0) (vb 1 :: []))),
  (2401, oc 119 ([vw 1, vw 2, vs 2165 0 24 24, vq 9001, vw 2, vw 1, vs 2399 0 24 24, vq 9001])),
  (2452, oc 164 ([vb 1, vi 1, vb 2, vi 1]))],
  vt, 2475, [1909, 1908, 57, 2452, 60],
  [(57, .map #[⟨.agg #[vb 2, vi 1], vi 7, 20⟩, ⟨.agg #[vb 3, vi 1], vi 7, 21⟩] 22),
  (60, .map #[⟨vi 6, vs 1168 0 0 2, 0⟩, ⟨vi 2, vs 383 0 0 1, 1⟩, ⟨vi 0, vs 863 0 0 2, 2⟩, ⟨vi 1, vs 1972 0 0 2, 3⟩, ⟨vi 7, vs 2452 0 2 2, 4⟩] 5),
  (1908, oc 236 (vp 62 0 :: vi 7 :: vi 1 :: vb 2 :: vi 1 :: v0 :: vh 0 :: vh 0 :: vf :: vw 0 :: vs 1907 0 3 3 :: vf :: vi 3 :: rp 3 (vf) (vi 0 :: vi 0 :: vh 0 :: vf :: vw 0 :: v0 :: vb 0 :: vi 0 :: []))),
  (1909, oc 131 ([.func (.func 100) #[vp 1908 0] #[], vb 1, vf, vf, vq 3])),
  (2452, oc 164 ([vb 2, vi 1, vb 3, vi 1]))]⟩
end Go.Proofs.YtnbbklhkbemloaaGreat