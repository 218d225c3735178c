/- What the law leans on, part 5. No conditions. -/
import Derived.Test.YtfpeehikichafaaGreatProg
import Derived.KernelRfl
import Derived.Test.YtfpeehikichafaaGreatChecked
import Derived.Test.YtfpeehikichafaaGreatAssocKnownPart4
set_option linter.unusedVariables false
set_option linter.unusedSimpArgs false
namespace Go.Proofs.YtfpeehikichafaaGreat
instance : CT Tryz.prog 5 none := ⟨by kernel_rfl⟩
theorem un5 : Tryz.prog.underlying 5 = some (.int .u8) := by kernel_rfl
instance : CT Tryz.prog 27 none := ⟨by kernel_rfl⟩
theorem un27 : Tryz.prog.underlying 27 = some (.int .u32) := by kernel_rfl
instance : EL Tryz.prog 40 (none, 1) := ⟨by kernel_rfl⟩
instance : UN Tryz.prog 40 (.slice 5) := ⟨by kernel_rfl⟩
instance : SZ Tryz.prog 363 256 := ⟨by kernel_rfl⟩
instance : EL Tryz.prog 363 (some 256, 1) := ⟨by kernel_rfl⟩
instance : IC Tryz.prog 5 27 .u32 := .of un5 un27
instance : IC Tryz.prog 27 5 .u8 := .of un27 un5
theorem noGlobals : Tryz.prog.globals.size = 0 := by kernel_rfl
end Go.Proofs.YtfpeehikichafaaGreat
namespace Go.Proofs.YtfpeehikichafaaGreat
open Go.RowKit
def rowNats : List Nat := [
  0, 4067132163, 3778769143, 324072436, 3348797215, 904991772, 648144872, 3570033899,
  2329499855, 2024987596, 1809983544, 2575936315, 1296289744, 3207089363, 2893594407, 1578318884,
  274646895, 3795141740, 4049975192, 51262619, 3619967088, 632279923, 922689671, 3298075524,
  2592579488, 1760304291, 2075979607, 2312596564, 1562183871, 2943781820, 3156637768, 1313733451,
  549293790, 3537243613, 3246849577, 871202090, 3878099393, 357341890, 102525238, 4101499445,
  2858735121, 1477399826, 1264559846, 3107202533, 1845379342, 2677391885, 2361733625, 2125378298,
  820201905, 3263744690, 3520608582, 598981189, 4151959214, 85089709, 373468761, 3827903834,
  3124367742, 1213305469, 1526817161, 2842354314, 2107672161, 2412447074, 2627466902, 1861252501,
  1098587580, 3004210879, 2688576843, 1378610760, 2262928035, 1955203488, 1742404180, 2511436119,
  3416409459, 969524848, 714683780, 3639785095, 205050476, 4266873199, 3976438427, 526918040,
  1361435347, 2739821008, 2954799652, 1114974503, 2529119692, 1691668175, 2005155131, 2247081528,
  3690758684, 697762079, 986182379, 3366744552, 476452099, 3993867776, 4250756596, 255256311,
  1640403810, 2477592673, 2164122517, 1922457750, 2791048317, 1412925310, 1197962378, 3037525897,
  3944729517, 427051182, 170179418, 4165941337, 746937522, 3740196785, 3451792453, 1070968646,
  1905808397, 2213795598, 2426610938, 1657317369, 3053634322, 1147748369, 1463399397, 2773627110,
  4215344322, 153784257, 444234805, 3893493558, 1021025245, 3467647198, 3722505002, 797665321,
  2197175160, 1889384571, 1674398607, 2443626636, 1164749927, 3070701412, 2757221520, 1446797203,
  137323447, 4198817972, 3910406976, 461344835, 3484808360, 1037989803, 781091935, 3705997148,
  2460548119, 1623424788, 1939049696, 2180517859, 1429367560, 2807687179, 3020495871, 1180866812,
  410100952, 3927582683, 4182430767, 186734380, 3756733383, 763408580, 1053836080, 3434856499,
  2722870694, 1344288421, 1131464017, 2971354706, 1708204729, 2545590714, 2229949006, 1988219213,
  680717673, 3673779818, 3383336350, 1002577565, 4010310262, 493091189, 238226049, 4233660802,
  2987750089, 1082061258, 1395524158, 2705686845, 1972364758, 2279892693, 2494862625, 1725896226,
  952904198, 3399985413, 3656866545, 731699698, 4283874585, 222117402, 510512622, 3959836397,
  3280807620, 837199303, 582374963, 3504198960, 68661723, 4135334616, 3844915500, 390545967,
  1230274059, 3141532936, 2825850620, 1510247935, 2395924756, 2091215383, 1878366691, 2644384480,
  3553878443, 565732008, 854102364, 3229815391, 340358836, 3861050807, 4117890627, 119113024,
  1493875044, 2875275879, 3090270611, 1247431312, 2660249211, 1828433272, 2141937292, 2378227087,
  3811616794, 291187481, 34330861, 4032846830, 615137029, 3603020806, 3314634738, 939183345,
  1776939221, 2609017814, 2295496738, 2058945313, 2926798794, 1545135305, 1330124605, 3173225534,
  4084100981, 17165430, 307568514, 3762199681, 888469610, 3332340585, 3587147933, 665062302,
  2042050490, 2346497209, 2559330125, 1793573966, 3190661285, 1279665062, 1595330642, 2910671697]
def u32s (ns : List Nat) : List Value := ns.map fun n => .int .u32 (.ofNat n)
def rowVal : Value := .agg (u32s rowNats).toArray
def eqU32 : List Value → List Nat → Bool
  | [], [] => true
  | .int .u32 (.ofNat a) :: l, n :: ns => Nat.beq a n && eqU32 l ns
  | _, _ => false
theorem eqU32_eq : ∀ {l : List Value} {ns : List Nat}, eqU32 l ns = true → l = u32s ns
  | [], [], _ => rfl
  | [], n :: ns, h => by cases h
  | v :: l, [], h => by unfold eqU32 at h; split at h <;> simp_all
  | v :: l, n :: ns, h => by
    unfold eqU32 at h
    split at h
    · simp_all
    · rename_i a l' n' ns' e1 e2
      cases e1; cases e2
      rw [Bool.and_eq_true] at h
      rw [Nat.eq_of_beq_eq_true h.1, eqU32_eq h.2]
      rfl
    · cases h
def isRow : Value → AHeap → List Nat → Option Bool
  | .agg a, _, _ => some (eqU32 a.toList rowNats)
  | _, _, _ => none
theorem isRow_eq {v : Value} {h : AHeap} {wr : List Nat} (e : isRow v h wr = some true) : v = rowVal := by
  unfold isRow at e
  split at e
  · rename_i a
    simp only [Option.some.injEq] at e
    show Value.agg a = .agg (u32s rowNats).toArray
    rw [← eqU32_eq e]
  · cases e
theorem CallRun.const {P : Program} {W : Nat → Prop} {f : FuncId} {v : Value} {h' : AHeap} (hg : P.globals.size = 0) (hc : CallRun P W f #[] emptyH v h') (hv : flatB v = true) (h : AHeap) : CallRun P (fun _ => False) f #[] h v h := by
  refine ⟨.refl _ _, fun m w args' hm hf ha hh => ?_⟩
  obtain rfl : args' = #[] := Array.eq_empty_of_size_eq_zero ha.1.symm
  refine (hc.run (fun _ => none) w #[] (fun g hlt => by omega) (fun i _ _ => rfl) (ARel.empty _) (hrel_empty P Ev w)).mono ?_
  rintro e w' ⟨v', m', rfl, hF, hV, _⟩
  have keep : ∀ b, b < w.heap.size → w'.heap[b]? = w.heap[b]? := fun b hb => hF.keep b hb fun j k hj => absurd hj (Nat.not_lt_zero j)
  refine ⟨v', m, rfl, ⟨fun _ _ => rfl, fun i l a b _ => by omega, fun b hb _ => keep b hb, hF.size, hF.os, hF.tape, hF.output⟩, ?_, ?_⟩
  · rw [VRel.eq_of_flat hV hv]; exact VRel.flat m hv
  · exact { lt := fun i l e => Nat.lt_of_lt_of_le (hh.lt i l e) hF.size
            typ := hh.typ
            inj := hh.inj
            roS := hh.roS
            obj := fun i l o hd e g => by
              obtain ⟨o', a, b⟩ := hh.obj i l o hd e g
              exact ⟨o', by rw [keep l.b (hh.lt i l e)]; exact a, b⟩ }
theorem rowRun : callK (A := Bool) Tryz.prog noS (fev Tryz.prog noS 5000) 272 [] emptyH isRow = some true := by kernel_rfl
theorem rowFlat : flatB rowVal = true := by kernel_rfl
theorem row_const (h : AHeap) : CallRun Tryz.prog (fun _ => False) 272 #[] h rowVal h := by
  obtain ⟨v, h', wr, hc, he⟩ := callRun_of (noS_ok _) rowRun
  obtain rfl := isRow_eq he
  exact CallRun.const (by kernel_rfl) hc rowFlat h
noncomputable def rowS : Summ := fun f args h => Bool.rec none (List.rec (some (rowVal, h, [])) (fun _ _ _ => none) args) (Nat.beq f 272)
theorem rowS_ok : SOk Tryz.prog rowS := fun f args h v h' wr e => by
  unfold rowS at e
  cases hb : Nat.beq f 272 with
  | false => rw [hb] at e; cases e
  | true =>
    rw [hb] at e
    cases args with
    | cons a l => cases e
    | nil =>
      cases e
      obtain rfl := Nat.eq_of_beq_eq_true hb
      exact (row_const h).weak fun i hi => hi.elim
def asB : Value → AHeap → List Nat → Option Bool
  | .bool b, _, _ => some b
  | _, _, _ => none
theorem asB_true {v : Value} {h : AHeap} {wr : List Nat} (e : asB v h wr = some true) : v = .bool true := by
  unfold asB at e
  split at e
  · cases e; rfl
  · cases e
end Go.Proofs.YtfpeehikichafaaGreat
namespace Go.Proofs.YtfpeehikichafaaGreat
set_option maxRecDepth 100000
attribute [local irreducible] Go GoR GoL
theorem rowNats_eq : rowNats = (List.range 256).map (Crc.it 8) := by decide +kernel
def IsRow (l : List Value) : Prop := l.length = 256 ∧ l.all Value.oneCell' = true ∧ ∀ j, j < 256 → l[j]? = some (.int .u32 (Crc.it 8 j : Nat))
theorem row_spec (h : AHeap) : CallS Tryz.prog [] 272 [] h fun v h' => (∃ l, v = .agg l.toArray ∧ IsRow l) ∧ h' = h := by
  obtain ⟨v, h', wr, hc, he⟩ := callRun_of (noS_ok _) rowRun
  obtain rfl := isRow_eq he
  refine (CallS.known noGlobals hc rowFlat h).mono ?_
  rintro _ h' ⟨rfl, rfl⟩
  refine ⟨⟨u32s rowNats, rfl, by decide +kernel, by decide +kernel, fun j hj => ?_⟩, rfl⟩
  rw [rowNats_eq]
  simp [u32s, hj]
theorem com_u32 {x : Nat} (hx : x < 4294967296) : iBin .xor .u32 (if IntKind.u32.signed then -1 else IntKind.u32.max) (x : Int) = some (.int .u32 ((4294967295 - x : Nat) : Int)) := by
  have e := iXor_nat (k := .u32) (x := 4294967295) (y := x) (show 4294967295 < 4294967296 by decide) hx
  rw [Crc.not_eq x hx] at e
  exact e
def zrow : List Value := List.replicate 256 (.int .u32 0)
theorem al_row : AL Tryz.prog 363 zrow := ⟨by kernel_rfl⟩
theorem setL_all {c l : List Value} (e : l.length = c.length) : setL c 0 l = l := by
  simp [setL, e]
theorem zrow_len : zrow.length = 256 := by simp [zrow]
theorem byte_at {zs : List UInt8} {k : Nat} (hk : k < zs.length) : (zs.map bv)[k]? = some (.int .u8 (zs[k].toNat : Int)) := by simp [hk, bv]
set_option maxHeartbeats 4000000 in
theorem crcMore_spec (s : Nat) (hs : s < 4294967296) (a : Option Addr) (cap : Nat) (zs : List UInt8) (hl : zs.length ≤ 1000000000) (h : AHeap) (hz : Rv Tryz.prog h 1 a zs.length cap (zs.map bv)) : CallS Tryz.prog [] 250 [.int .u32 s, .slice a zs.length cap] h fun v h' => v = .int .u32 (Crc.more s zs : Nat) := by
  generalize hlen : zs.length = len at *
  rcases Nat.eq_zero_or_pos len with h0 | h0
  · subst h0
    obtain rfl : zs = [] := List.eq_nil_of_length_eq_zero hlen
    (refine CallS.of2 Tryz.func250 rfl Tryz.ntmps250 Tryz.results250 rfl ?_)
    (refine Go.run (g:=?_))
    (first|refine Go.finT (by first|exact .inr rfl|exact .inl rfl) rfl ?_|refine Go.fin1 (by first|exact .inr rfl|exact .inl rfl) rfl (hq:=?_))
    show Value.int .u32 _ = _
    rw [Crc.more_nil s hs]
  · (refine CallS.of2 Tryz.func250 rfl Tryz.ntmps250 Tryz.results250 rfl ?_)
    (refine Go.run (g:=?_))
    refine GoR.call rfl rfl rfl rfl rfl rfl rfl (((row_spec _).argA).mono ?_)
    rintro _ h1 ⟨⟨l, rfl, hl1, hl2, hl3⟩, rfl⟩ s1
    refine GoR.alloc (ha := al_row) rfl rfl rfl rfl ?_
    refine GoR.store (c' := l) rfl rfl rfl rfl rfl (AHeap.get_push_same _ _) rfl hl1 (by rw [zrow_len]; decide) hl2 (setL_all (hl1.trans zrow_len.symm)) (.inr (Nat.le_refl _)) ?_
    (refine Go.run (g:=?_))
    refine GoR.com rfl rfl rfl rfl rfl (com_u32 hs) ?_
    (refine Go.run (g:=?_))
    have hg : ((h1.push (.cells zrow 363)).put h1.n (some (.cells l 363))).get h1.n = some (.cells l 363) := get_put_self (AHeap.get_push_same _ _)
    have S1 : Same h1 ((h1.push (.cells zrow 363)).put h1.n (some (.cells l 363))) := ((Same.refl h1).push _).put (Nat.le_refl _) _
    generalize ((h1.push (.cells zrow 363)).put h1.n (some (.cells l 363))) = H at *
    have hz2 := hz.same S1
    refine Go.loop (α := Nat) (fun k => [(18, .int .i64 k), (6, .int .u32 (Crc.fold (4294967295 - s) (zs.take k) : Nat)), (17, .int .i64 len), (16, .slice a len cap), (5, .pointer (some ⟨h1.n, 0, none⟩))]) (fun _ => []) (fun _ => H) (fun k => k ≤ len) (fun k => len - k) 0 (Nat.zero_le _) ⟨rfl, rfl, rfl, rfl, rfl, trivial⟩ rfl rfl ?_
    rintro k hk
    rcases Nat.lt_or_ge k len with hlt | hge
    · have hcell := byte_at (zs := zs) (k := k) (by omega)
      have hst := Crc.fold_snoc (4294967295 - s) (zs.take k) (zs[k]'(by omega))
      rw [← List.take_succ_eq_append_getElem (by omega)] at hst
      have hr := Crc.fold_lt (4294967295 - s) (zs.take k) (by omega)
      have hcb := (zs[k]'(by omega)).toNat_lt
      generalize Crc.fold (4294967295 - s) (zs.take k) = r at *
      generalize (zs[k]'(by omega)).toNat = c at *
      have hj : (r % 256) ^^^ c < 2 ^ 8 := Nat.xor_lt_two_pow (by omega) hcb
      have hlj := hl3 _ hj
      have hv := Crc.it_lt 8 ((r % 256) ^^^ c) (Nat.lt_trans hj (by decide))
      rw [← Crc.beh_row] at hst
      have hrow : (r % 2 ^ 8) ^^^ c = (r % 256) ^^^ c := rfl
      rw [hrow] at hst
      (refine Go.run (g:=?_))
      refine GoR.xorN rfl rfl rfl rfl rfl rfl (show r % 256 < 2 ^ 8 by omega) hcb ?_
      generalize (r % 256) ^^^ c = j at *
      generalize Crc.it 8 j = v at *
      (refine Go.run (g:=?_))
      refine GoR.xorN rfl rfl rfl rfl rfl rfl hv (show r / 2 ^ 8 < 2 ^ 32 by omega) ?_
      (refine Go.run (g:=?_))
      refine Go.again (k + 1) hlt (by omega) ⟨rfl, ?_, rfl, rfl, rfl, trivial⟩ rfl rfl
      rw [hst]
      rfl
    · obtain rfl : k = len := by omega
      have hr := Crc.fold_lt (4294967295 - s) (zs.take k) (by omega)
      have ht : zs.take k = zs := List.take_of_length_le (by omega)
      rw [ht] at hr ⊢
      have hm : Crc.more s zs = 4294967295 - Crc.fold (4294967295 - s) zs := rfl
      rw [hm]
      generalize Crc.fold (4294967295 - s) zs = r at *
      (refine Go.run (g:=?_))
      refine GoR.com rfl rfl rfl rfl rfl (com_u32 hr) ?_
      (refine Go.run (g:=?_))
      (first|refine Go.finT (by first|exact .inr rfl|exact .inl rfl) rfl ?_|refine Go.fin1 (by first|exact .inr rfl|exact .inl rfl) rfl (hq:=?_))
      rfl
theorem it_succ (k x : Nat) : Crc.it (k + 1) x = Crc.bit (Crc.it k x) := by rw [Crc.it_add]; rfl
theorem behind_spec (r c : Nat) (hr : r < 4294967296) (hc : c < 256) (h : AHeap) : CallS Tryz.prog [] 252 [.int .u32 r, .int .u8 c] h fun v h' => v = .int .u32 (Crc.beh r c : Nat) := by
  have hx : r ^^^ c < 2 ^ 32 := Nat.xor_lt_two_pow hr (by omega)
  have hb : Crc.beh r c = Crc.it 8 (r ^^^ c) := rfl
  rw [hb]
  (refine CallS.of2 Tryz.func252 rfl Tryz.ntmps252 Tryz.results252 rfl ?_)
  (refine Go.run (g:=?_))
  refine GoR.xorN rfl rfl rfl rfl rfl rfl hr (show c < 2 ^ 32 by omega) ?_
  generalize r ^^^ c = x at *
  (refine Go.run (g:=?_))
  refine Go.loop (α := Nat) (fun k => [(5, .int .i64 k), (0, .int .u32 (Crc.it k x : Nat))]) (fun _ => []) (fun _ => h) (fun k => k ≤ 8) (fun k => 8 - k) 0 (Nat.zero_le _) ⟨rfl, rfl, trivial⟩ rfl rfl ?_
  rintro k hk
  have hv := Crc.it_lt k x hx
  rcases Nat.lt_or_ge k 8 with hlt | hge
  · have hs := it_succ k x
    generalize Crc.it k x = y at *
    rcases Nat.mod_two_eq_zero_or_one y with h2 | h2
    · have hb : Crc.bit y = y / 2 := by unfold Crc.bit; rw [if_neg (by omega)]
      (refine Go.run (g:=?_))
      refine Go.again (k + 1) hlt (by omega) ⟨rfl, by rw [hs, hb]; rfl, trivial⟩ rfl rfl
    · have hb : Crc.bit y = (y / 2) ^^^ Crc.P := by unfold Crc.bit; rw [if_pos h2]
      (refine Go.run (g:=?_))
      refine GoR.xorN rfl rfl rfl rfl rfl rfl (show y / 2 < 2 ^ 32 by omega) (show 2197175160 < 2 ^ 32 by decide) ?_
      (refine Go.run (g:=?_))
      refine Go.again (k + 1) hlt (by omega) ⟨rfl, by rw [hs, hb]; rfl, trivial⟩ rfl rfl
  · obtain rfl : k = 8 := by omega
    (refine Go.run (g:=?_))
    (first|refine Go.finT (by first|exact .inr rfl|exact .inl rfl) rfl ?_|refine Go.fin1 (by first|exact .inr rfl|exact .inl rfl) rfl (hq:=?_))
    rfl
theorem refMore_spec (s : Nat) (hs : s < 4294967296) (a : Option Addr) (cap : Nat) (zs : List UInt8) (hl : zs.length ≤ 1000000000) (h : AHeap) (hz : Rv Tryz.prog h 1 a zs.length cap (zs.map bv)) : CallS Tryz.prog [] 223 [.int .u32 s, .slice a zs.length cap] h fun v h' => v = .int .u32 (Crc.more s zs : Nat) := by
  generalize hlen : zs.length = len at *
  (refine CallS.of2 Tryz.func223 rfl Tryz.ntmps223 Tryz.results223 rfl ?_)
  (refine Go.run (g:=?_))
  refine Go.loop (α := Nat × AHeap) (fun k => [(6, .int .i64 k.1), (5, .int .u32 (Crc.fold (4294967295 - s) (zs.take k.1) : Nat)), (1, .slice a len cap)]) (fun _ => []) (fun k => k.2) (fun k => k.1 ≤ len ∧ Same h k.2) (fun k => len - k.1) (0, h) ?_ ?_ rfl rfl ?_
  · exact ⟨Nat.zero_le _, Same.refl h⟩
  · exact ⟨rfl, rfl, rfl, trivial⟩
  rintro ⟨k, h1⟩ ⟨hk, s1⟩
  simp only at hk s1 ⊢
  have hr := Crc.fold_lt (4294967295 - s) (zs.take k) (by omega)
  rcases Nat.lt_or_ge k len with hlt | hge
  · have hcell := byte_at (zs := zs) (k := k) (by omega)
    have hst := Crc.fold_snoc (4294967295 - s) (zs.take k) (zs[k]'(by omega))
    rw [← List.take_succ_eq_append_getElem (by omega)] at hst
    have hcb := (zs[k]'(by omega)).toNat_lt
    generalize Crc.fold (4294967295 - s) (zs.take k) = r at *
    generalize (zs[k]'(by omega)).toNat = c at *
    have hz1 := hz.same s1
    (refine Go.run (g:=?_))
    refine GoR.call rfl rfl rfl rfl rfl rfl rfl (((behind_spec r c hr hcb _).argA).mono ?_)
    rintro _ h2 rfl s2
    (refine Go.run (g:=?_))
    refine Go.again (k + 1, h2) ⟨hlt, s1.trans s2⟩ (by simp only; omega) ⟨rfl, ?_, rfl, trivial⟩ rfl rfl
    rw [hst]
    rfl
  · obtain rfl : k = len := by omega
    have ht : zs.take k = zs := List.take_of_length_le (by omega)
    rw [ht] at hr ⊢
    have hm : Crc.more s zs = 4294967295 - Crc.fold (4294967295 - s) zs := rfl
    rw [hm]
    generalize Crc.fold (4294967295 - s) zs = r at *
    (refine Go.run (g:=?_))
    (first|refine Go.finT (by first|exact .inr rfl|exact .inl rfl) rfl ?_|refine Go.fin1 (by first|exact .inr rfl|exact .inl rfl) rfl (hq:=?_))
    rfl
end Go.Proofs.YtfpeehikichafaaGreat
namespace Go.Proofs.YtfpeehikichafaaGreat
set_option maxRecDepth 100000
theorem CallRun.row {P : Program} (hg : P.globals.size = 0) {f : FuncId} {args : List Value} {h h₂ : AHeap} {b : Nat} {c : List Value} {v : Value} (hb : rowOf (h.get b) = some c) (hfl : ∀ x ∈ c, flatB x = true) (hc : CallRun P (fun _ => False) f args.toArray (restr h [b]) v h₂) (hv : flatB v = true) (hargs : ∀ (m m₁ : Mp) (a' : Array Value), m b = m₁ b → ARel m args.toArray a' → ARel m₁ args.toArray a') : CallRun P (fun _ => False) f args.toArray h v h := by
  refine ⟨.refl _ _, fun m w args' hm hf ha hh => ?_⟩
  have hbn : b < h.n := by
    rcases rowOf_inv hb with ⟨t, e⟩ | e
    · exact AHeap.lt e
    · exact AHeap.lt e
  obtain ⟨m₁, hm₁⟩ : ∃ m₁ : Mp, m₁ = fun i => if i = b then m i else none := ⟨_, rfl⟩
  have e1 : m b = m₁ b := by rw [hm₁]; simp
  have e2 : ∀ i l, m₁ i = some l → i = b ∧ m b = some l := fun i l e => by
    rw [hm₁] at e
    by_cases q : i = b
    · subst q; simp at e; exact ⟨rfl, e⟩
    · simp [q] at e
  refine (hc.run m₁ w args' (fun g hlt => by omega) (fun i h1 h2 => ?_) (hargs m m₁ args' e1 ha) ?_).mono ?_
  · rw [restr_n] at h1
    rw [hm₁]
    exact if_neg (by omega)
  · refine ⟨fun i l e => ?_, fun i l c' t e g => ?_, fun i j l k e e' _ _ _ => ?_, fun i l c' e g => ?_, fun i l o _ e g => ?_⟩
    · obtain ⟨rfl, e⟩ := e2 i l e; exact hh.lt _ l e
    · obtain ⟨rfl, e⟩ := e2 i l e; exact hh.typ _ l c' t e (restr_some g).1
    · rw [(e2 i l e).1, (e2 j k e').1]
    · obtain ⟨rfl, e⟩ := e2 i l e; exact hh.roS _ l c' e (restr_some g).1
    · obtain ⟨rfl, e⟩ := e2 i l e
      have g := (restr_some g).1
      obtain ⟨o', x, y⟩ := hh.obj _ l o trivial e g
      refine ⟨o', x, ?_⟩
      rw [g] at hb
      cases y with
      | cells hs hf' hv' =>
        cases hb
        exact .cells hs hf' fun i u e => by
          obtain ⟨u', a, r⟩ := hv' i u e
          have fu := hfl u (List.mem_of_getElem? e)
          rw [VRel.eq_of_flat r fu] at a
          exact ⟨u, a, VRel.flat m₁ fu⟩
      | ro hs hv' =>
        cases hb
        exact .ro hs fun i u e => by
          obtain ⟨u', a, r⟩ := hv' i u e
          have fu := hfl u (List.mem_of_getElem? e)
          rw [VRel.eq_of_flat r fu] at a
          exact ⟨u, a, VRel.flat m₁ fu⟩
      | _ => cases hb
  rintro e w' ⟨v', m', rfl, hF, hV, _⟩
  have keep : ∀ b, b < w.heap.size → w'.heap[b]? = w.heap[b]? := fun b hb => hF.keep b hb fun j k hj x => x.elim
  refine ⟨v', m, rfl, ⟨fun _ _ => rfl, fun i l a b _ => by omega, fun b hb _ => keep b hb, hF.size, hF.os, hF.tape, hF.output⟩, ?_, ?_⟩
  · rw [VRel.eq_of_flat hV hv]; exact VRel.flat m hv
  · exact { lt := fun i l e => Nat.lt_of_lt_of_le (hh.lt i l e) hF.size
            typ := hh.typ
            inj := hh.inj
            roS := hh.roS
            obj := fun i l o hd e g => by
              obtain ⟨o', a, b⟩ := hh.obj i l o hd e g
              exact ⟨o', by rw [keep l.b (hh.lt i l e)]; exact a, b⟩ }
noncomputable def bitX (r : Nat) : Nat := Nat.xor (Nat.div r 2) (Nat.mul (Nat.mod r 2) 2197175160)
theorem bitX_eq (r : Nat) : bitX r = Crc.bit r := by
  show (r / 2) ^^^ (r % 2 * 2197175160) = Crc.bit r
  unfold Crc.bit Crc.P
  rcases Nat.mod_two_eq_zero_or_one r with h | h
  · rw [h, if_neg (by decide), Nat.zero_mul, Nat.xor_zero]
  · rw [h, if_pos rfl, Nat.one_mul]
noncomputable def crcStepK {α : Type} (r n : Nat) (K : Nat → α) : α := forceNat (Nat.xor r n) fun r => forceNat (bitX r) fun r => forceNat (bitX r) fun r => forceNat (bitX r) fun r => forceNat (bitX r) fun r => forceNat (bitX r) fun r => forceNat (bitX r) fun r => forceNat (bitX r) fun r => forceNat (bitX r) K
theorem crcStepK_eq {α : Type} (r n : Nat) (K : Nat → α) : crcStepK r n K = K (Crc.beh r n) := by
  unfold crcStepK
  simp only [forceNat_eq, bitX_eq]
  rfl
noncomputable def byteK {α : Type} (v : Value) : (Nat → Option α) → Option α := match v with
  | .int .u8 (.ofNat n) => fun K => ifK (Nat.ble (Nat.succ n) 256) (K n) none
  | _ => fun _ => none
noncomputable def foldK {α : Type} (l : List Value) : Nat → (Nat → Option α) → Option α := List.rec (fun r K => K r) (fun v _ ih r K => byteK v fun n => crcStepK r n fun r => ih r K) l
theorem byteK_inv {α : Type} {v : Value} {K : Nat → Option α} {a : α} (e : byteK v K = some a) : ∃ z : UInt8, v = bv z ∧ K z.toNat = some a := by
  unfold byteK at e
  split at e
  · rename_i n
    obtain ⟨h1, h2⟩ := ifK_yes e
    have hn : n < 256 := Nat.le_of_ble_eq_true h1
    refine ⟨UInt8.ofNat n, ?_, ?_⟩
    · simp only [bv, UInt8.toNat_ofNat', Value.int.injEq, true_and]
      show (n : Int) = _
      omega
    · rw [UInt8.toNat_ofNat', Nat.mod_eq_of_lt hn]; exact h2
  · cases e
theorem foldK_inv {α : Type} : ∀ {l : List Value} {r : Nat} {K : Nat → Option α} {a : α}, foldK l r K = some a → ∃ zs : List UInt8, l = zs.map bv ∧ K (Crc.fold r zs) = some a
  | [], r, K, a, e => ⟨[], rfl, e⟩
  | v :: l, r, K, a, e => by
    have e' : byteK v (fun n => crcStepK r n fun r => foldK l r K) = some a := e
    obtain ⟨z, rfl, h⟩ := byteK_inv e'
    rw [crcStepK_eq] at h
    obtain ⟨zs, hz, h2⟩ := foldK_inv h
    exact ⟨z :: zs, by rw [hz]; rfl, h2⟩
noncomputable def flatL (c : List Value) : Bool := List.rec true (fun v _ ih => Bool.rec false ih (flatB v)) c
theorem flatL_inv : ∀ {c : List Value}, flatL c = true → ∀ x ∈ c, flatB x = true
  | [], _, x, hx => by cases hx
  | v :: l, e, x, hx => by
    have e' : (Bool.rec false (flatL l) (flatB v) : Bool) = true := e
    cases hv : flatB v with
    | false => rw [hv] at e'; cases e'
    | true =>
      rw [hv] at e'
      rcases List.mem_cons.1 hx with rfl | hx
      · exact hv
      · exact flatL_inv e' x hx
noncomputable def moreC (c : List Value) (s o len cap : Nat) (h : AHeap) : Option (Value × AHeap × List Nat) :=
  ifK (Nat.ble (Nat.succ s) 4294967296) (ifK (Nat.ble (Nat.add o len) c.length) (ifK (Nat.ble len cap) (ifK (Nat.ble len 1000000) (ifK (flatL c) (foldK ((c.drop o).take len) (Nat.sub 4294967295 s) fun r => forceNat (Nat.sub 4294967295 r) fun x => some (.int .u32 (.ofNat x), h, [])) none) none) none) none) none
noncomputable def moreO (o : Option AObj) (s i len cap : Nat) (h : AHeap) : Option (Value × AHeap × List Nat) := match o with
  | some (.cells c t) => ifK (Nat.beq t 5) (moreC c s i len cap h) none
  | some (.ro c) => moreC c s i len cap h
  | _ => none
noncomputable def moreK (args : List Value) (h : AHeap) : Option (Value × AHeap × List Nat) := match args with
  | [.int .u32 (.ofNat s), .slice (some ⟨b, o, none⟩) len cap] => moreO (hget h b) s o len cap h
  | _ => none
theorem moreC_inv {c : List Value} {s o len cap : Nat} {h h' : AHeap} {v : Value} {wr : List Nat} (e : moreC c s o len cap h = some (v, h', wr)) : ∃ zs : List UInt8, s < 4294967296 ∧ o + len ≤ c.length ∧ len ≤ cap ∧ zs.length = len ∧ len ≤ 1000000 ∧ (∀ x ∈ c, flatB x = true) ∧ (c.drop o).take len = zs.map bv ∧ v = .int .u32 (Crc.more s zs : Nat) ∧ h' = h ∧ wr = [] := by
  unfold moreC at e
  obtain ⟨h1, e⟩ := ifK_yes e
  obtain ⟨h2, e⟩ := ifK_yes e
  obtain ⟨h3, e⟩ := ifK_yes e
  obtain ⟨h4, e⟩ := ifK_yes e
  obtain ⟨h5, e⟩ := ifK_yes e
  obtain ⟨zs, hz, e⟩ := foldK_inv e
  rw [forceNat_eq] at e
  simp only [Option.some.injEq, Prod.mk.injEq] at e
  obtain ⟨rfl, rfl, rfl⟩ := e
  have h2' : o + len ≤ c.length := Nat.le_of_ble_eq_true h2
  refine ⟨zs, Nat.le_of_ble_eq_true h1, h2', Nat.le_of_ble_eq_true h3, ?_, Nat.le_of_ble_eq_true h4, flatL_inv h5, hz, rfl, rfl, rfl⟩
  have := congrArg List.length hz
  rw [List.length_map, List.length_take, List.length_drop] at this
  omega
theorem moreK_inv {args : List Value} {h h' : AHeap} {v : Value} {wr : List Nat} (e : moreK args h = some (v, h', wr)) : ∃ (s b o cap : Nat) (zs : List UInt8) (c : List Value), args = [.int .u32 s, .slice (some ⟨b, o, none⟩) zs.length cap] ∧ s < 4294967296 ∧ zs.length ≤ 1000000 ∧ rowOf (h.get b) = some c ∧ (∀ x ∈ c, flatB x = true) ∧ Rv Tryz.prog (restr h [b]) 1 (some ⟨b, o, none⟩) zs.length cap (zs.map bv) ∧ v = .int .u32 (Crc.more s zs : Nat) ∧ h' = h ∧ wr = [] := by
  unfold moreK at e
  split at e
  case h_2 => cases e
  rename_i s b o len cap
  rw [hget_eq] at e
  have hr : (restr h [b]).get b = h.get b := by rw [restr_get]; simp
  unfold moreO at e
  split at e
  · rename_i c t hg
    obtain ⟨ht, e⟩ := ifK_yes e
    obtain rfl := Nat.eq_of_beq_eq_true ht
    obtain ⟨zs, k1, k2, k3, rfl, k4, k5, k6, k7, k8, k9⟩ := moreC_inv e
    exact ⟨s, b, o, cap, zs, c, rfl, k1, k4, by rw [hg]; rfl, k5, .mk (.inl ⟨_, by rw [hr]; exact hg, by kernel_rfl⟩) (by omega) k3 (by rw [Nat.mul_one]; exact k6), k7, k8, k9⟩
  · rename_i c hg
    obtain ⟨zs, k1, k2, k3, rfl, k4, k5, k6, k7, k8, k9⟩ := moreC_inv e
    exact ⟨s, b, o, cap, zs, c, rfl, k1, k4, by rw [hg]; rfl, k5, .mk (.inr (by rw [hr]; exact hg)) (by omega) k3 (by rw [Nat.mul_one]; exact k6), k7, k8, k9⟩
  · cases e
theorem more_sound {f : FuncId} (hf : ∀ (s : Nat), s < 4294967296 → ∀ (a : Option Addr) (cap : Nat) (zs : List UInt8), zs.length ≤ 1000000000 → ∀ h : AHeap, Rv Tryz.prog h 1 a zs.length cap (zs.map bv) → CallS Tryz.prog [] f [.int .u32 s, .slice a zs.length cap] h fun v h' => v = .int .u32 (Crc.more s zs : Nat)) {args : List Value} {h h' : AHeap} {v : Value} {wr : List Nat} (e : moreK args h = some (v, h', wr)) : CallRun Tryz.prog (· ∈ wr) f args.toArray h v h' := by
  obtain ⟨s, b, o, cap, zs, c, rfl, k1, k2, k3, k4, k5, rfl, rfl, rfl⟩ := moreK_inv e
  obtain ⟨v, h₂, hc, rfl⟩ := hf s k1 _ cap zs (by omega) _ k5
  refine (CallRun.row noGlobals k3 k4 (hc.weak fun i hi => by cases hi) rfl fun m m₁ a' hm ha => ?_).weak fun i hi => hi.elim
  refine ⟨ha.1, fun i u u' h1 h2 => ?_⟩
  have r := ha.2 i u u' h1 h2
  match i, h1 with
  | 0, h1 =>
    simp at h1; subst h1
    rw [VRel.eq_of_flat r rfl]
    exact VRel.flat m₁ rfl
  | 1, h1 =>
    simp at h1; subst h1
    generalize zs.length = len at r ⊢
    cases r with
    | slice hk hcc => exact .slice (by rw [← hm]; exact hk) hcc
    | slice0 => exact .slice0 ..
noncomputable def crcOn (S : Summ) : Summ := fun f args h => Bool.rec (Bool.rec (S f args h) (moreK args h) (Nat.beq f 223)) (moreK args h) (Nat.beq f 250)
theorem crcOn_ok {S : Summ} (hS : SOk Tryz.prog S) : SOk Tryz.prog (crcOn S) := fun f args h v h' wr e => by
  unfold crcOn at e
  cases h1 : Nat.beq f 250 with
  | true =>
    rw [h1] at e
    obtain rfl := Nat.eq_of_beq_eq_true h1
    exact more_sound crcMore_spec e
  | false =>
    rw [h1] at e
    cases h2 : Nat.beq f 223 with
    | true =>
      rw [h2] at e
      obtain rfl := Nat.eq_of_beq_eq_true h2
      exact more_sound refMore_spec e
    | false =>
      rw [h2] at e
      exact hS f args h v h' wr e
end Go.Proofs.YtfpeehikichafaaGreat
namespace Go.Proofs.YtfpeehikichafaaGreat
open Go.RowKit
theorem HRel.fewer {P : Program} {m : Mp} {h H : AHeap} {w : World} (hh : HRel P m Ev h w) (sub : ∀ i o, H.get i = some o → h.get i = some o) : HRel P m Ev H w where
  lt := hh.lt
  typ := fun i l c t a b => hh.typ i l c t a (sub i _ b)
  inj := fun i j l k a b c d e => by
    refine hh.inj i j l k a b (fun q => c ?_) ?_ e
    · cases hc : H.get i with
      | none => rfl
      | some o => rw [sub i o hc] at q; cases q
    · obtain ⟨o, x, y⟩ := d
      exact ⟨o, sub j o x, y⟩
  roS := fun i l c a b => hh.roS i l c a (sub i _ b)
  obj := fun i l o _ a b => hh.obj i l o trivial a (sub i _ b)
theorem CallRun.frame {P : Program} {C : Nat → Prop} {f : FuncId} {args : Array Value} {H h H' h' : AHeap} {v : Value} (k : CallRun P C f args H v H') (n0 : H.n = h.n) (n1 : H'.n = h'.n) (sub : ∀ i o, H.get i = some o → h.get i = some o)
    (e1 : ∀ i, i < h.n → ¬ C i → h'.get i = h.get i) (e2 : ∀ i o, (C i ∨ h.n ≤ i) → h'.get i = some o → H'.get i = some o) : CallRun P C f args h v h' := by
  have hn : h.n ≤ h'.n := by rw [← n0, ← n1]; exact k.fr.n
  have liv : ∀ i, H.live i → h.live i := fun i ⟨o, x, y⟩ => ⟨o, sub i o x, y⟩
  have frm : ∀ i, i < h.n → C i → ∀ o, h'.get i = some o → H'.get i = some o := fun i hi hc o e => e2 i o (.inl hc) e
  refine ⟨⟨hn, e1, fun i c t hi e => ?_, fun i hi e => ?_, fun i hi e => ?_, fun i c hi e => ?_⟩, fun m w args' hm hf ha hh => ?_⟩
  · by_cases hc : C i
    · obtain ⟨c₀, a, b⟩ := k.fr.typ i c t (by omega) (frm i hi hc _ e)
      exact ⟨c₀, sub i _ a, b⟩
    · exact ⟨c, by rw [← e1 i hi hc]; exact e, rfl⟩
  · by_cases hc : C i
    · cases ho : h'.get i with
      | none => exact absurd ho e
      | some o =>
        have := k.fr.alive i (by omega) (by rw [frm i hi hc o ho]; simp)
        cases hq : H.get i with
        | none => exact absurd hq this
        | some o' => rw [sub i o' hq]; simp
    · rw [← e1 i hi hc]; exact e
  · by_cases hc : C i
    · obtain ⟨o, x, y⟩ := e
      exact liv i (k.fr.live i (by omega) ⟨o, frm i hi hc o x, y⟩)
    · exact AHeap.live_eq (e1 i hi hc) e
  · by_cases hc : C i
    · exact sub i _ (k.fr.roT i c (by omega) (frm i hi hc _ e))
    · rw [← e1 i hi hc]; exact e
  refine (k.run m w args' hm (fun i a b => hf i (by omega) (by omega)) ha (hh.fewer sub)).mono ?_
  rintro e w' ⟨v', m', rfl, F, V, R⟩
  have old : ∀ i, (i < h.n ∨ h'.n ≤ i) → m' i = m i := fun i hi => F.old i (by rw [n0, n1]; exact hi)
  have hle : m.le m' := F.le fun i a b => hf i (by omega) (by omega)
  have keep : ∀ i l, i < h.n → ¬ C i → m i = some l → h.get i ≠ none → w'.heap[l.b]? = w.heap[l.b]? := fun i l hi hc a b => by
    refine F.keep l.b (hh.lt i l a) fun j k' hj cj lj mj e => ?_
    obtain rfl := hh.inj i j l k' a mj b (liv j lj) e.symm
    exact hc cj
  have cross : ∀ i j l k', i < h.n → ¬ C i → m i = some l → h.get i ≠ none → h.n ≤ j → j < h'.n → m' j = some k' → l.b = k'.b → False := fun i j l k' hi hc a b hj hj' mj e => by
    rcases F.new j k' (by omega) (by omega) mj with q | ⟨j₀, k₀, h1, c0, l0, m0, e0⟩
    · have := hh.lt i l a; omega
    · obtain rfl := hh.inj i j₀ l k₀ a m0 b (liv j₀ l0) (by rw [e0]; exact e)
      exact hc c0
  have inN : ∀ i, h'.get i ≠ none → i < h'.n := fun i e => by
    cases q : h'.get i with
    | none => exact absurd q e
    | some o => exact AHeap.lt q
  refine ⟨v', m', rfl, ⟨old, fun i l a b c => ?_, fun b hb hk => ?_, F.size, F.os, F.tape, F.output⟩, V, ?_⟩
  · rcases F.new i l (by omega) (by omega) c with q | ⟨j, k', h1, h2, h3, h4, h5⟩
    · exact .inl q
    · exact .inr ⟨j, k', by omega, h2, liv j h3, h4, h5⟩
  · exact F.keep b hb fun j k' hj cj lj mj => hk j k' (by omega) cj (liv j lj) mj
  · refine ⟨R.lt, fun i l c t a b => ?_, fun i j l k' a b c d e => ?_, fun i l c a b => ?_, fun i l o _ a b => ?_⟩
    · by_cases hi : i < h.n ∧ ¬ C i
      · rw [old i (.inl hi.1)] at a
        rw [e1 i hi.1 hi.2] at b
        exact hh.typ i l c t a b
      · refine R.typ i l c t a (e2 i _ ?_ b)
        by_cases hc : C i
        · exact .inl hc
        · exact .inr (Nat.le_of_not_lt fun q => hi ⟨q, hc⟩)
    · have hi' := inN i c
      have hj' := inN j d.ne
      have cls : ∀ i, ¬ (i < h.n ∧ ¬ C i) → C i ∨ h.n ≤ i := fun i hi => by
        by_cases hc : C i
        · exact .inl hc
        · exact .inr (Nat.le_of_not_lt fun q => hi ⟨q, hc⟩)
      have up : ∀ i, ¬ (i < h.n ∧ ¬ C i) → h'.get i ≠ none → H'.get i ≠ none := fun i hi q => by
        cases ho : h'.get i with
        | none => exact absurd ho q
        | some o => rw [e2 i o (cls i hi) ho]; simp
      by_cases hi : i < h.n ∧ ¬ C i
      · rw [old i (.inl hi.1)] at a
        rw [e1 i hi.1 hi.2] at c
        by_cases hj : j < h.n
        · rw [old j (.inl hj)] at b
          refine hh.inj i j l k' a b c ?_ e
          by_cases cj : C j
          · obtain ⟨o, x, y⟩ := d
            exact liv j (k.fr.live j (by omega) ⟨o, frm j hj cj o x, y⟩)
          · exact AHeap.live_eq (e1 j hj cj) d
        · exact (cross i j l k' hi.1 hi.2 a c (by omega) hj' b e).elim
      · by_cases hj : j < h.n ∧ ¬ C j
        · rw [old j (.inl hj.1)] at b
          have dj := AHeap.live_eq (e1 j hj.1 hj.2) d
          by_cases hi2 : i < h.n
          · rw [old i (.inl hi2)] at a
            refine hh.inj i j l k' a b ?_ dj e
            have q := k.fr.alive i (by omega) (up i hi c)
            cases hq : H.get i with
            | none => exact absurd hq q
            | some o' => rw [sub i o' hq]; simp
          · exact (cross j i k' l hj.1 hj.2 b dj.ne (by omega) hi' a e.symm).elim
        · refine R.inj i j l k' a b (up i hi c) ?_ e
          obtain ⟨o, x, y⟩ := d
          exact ⟨o, e2 j o (cls j hj) x, y⟩
    · by_cases hi : i < h.n ∧ ¬ C i
      · rw [old i (.inl hi.1)] at a
        rw [e1 i hi.1 hi.2] at b
        exact hh.roS i l c a b
      · refine R.roS i l c a (e2 i _ ?_ b)
        by_cases hc : C i
        · exact .inl hc
        · exact .inr (Nat.le_of_not_lt fun q => hi ⟨q, hc⟩)
    · by_cases hi : i < h.n ∧ ¬ C i
      · rw [old i (.inl hi.1)] at a
        rw [e1 i hi.1 hi.2] at b
        obtain ⟨o', x, y⟩ := hh.obj i l o trivial a b
        exact ⟨o', by rw [keep i l hi.1 hi.2 a (by rw [b]; simp)]; exact x, y.mono hle⟩
      · refine R.obj i l o trivial a (e2 i _ ?_ b)
        by_cases hc : C i
        · exact .inl hc
        · exact .inr (Nat.le_of_not_lt fun q => hi ⟨q, hc⟩)
noncomputable def eqLs (E : Value → Value → Bool) : List Value → List Value → Bool
  | [], [] => true
  | a :: l, b :: m => Bool.rec false (eqLs E l m) (E a b)
  | _, _ => false
noncomputable def eqW : Nat → Value → Value → Bool
  | 0, _, _ => false
  | n + 1, a, b => match a, b with
    | .agg x, .agg y => eqLs (eqW n) x.toList y.toList
    | .tuple x, .tuple y => eqLs (eqW n) x.toList y.toList
    | .func (.func f) x c, .func (.func g) y d => Nat.beq f g && eqLs (eqW n) x.toList y.toList && eqLs (eqW n) c.toList d.toList
    | .nilFunc, .nilFunc => true
    | a, b => eqV a b
theorem eqLs_eq {E : Value → Value → Bool} (hE : ∀ a b, E a b = true → a = b) : ∀ {l m : List Value}, eqLs E l m = true → l = m
  | [], [], _ => rfl
  | [], _ :: _, h => by cases h
  | _ :: _, [], h => by cases h
  | a :: l, b :: m, h => by
    have h' : (Bool.rec false (eqLs E l m) (E a b) : Bool) = true := h
    cases hb : E a b with
    | false => rw [hb] at h'; cases h'
    | true => rw [hb] at h'; rw [hE a b hb, eqLs_eq hE h']
theorem eqW_eq : ∀ n (a b : Value), eqW n a b = true → a = b
  | 0, _, _, h => by cases h
  | n + 1, a, b, h => by
    unfold eqW at h
    split at h
    · exact congrArg Value.agg (Array.toList_inj.1 (eqLs_eq (eqW_eq n) h))
    · exact congrArg Value.tuple (Array.toList_inj.1 (eqLs_eq (eqW_eq n) h))
    · rw [Bool.and_eq_true, Bool.and_eq_true] at h
      rw [Nat.eq_of_beq_eq_true h.1.1, Array.toList_inj.1 (eqLs_eq (eqW_eq n) h.1.2), Array.toList_inj.1 (eqLs_eq (eqW_eq n) h.2)]
    · rfl
    · exact eqV_eq h
noncomputable def eqE (a b : MapEntry) : Bool := eqW 3 a.key b.key && eqW 3 a.val b.val && Nat.beq a.born b.born
theorem eqE_eq {a b : MapEntry} (h : eqE a b = true) : a = b := by
  unfold eqE at h
  rw [Bool.and_eq_true, Bool.and_eq_true] at h
  obtain ⟨⟨h1, h2⟩, h3⟩ := h
  have e1 := eqW_eq 3 _ _ h1
  have e2 := eqW_eq 3 _ _ h2
  have e3 := Nat.eq_of_beq_eq_true h3
  cases a; cases b
  simp only at e1 e2 e3
  subst e1 e2 e3
  rfl
noncomputable def eqEs : List MapEntry → List MapEntry → Bool
  | [], [] => true
  | a :: l, b :: m => Bool.rec false (eqEs l m) (eqE a b)
  | _, _ => false
theorem eqEs_eq : ∀ {l m : List MapEntry}, eqEs l m = true → l = m
  | [], [], _ => rfl
  | [], _ :: _, h => by cases h
  | _ :: _, [], h => by cases h
  | a :: l, b :: m, h => by
    have h' : (Bool.rec false (eqEs l m) (eqE a b) : Bool) = true := h
    cases hb : eqE a b with
    | false => rw [hb] at h'; cases h'
    | true => rw [hb] at h'; rw [eqE_eq hb, eqEs_eq h']
noncomputable def eqB (a b : AObj) : Bool := match a, b with
  | .cells c t, .cells d u => Bool.rec false (eqLs (eqW 4) c d) (Nat.beq t u)
  | .ro c, .ro d => eqLs (eqW 4) c d
  | .map es k, .map fs l => Bool.rec false (eqEs es.toList fs.toList) (Nat.beq k l)
  | _, _ => false
theorem eqB_eq {a b : AObj} (h : eqB a b = true) : a = b := by
  unfold eqB at h
  split at h
  · rename_i c t d u
    have h' : (Bool.rec false (eqLs (eqW 4) c d) (Nat.beq t u) : Bool) = true := h
    cases hb : Nat.beq t u with
    | false => rw [hb] at h'; cases h'
    | true => rw [hb] at h'; rw [Nat.eq_of_beq_eq_true hb, eqLs_eq (eqW_eq 4) h']
  · exact congrArg AObj.ro (eqLs_eq (eqW_eq 4) h)
  · rename_i es k fs l
    have h' : (Bool.rec false (eqEs es.toList fs.toList) (Nat.beq k l) : Bool) = true := h
    cases hb : Nat.beq k l with
    | false => rw [hb] at h'; cases h'
    | true => rw [hb] at h'; rw [Nat.eq_of_beq_eq_true hb, Array.toList_inj.1 (eqEs_eq h')]
  · cases h
noncomputable def eqOB (a : Option AObj) (b : AObj) : Bool := Option.rec false (fun a => eqB a b) a
theorem eqOB_eq {a : Option AObj} {b : AObj} (h : eqOB a b = true) : a = some b := by
  cases a with
  | none => cases h
  | some a => rw [eqB_eq (show eqB a b = true from h)]
abbrev Blks := List (Nat × AObj)
def putsB (h : AHeap) : Blks → AHeap
  | [] => h
  | x :: l => putsB (h.put x.1 (some x.2)) l
noncomputable def putsK {α : Type} (l : Blks) : AHeap → (AHeap → α) → α := List.rec (fun h K => K h) (fun x _ ih h K => hputK h x.1 (some x.2) fun h => ih h K) l
theorem putsK_eq {α : Type} : ∀ (l : Blks) (h : AHeap) (K : AHeap → α), putsK l h K = K (putsB h l)
  | [], h, K => rfl
  | x :: l, h, K => by
    show hputK h x.1 (some x.2) (fun h => putsK l h K) = _
    rw [hputK_eq, putsK_eq l]; rfl
theorem putsB_n : ∀ (l : Blks) (h : AHeap), (putsB h l).n = h.n
  | [], h => rfl
  | x :: l, h => by rw [putsB, putsB_n l]; rfl
theorem putsB_some : ∀ (l : Blks) (h : AHeap) (i : Nat) (o : AObj), (putsB h l).get i = some o → (i, o) ∈ l ∨ h.get i = some o
  | [], h, i, o, e => .inr e
  | x :: l, h, i, o, e => by
    rcases putsB_some l _ i o e with q | q
    · exact .inl (by simp [q])
    · rw [AHeap.get_put] at q
      split at q
      · rename_i e1
        split at q
        · cases q; subst e1; exact .inl (by simp)
        · cases q
      · exact .inr q
theorem putsB_out : ∀ (l : Blks) (h : AHeap) (i : Nat), (∀ o, (i, o) ∉ l) → (putsB h l).get i = h.get i
  | [], h, i, _ => rfl
  | x :: l, h, i, hx => by
    rw [putsB, putsB_out l _ i fun o q => hx o (by simp [q])]
    refine AHeap.get_put_ne _ _ fun e => ?_
    exact hx x.2 (by rw [← e]; simp)
def clearsB (h : AHeap) : List Nat → AHeap
  | [] => h
  | i :: l => clearsB (h.put i none) l
noncomputable def clearsK {α : Type} (l : List Nat) : AHeap → (AHeap → α) → α := List.rec (fun h K => K h) (fun i _ ih h K => hputK h i none fun h => ih h K) l
theorem clearsK_eq {α : Type} : ∀ (l : List Nat) (h : AHeap) (K : AHeap → α), clearsK l h K = K (clearsB h l)
  | [], h, K => rfl
  | i :: l, h, K => by
    show hputK h i none (fun h => clearsK l h K) = _
    rw [hputK_eq, clearsK_eq l]; rfl
theorem clearsB_n : ∀ (l : List Nat) (h : AHeap), (clearsB h l).n = h.n
  | [], h => rfl
  | i :: l, h => by rw [clearsB, clearsB_n l]; rfl
theorem clearsB_get : ∀ (l : List Nat) (h : AHeap) (i : Nat), (clearsB h l).get i = if i ∈ l then none else h.get i
  | [], h, i => by simp [clearsB]
  | j :: l, h, i => by
    rw [clearsB, clearsB_get l, AHeap.get_put]
    by_cases e : j = i
    · subst e; simp
    · rw [if_neg e]
      have : (i ∈ j :: l) ↔ i ∈ l := by simp [Ne.symm e]
      simp only [this]
def holesB (h : AHeap) : Nat → Nat → AHeap
  | 0, _ => h
  | k + 1, a => holesB (h.put a none) k (a + 1)
noncomputable def holesK {α : Type} (k : Nat) : AHeap → Nat → (AHeap → α) → α := Nat.rec (fun h _ K => K h) (fun _ ih h a K => hputK h a none fun h => forceNat (Nat.succ a) fun a => ih h a K) k
theorem holesK_eq {α : Type} : ∀ (k : Nat) (h : AHeap) (a : Nat) (K : AHeap → α), holesK k h a K = K (holesB h k a)
  | 0, h, a, K => rfl
  | k + 1, h, a, K => by
    show hputK h a none (fun h => forceNat (Nat.succ a) fun a => holesK k h a K) = _
    rw [hputK_eq, forceNat_eq, holesK_eq k]; rfl
theorem holesB_n : ∀ (k : Nat) (h : AHeap) (a : Nat), (holesB h k a).n = h.n
  | 0, h, a => rfl
  | k + 1, h, a => by rw [holesB, holesB_n k]; rfl
theorem holesB_get : ∀ (k : Nat) (h : AHeap) (a i : Nat), (holesB h k a).get i = if a ≤ i ∧ i < a + k then none else h.get i
  | 0, h, a, i => by rw [if_neg (by omega)]; rfl
  | k + 1, h, a, i => by
    rw [holesB, holesB_get k, AHeap.get_put]
    by_cases e : a = i
    · subst e
      rw [if_neg (show ¬ (a + 1 ≤ a ∧ a < a + 1 + k) from by omega), if_pos (rfl : a = a), if_pos (show a ≤ a ∧ a < a + (k + 1) from by omega)]
      split <;> rfl
    · rw [if_neg e]
      by_cases q : a + 1 ≤ i ∧ i < a + 1 + k
      · rw [if_pos q, if_pos (by omega)]
      · rw [if_neg q, if_neg (by omega)]
def resize (h : AHeap) (n : Nat) : AHeap := ⟨n, h.t⟩
def patch (h : AHeap) (n : Nat) (C : List Nat) (D : Blks) : AHeap := putsB (holesB (resize (clearsB h C) n) (n - h.n) h.n) D
noncomputable def patchK {α : Type} (h : AHeap) (n : Nat) (C : List Nat) (D : Blks) (K : AHeap → α) : α := clearsK C h fun h₁ => forceNat n fun n => holesK (Nat.sub n h.n) (resize h₁ n) h.n fun h => putsK D h K
theorem patchK_eq {α : Type} (h : AHeap) (n : Nat) (C : List Nat) (D : Blks) (K : AHeap → α) : patchK h n C D K = K (patch h n C D) := by
  unfold patchK
  rw [clearsK_eq, forceNat_eq, holesK_eq, putsK_eq]; rfl
theorem patch_n (h : AHeap) (n : Nat) (C : List Nat) (D : Blks) : (patch h n C D).n = n := by
  unfold patch
  rw [putsB_n, holesB_n]; rfl
theorem patch_some {h : AHeap} {n : Nat} {C : List Nat} {D : Blks} {i : Nat} {o : AObj} (hi : i ∈ C ∨ h.n ≤ i) (e : (patch h n C D).get i = some o) : (i, o) ∈ D := by
  unfold patch at e
  rcases putsB_some D _ i o e with q | q
  · exact q
  · rw [holesB_get] at q
    split at q
    · cases q
    · rename_i hq
      have hlt : i < n := by
        have := AHeap.lt q
        exact this
      have e2 : (resize (clearsB h C) n).get i = (clearsB h C).t.get i := by
        show (if i < n then (clearsB h C).t.get i else none) = _
        rw [if_pos hlt]
      rcases hi with hi | hi
      · by_cases hh : i < h.n
        · have e3 : (clearsB h C).get i = (clearsB h C).t.get i := by
            show (if i < (clearsB h C).n then (clearsB h C).t.get i else none) = _
            rw [if_pos (by rw [clearsB_n]; exact hh)]
          rw [e2, ← e3, clearsB_get, if_pos hi] at q
          cases q
        · exact absurd ⟨by omega, by omega⟩ hq
      · exact absurd ⟨by omega, by omega⟩ hq
theorem patch_old {h : AHeap} {n : Nat} {C : List Nat} {D : Blks} (hn : h.n ≤ n) {i : Nat} (hi : i < h.n) (hc : i ∉ C) (hd : ∀ o, (i, o) ∉ D) : (patch h n C D).get i = h.get i := by
  unfold patch
  rw [putsB_out D _ i hd, holesB_get, if_neg (by omega)]
  have e2 : (resize (clearsB h C) n).get i = (clearsB h C).get i := by
    show (if i < n then (clearsB h C).t.get i else none) = if i < (clearsB h C).n then (clearsB h C).t.get i else none
    rw [if_pos (by omega), if_pos (by rw [clearsB_n]; exact hi)]
  rw [e2, clearsB_get, if_neg hc]
structure Ck where
  f : FuncId
  n0 : Nat
  args : List Value
  R : Blks
  v : Value
  n1 : Nat
  C : List Nat
  D : Blks
noncomputable def allB (p : Nat × AObj → Bool) (l : Blks) : Bool := List.rec true (fun x _ ih => Bool.rec false ih (p x)) l
theorem allB_mem {p : Nat × AObj → Bool} : ∀ {l : Blks}, allB p l = true → ∀ x ∈ l, p x = true
  | [], _, x, hx => by cases hx
  | y :: l, e, x, hx => by
    have e' : (Bool.rec false (allB p l) (p y) : Bool) = true := e
    cases hp : p y with
    | false => rw [hp] at e'; cases e'
    | true =>
      rw [hp] at e'
      rcases List.mem_cons.1 hx with rfl | hx
      · exact hp
      · exact allB_mem e' x hx
noncomputable def inB (i : Nat) (l : List Nat) : Bool := List.rec false (fun j _ ih => Bool.rec ih true (Nat.beq i j)) l
theorem inB_mem {i : Nat} : ∀ {l : List Nat}, inB i l = true → i ∈ l
  | [], e => by cases e
  | j :: l, e => by
    have e' : (Bool.rec (inB i l) true (Nat.beq i j) : Bool) = true := e
    cases hb : Nat.beq i j with
    | true => rw [Nat.eq_of_beq_eq_true hb]; simp
    | false => rw [hb] at e'; simp [inB_mem e']
noncomputable def subB (R : Blks) (h : AHeap) : Bool := allB (fun x => eqOB (hget h x.1) x.2) R
theorem subB_get {R : Blks} {h : AHeap} (e : subB R h = true) : ∀ x ∈ R, h.get x.1 = some x.2 := fun x hx => by
  have := eqOB_eq (allB_mem e x hx)
  rwa [hget_eq] at this
def start (c : Ck) : AHeap := putsB ⟨c.n0, .nil⟩ c.R
noncomputable def wfC (c : Ck) : Bool := allB (fun x => Bool.rec (inB x.1 c.C) true (Nat.ble c.n0 x.1)) c.D
noncomputable def inAll (l : List Nat) (C : List Nat) : Bool := List.rec true (fun i _ ih => Bool.rec false ih (inB i C)) l
theorem inAll_mem {C : List Nat} : ∀ {l : List Nat}, inAll l C = true → ∀ i ∈ l, i ∈ C
  | [], _, i, hi => by cases hi
  | j :: l, e, i, hi => by
    have e' : (Bool.rec false (inAll l C) (inB j C) : Bool) = true := e
    cases hb : inB j C with
    | false => rw [hb] at e'; cases e'
    | true =>
      rw [hb] at e'
      rcases List.mem_cons.1 hi with rfl | hi
      · exact inB_mem hb
      · exact inAll_mem e' i hi
noncomputable def endK (c : Ck) : Value → AHeap → List Nat → Option Bool := fun v h wr => ifK (eqW 5 v c.v) (ifK (Nat.beq h.n c.n1) (ifK (inAll wr c.C) (some (subB c.D h)) none) none) none
def CkOk (P : Program) (c : Ck) : Prop := ∀ h : AHeap, h.n = c.n0 → (∀ x ∈ c.R, h.get x.1 = some x.2) → CallRun P (· ∈ c.C) c.f c.args.toArray h c.v (patch h c.n1 c.C c.D)
theorem ckOk_of {P : Program} {S : Summ} (hS : SOk P S) {c : Ck} {N : Nat} (wf : wfC c = true) (he : putsK c.R ⟨c.n0, .nil⟩ (fun H => callK P S (fev P S N) c.f c.args H (endK c)) = some true) : CkOk P c := fun h hn hR => by
  rw [putsK_eq] at he
  obtain ⟨v, H', wr, hc, he⟩ := callRun_of hS he
  unfold endK at he
  obtain ⟨h1, he⟩ := ifK_yes he
  obtain ⟨h2, he⟩ := ifK_yes he
  obtain ⟨h3, he⟩ := ifK_yes he
  have hE : subB c.D H' = true := Option.some.inj he
  clear he
  obtain rfl := eqW_eq 5 _ _ h1
  have h2 := Nat.eq_of_beq_eq_true h2
  have hD := subB_get hE
  have nH : (putsB ⟨c.n0, .nil⟩ c.R).n = c.n0 := putsB_n _ _
  have hn1 : h.n ≤ c.n1 := by have := hc.fr.n; rw [nH, h2] at this; omega
  refine CallRun.frame (hc.weak (W' := (· ∈ c.C)) fun i hi => inAll_mem h3 i hi) (by rw [nH, hn]) (by rw [h2, patch_n]) (fun i o e => ?_) (fun i hi hc => ?_) fun i o hi e => ?_
  · rcases putsB_some _ _ i o e with q | q
    · exact hR _ q
    · have : (⟨c.n0, .nil⟩ : AHeap).get i = none := by show (if i < c.n0 then Tr.nil.get i else none) = none; split <;> rfl
      rw [this] at q; cases q
  · refine patch_old hn1 hi hc fun o q => ?_
    have w := allB_mem wf _ q
    have w' : (Bool.rec (inB i c.C) true (Nat.ble c.n0 i) : Bool) = true := w
    cases hb : Nat.ble c.n0 i with
    | true => have := Nat.le_of_ble_eq_true hb; omega
    | false => rw [hb] at w'; exact hc (inB_mem w')
  · exact hD _ (patch_some hi e)
noncomputable def ckS (c : Ck) (S : Summ) : Summ := fun f args h => Bool.rec (S f args h) (Bool.rec (S f args h) (Bool.rec (S f args h) (Bool.rec (S f args h) (patchK h c.n1 c.C c.D fun h' => some (c.v, h', c.C)) (subB c.R h)) (eqLs (eqW 4) args c.args)) (Nat.beq h.n c.n0)) (Nat.beq f c.f)
theorem ckS_ok {P : Program} {S : Summ} {c : Ck} (hS : SOk P S) (hc : CkOk P c) : SOk P (ckS c S) := fun f args h v h' wr e => by
  unfold ckS at e
  cases h1 : Nat.beq f c.f with
  | false => rw [h1] at e; exact hS f args h v h' wr e
  | true =>
    rw [h1] at e
    cases h2 : Nat.beq h.n c.n0 with
    | false => rw [h2] at e; exact hS f args h v h' wr e
    | true =>
      rw [h2] at e
      cases h3 : eqLs (eqW 4) args c.args with
      | false => rw [h3] at e; exact hS f args h v h' wr e
      | true =>
        rw [h3] at e
        cases h4 : subB c.R h with
        | false => rw [h4] at e; exact hS f args h v h' wr e
        | true =>
          rw [h4] at e
          have e : patchK h c.n1 c.C c.D (fun h' => some (c.v, h', c.C)) = some (v, h', wr) := e
          rw [patchK_eq] at e
          simp only [Option.some.injEq, Prod.mk.injEq] at e
          obtain ⟨rfl, rfl, rfl⟩ := e
          obtain rfl := Nat.eq_of_beq_eq_true h1
          obtain rfl := eqLs_eq (eqW_eq 4) h3
          exact hc h (Nat.eq_of_beq_eq_true h2) (subB_get h4)
def vi (n : Nat) : Value := .int .i64 (.ofNat n)
def vb (n : Nat) : Value := .int .u8 (.ofNat n)
def vh (n : Nat) : Value := .int .u16 (.ofNat n)
def vw (n : Nat) : Value := .int .u32 (.ofNat n)
def vq (n : Nat) : Value := .int .u64 (.ofNat n)
def vp (b o : Nat) : Value := .pointer (some ⟨b, o, none⟩)
def vs (b o l c : Nat) : Value := .slice (some ⟨b, o, none⟩) l c
def vm (b : Nat) : Value := .map (some b)
def v0 : Value := .slice none 0 0
def vt : Value := .bool true
def vf : Value := .bool false
def rp (n : Nat) (v : Value) (l : List Value) : List Value := Nat.rec l (fun _ ih => v :: ih) n
def oc (t : Nat) (l : List Value) : AObj := .cells l t
end Go.Proofs.YtfpeehikichafaaGreat

namespace Go.Proofs.YtfpeehikichafaaGreat
open Go.RowKit
set_option maxRecDepth 100000
def ac1 : Ck := ⟨74, 144, [.agg #[vb 0, vb 0, vb 0, vb 0, vb 0, vb 0, vb 0, vb 0, vb 0, vb 0, vb 0, vb 0, vb 0, vb 0, vb 0, vb 0], .agg #[vw 7, vw 5, vw 200, vw 100, vw 3000, vh 4, vh 9, vs 138 0 1 1, vw 0, vw 0, vq 0]],
  [(138, oc 27 ([vw 1]))],
  .tuple #[vs 260 0 56 56, vi 0], 261, [],
  [(260, oc 5 (rp 3 (vb 0) (vb 7 :: rp 3 (vb 0) (vb 5 :: rp 3 (vb 0) (vb 200 :: rp 3 (vb 0) (vb 100 :: vb 0 :: vb 0 :: vb 11 :: vb 184 :: vb 0 :: vb 4 :: vb 0 :: vb 9 :: rp 19 (vb 0) (vb 1 :: rp 3 (vb 0) (vb 1 :: vb 151 :: vb 21 :: vb 80 :: vb 237 :: vb 88 :: vb 214 :: vb 3 :: vb 163 :: []))))))))]⟩
theorem ac1ok : CkOk Tryz.prog ac1 := ckOk_of (N := 200000) (crcOn_ok rowS_ok) (by kernel_rfl) (by kernel_rfl)
noncomputable def acS1 : Summ := ckS ac1 (crcOn rowS)
theorem acS1ok : SOk Tryz.prog acS1 := ckS_ok (crcOn_ok rowS_ok) ac1ok
def ac2 : Ck := ⟨76, 349, [.agg #[vb 0, vb 0, vb 0, vb 0, vb 0, vb 0, vb 0, vb 0, vb 0, vb 0, vb 0, vb 0, vb 0, vb 0, vb 0, vb 0], vs 260 0 56 56, vq 0, vq 6000],
  [(260, oc 5 (rp 3 (vb 0) (vb 7 :: rp 3 (vb 0) (vb 5 :: rp 3 (vb 0) (vb 200 :: rp 3 (vb 0) (vb 100 :: vb 0 :: vb 0 :: vb 11 :: vb 184 :: vb 0 :: vb 4 :: vb 0 :: vb 9 :: rp 19 (vb 0) (vb 1 :: rp 3 (vb 0) (vb 1 :: vb 151 :: vb 21 :: vb 80 :: vb 237 :: vb 88 :: vb 214 :: vb 3 :: vb 163 :: []))))))))],
  .tuple #[.agg #[vw 7, vw 5, vw 200, vw 100, vw 3000, vh 4, vh 9, vs 358 0 1 1, vw 0, vw 0, vq 0], vi 0], 359, [],
  [(358, oc 27 ([vw 1]))]⟩
theorem ac2ok : CkOk Tryz.prog ac2 := ckOk_of (N := 200000) acS1ok (by kernel_rfl) (by kernel_rfl)
noncomputable def acS2 : Summ := ckS ac2 (acS1)
theorem acS2ok : SOk Tryz.prog acS2 := ckS_ok acS1ok ac2ok
def ac3 : Ck := ⟨4, 6, [.agg #[vs 0 0 1 1, vh 9, vt, vi 256, vh 4, vi 4000, vi 4000, vi 1000, vw 300, vw 100, vw 6000, vb 8, vb 3, vb 20, vw 3000, vw 6000, vq 1, vb 0, vb 0, vb 0, vb 0, vb 0, vb 0, vb 0, vb 0, vb 0, vb 0, vb 0, vb 0, vb 0, vb 0, vb 0, vb 0], .agg #[vs 3 0 1 1, vh 9, vt, vi 256, vh 4, vi 4000, vi 4000, vi 1000, vw 300, vw 100, vw 6000, vb 8, vb 3, vb 20, vw 3000, vw 6000, vq 1, vb 0, vb 0, vb 0, vb 0, vb 0, vb 0, vb 0, vb 0, vb 0, vb 0, vb 0, vb 0, vb 0, vb 0, vb 0, vb 0]],
  [(0, oc 27 ([vw 1])),
  (3, oc 27 ([vw 2]))],
  .tuple #[vp 17 0, vp 370 0, vt], 508, [],
  [(14, oc 27 ([vw 1])),
  (15, .map #[⟨vi 11, vi 0, 2⟩] 3),
  (16, oc 176 ([vs 84 0 1 1, vm 15])),
  (17, oc 99 (vs 14 0 1 1 :: vh 9 :: vt :: vi 256 :: vh 4 :: vi 4000 :: vi 4000 :: vi 1000 :: vw 300 :: vw 100 :: vw 6000 :: vb 8 :: vb 3 :: vb 20 :: vw 3000 :: vw 6000 :: vq 1 :: rp 16 (vb 0) (vw 5 :: vw 100 :: vh 9 :: vb 3 :: vq 0 :: vw 7 :: vw 200 :: vw 3000 :: vh 4 :: vs 280 0 1 1 :: vp 286 0 :: vp 299 0 :: vp 306 0 :: vp 313 0 :: vp 16 0 :: vs 315 0 56 56 :: vi 3000 :: vi 0 :: vi 0 :: vw 0 :: v0 :: vs 493 0 1 1 :: []))),
  (84, oc 169 ([vq 3300, vi 11])),
  (280, oc 27 ([vw 2])),
  (286, oc 149 ([vs 295 0 1 1, vi 0, vi 0, vi 20])),
  (291, oc 322 ([vq 100, vq 6000, vq 300, vq 0, vq 0, vf])),
  (292, oc 270 ([vi 256, vi 512, vi 65536, vi 0])),
  (293, oc 190 ([vw 1, vw 2, vp 291 0, vp 292 0, vi 3, vi 0, vf, v0])),
  (295, oc 114 ([vp 293 0])),
  (299, oc 186 (vi 256 :: vh 4 :: vi 4000 :: vi 4000 :: vi 1000 :: vw 300 :: vw 100 :: vw 6000 :: vb 8 :: vb 3 :: vb 20 :: vw 3000 :: vw 6000 :: vw 100 :: rp 16 (vh 0) (v0 :: vi 0 :: vi 0 :: []))),
  (306, oc 232 ([vw 99, vw 100, v0, vf, vw 0])),
  (307, .map #[] 0),
  (308, oc 236 ([vw 199, vm 307, v0])),
  (309, .map #[] 0),
  (310, oc 268 ([vm 309, vi 0])),
  (311, .map #[] 0),
  (312, .map #[] 0),
  (313, oc 146 ([vh 4, vi 4000, vi 1000, vp 308 0, vp 310 0, vm 311, vm 312, v0, vi 0])),
  (315, oc 5 (rp 3 (vb 0) (vb 7 :: rp 3 (vb 0) (vb 5 :: rp 3 (vb 0) (vb 200 :: rp 3 (vb 0) (vb 100 :: vb 0 :: vb 0 :: vb 11 :: vb 184 :: vb 0 :: vb 4 :: vb 0 :: vb 9 :: rp 19 (vb 0) (vb 1 :: rp 3 (vb 0) (vb 1 :: vb 151 :: vb 21 :: vb 80 :: vb 237 :: vb 88 :: vb 214 :: vb 3 :: vb 163 :: [])))))))),
  (367, oc 27 ([vw 2])),
  (368, .map #[⟨vi 11, vi 0, 0⟩] 1),
  (369, oc 176 ([vs 441 0 1 1, vm 368])),
  (370, oc 99 (vs 367 0 1 1 :: vh 9 :: vt :: vi 256 :: vh 4 :: vi 4000 :: vi 4000 :: vi 1000 :: vw 300 :: vw 100 :: vw 6000 :: vb 8 :: vb 3 :: vb 20 :: vw 3000 :: vw 6000 :: vq 1 :: rp 16 (vb 0) (vw 7 :: vw 200 :: vh 9 :: vb 3 :: vq 0 :: vw 5 :: vw 100 :: vw 3000 :: vh 4 :: vs 374 0 1 1 :: vp 378 0 :: vp 391 0 :: vp 398 0 :: vp 405 0 :: vp 369 0 :: v0 :: vi 3000 :: vi 0 :: vi 0 :: vw 0 :: v0 :: vs 436 0 1 1 :: []))),
  (374, oc 27 ([vw 1])),
  (378, oc 149 ([vs 387 0 1 1, vi 0, vi 0, vi 20])),
  (383, oc 322 ([vq 100, vq 6000, vq 300, vq 0, vq 0, vf])),
  (384, oc 270 ([vi 256, vi 512, vi 65536, vi 0])),
  (385, oc 190 ([vw 2, vw 1, vp 383 0, vp 384 0, vi 3, vi 0, vf, v0])),
  (387, oc 114 ([vp 385 0])),
  (391, oc 186 (vi 256 :: vh 4 :: vi 4000 :: vi 4000 :: vi 1000 :: vw 300 :: vw 100 :: vw 6000 :: vb 8 :: vb 3 :: vb 20 :: vw 3000 :: vw 6000 :: vw 200 :: rp 16 (vh 0) (v0 :: vi 0 :: vi 0 :: []))),
  (398, oc 232 ([vw 199, vw 200, v0, vf, vw 0])),
  (399, .map #[] 0),
  (400, oc 236 ([vw 99, vm 399, v0])),
  (401, .map #[] 0),
  (402, oc 268 ([vm 401, vi 0])),
  (403, .map #[] 0),
  (404, .map #[] 0),
  (405, oc 146 ([vh 4, vi 4000, vi 1000, vp 400 0, vp 402 0, vm 403, vm 404, v0, vi 0])),
  (436, oc 5 ([vb 1])),
  (441, oc 169 ([vq 3300, vi 11])),
  (493, oc 5 ([vb 1]))]⟩
theorem ac3ok : CkOk Tryz.prog ac3 := ckOk_of (N := 200000) acS2ok (by kernel_rfl) (by kernel_rfl)
noncomputable def acS3 : Summ := ckS ac3 (acS2)
theorem acS3ok : SOk Tryz.prog acS3 := ckS_ok acS2ok ac3ok
def ac4 : Ck := ⟨20, 510, [vp 17 0, .agg #[vh 1, vf, vw 9, vs 508 0 300 300], vq 10],
  [(14, oc 27 ([vw 1])),
  (15, .map #[⟨vi 11, vi 0, 2⟩] 3),
  (16, oc 176 ([vs 84 0 1 1, vm 15])),
  (17, oc 99 (vs 14 0 1 1 :: vh 9 :: vt :: vi 256 :: vh 4 :: vi 4000 :: vi 4000 :: vi 1000 :: vw 300 :: vw 100 :: vw 6000 :: vb 8 :: vb 3 :: vb 20 :: vw 3000 :: vw 6000 :: vq 1 :: rp 16 (vb 0) (vw 5 :: vw 100 :: vh 9 :: vb 3 :: vq 0 :: vw 7 :: vw 200 :: vw 3000 :: vh 4 :: vs 280 0 1 1 :: vp 286 0 :: vp 299 0 :: vp 306 0 :: vp 313 0 :: vp 16 0 :: vs 315 0 56 56 :: vi 3000 :: vi 0 :: vi 0 :: vw 0 :: v0 :: vs 493 0 1 1 :: []))),
  (84, oc 169 ([vq 3300, vi 11])),
  (280, oc 27 ([vw 2])),
  (286, oc 149 ([vs 295 0 1 1, vi 0, vi 0, vi 20])),
  (291, oc 322 ([vq 100, vq 6000, vq 300, vq 0, vq 0, vf])),
  (292, oc 270 ([vi 256, vi 512, vi 65536, vi 0])),
  (293, oc 190 ([vw 1, vw 2, vp 291 0, vp 292 0, vi 3, vi 0, vf, v0])),
  (295, oc 114 ([vp 293 0])),
  (299, oc 186 (vi 256 :: vh 4 :: vi 4000 :: vi 4000 :: vi 1000 :: vw 300 :: vw 100 :: vw 6000 :: vb 8 :: vb 3 :: vb 20 :: vw 3000 :: vw 6000 :: vw 100 :: rp 16 (vh 0) (v0 :: vi 0 :: vi 0 :: []))),
  (306, oc 232 ([vw 99, vw 100, v0, vf, vw 0])),
  (307, .map #[] 0),
  (308, oc 236 ([vw 199, vm 307, v0])),
  (309, .map #[] 0),
  (310, oc 268 ([vm 309, vi 0])),
  (311, .map #[] 0),
  (312, .map #[] 0),
  (313, oc 146 ([vh 4, vi 4000, vi 1000, vp 308 0, vp 310 0, vm 311, vm 312, v0, vi 0])),
  (315, oc 5 (rp 3 (vb 0) (vb 7 :: rp 3 (vb 0) (vb 5 :: rp 3 (vb 0) (vb 200 :: rp 3 (vb 0) (vb 100 :: vb 0 :: vb 0 :: vb 11 :: vb 184 :: vb 0 :: vb 4 :: vb 0 :: vb 9 :: rp 19 (vb 0) (vb 1 :: rp 3 (vb 0) (vb 1 :: vb 151 :: vb 21 :: vb 80 :: vb 237 :: vb 88 :: vb 214 :: vb 3 :: vb 163 :: [])))))))),
  (493, oc 5 ([vb 1])),
  (508, oc 5 (rp 299 (vb 0) (vb 4 :: [])))],
  vi 0, 890, [17, 299, 306, 16, 84, 15],
  [(15, .map #[⟨vi 11, vi 1, 2⟩, ⟨vi 1, vi 0, 3⟩] 4),
  (16, oc 176 ([vs 722 0 2 2, vm 15])),
  (17, oc 99 (vs 14 0 1 1 :: vh 9 :: vt :: vi 256 :: vh 4 :: vi 4000 :: vi 4000 :: vi 1000 :: vw 300 :: vw 100 :: vw 6000 :: vb 8 :: vb 3 :: vb 20 :: vw 3000 :: vw 6000 :: vq 1 :: rp 16 (vb 0) (vw 5 :: vw 100 :: vh 9 :: vb 3 :: vq 10 :: vw 7 :: vw 200 :: vw 3000 :: vh 4 :: vs 280 0 1 1 :: vp 286 0 :: vp 299 0 :: vp 306 0 :: vp 313 0 :: vp 16 0 :: vs 315 0 56 56 :: vi 3000 :: vi 0 :: vi 0 :: vw 0 :: vs 879 0 2 2 :: vs 493 0 1 1 :: []))),
  (299, oc 186 (vi 256 :: vh 4 :: vi 4000 :: vi 4000 :: vi 1000 :: vw 300 :: vw 100 :: vw 6000 :: vb 8 :: vb 3 :: vb 20 :: vw 3000 :: vw 6000 :: vw 102 :: vh 0 :: vh 1 :: rp 14 (vh 0) (vs 538 12 0 0 :: vi 0 :: vi 300 :: []))),
  (306, oc 232 ([vw 99, vw 102, vs 824 0 2 2, vf, vw 0])),
  (520, oc 5 (rp 228 (vb 0) [])),
  (525, oc 5 (rp 71 (vb 0) (vb 4 :: []))),
  (538, oc 159 ([vw 100, vb 2, vh 1, vh 0, vw 9, vs 520 0 228 228, vw 101, vb 1, vh 1, vh 0, vw 9, vs 525 0 72 72])),
  (635, oc 5 (rp 228 (vb 0) [])),
  (636, oc 182 ([vw 100, vb 2, vh 1, vh 0, vw 9, vs 635 0 228 228, vi 0, vq 10, vi 0, vf, vi 0])),
  (716, oc 5 (vb 0 :: vb 9 :: vb 0 :: vb 9 :: rp 3 (vb 0) (vb 7 :: vb 148 :: vb 49 :: vb 235 :: vb 64 :: vb 0 :: vb 2 :: vb 0 :: vb 244 :: rp 3 (vb 0) (vb 100 :: vb 0 :: vb 1 :: rp 5 (vb 0) (vb 9 :: rp 228 (vb 0) []))))),
  (722, oc 169 ([vq 310, vi 1, vq 3300, vi 11])),
  (821, oc 5 (rp 71 (vb 0) (vb 4 :: []))),
  (822, oc 182 ([vw 101, vb 1, vh 1, vh 0, vw 9, vs 821 0 72 72, vi 0, vq 10, vi 0, vf, vi 0])),
  (824, oc 180 ([vp 636 0, vp 822 0])),
  (875, oc 5 (vb 0 :: vb 9 :: vb 0 :: vb 9 :: rp 3 (vb 0) (vb 7 :: vb 178 :: vb 182 :: vb 252 :: vb 170 :: vb 0 :: vb 1 :: vb 0 :: vb 88 :: rp 3 (vb 0) (vb 101 :: vb 0 :: vb 1 :: rp 5 (vb 0) (vb 9 :: rp 71 (vb 0) (vb 4 :: [])))))),
  (879, oc 77 ([vw 1, vw 2, vs 716 0 256 256, vw 1, vw 2, vs 875 0 100 100]))]⟩
theorem ac4ok : CkOk Tryz.prog ac4 := ckOk_of (N := 200000) acS3ok (by kernel_rfl) (by kernel_rfl)
noncomputable def acS4 : Summ := ckS ac4 (acS3)
theorem acS4ok : SOk Tryz.prog acS4 := ckS_ok acS3ok ac4ok
def ac5 : Ck := ⟨32, 890, [vp 17 0, vp 370 0, vq 10],
  [(14, oc 27 ([vw 1])),
  (15, .map #[⟨vi 11, vi 1, 2⟩, ⟨vi 1, vi 0, 3⟩] 4),
  (16, oc 176 ([vs 722 0 2 2, vm 15])),
  (17, oc 99 (vs 14 0 1 1 :: vh 9 :: vt :: vi 256 :: vh 4 :: vi 4000 :: vi 4000 :: vi 1000 :: vw 300 :: vw 100 :: vw 6000 :: vb 8 :: vb 3 :: vb 20 :: vw 3000 :: vw 6000 :: vq 1 :: rp 16 (vb 0) (vw 5 :: vw 100 :: vh 9 :: vb 3 :: vq 10 :: vw 7 :: vw 200 :: vw 3000 :: vh 4 :: vs 280 0 1 1 :: vp 286 0 :: vp 299 0 :: vp 306 0 :: vp 313 0 :: vp 16 0 :: vs 315 0 56 56 :: vi 3000 :: vi 0 :: vi 0 :: vw 0 :: vs 879 0 2 2 :: vs 493 0 1 1 :: []))),
  (280, oc 27 ([vw 2])),
  (286, oc 149 ([vs 295 0 1 1, vi 0, vi 0, vi 20])),
  (291, oc 322 ([vq 100, vq 6000, vq 300, vq 0, vq 0, vf])),
  (292, oc 270 ([vi 256, vi 512, vi 65536, vi 0])),
  (293, oc 190 ([vw 1, vw 2, vp 291 0, vp 292 0, vi 3, vi 0, vf, v0])),
  (295, oc 114 ([vp 293 0])),
  (299, oc 186 (vi 256 :: vh 4 :: vi 4000 :: vi 4000 :: vi 1000 :: vw 300 :: vw 100 :: vw 6000 :: vb 8 :: vb 3 :: vb 20 :: vw 3000 :: vw 6000 :: vw 102 :: vh 0 :: vh 1 :: rp 14 (vh 0) (vs 538 12 0 0 :: vi 0 :: vi 300 :: []))),
  (306, oc 232 ([vw 99, vw 102, vs 824 0 2 2, vf, vw 0])),
  (307, .map #[] 0),
  (308, oc 236 ([vw 199, vm 307, v0])),
  (309, .map #[] 0),
  (310, oc 268 ([vm 309, vi 0])),
  (311, .map #[] 0),
  (312, .map #[] 0),
  (313, oc 146 ([vh 4, vi 4000, vi 1000, vp 308 0, vp 310 0, vm 311, vm 312, v0, vi 0])),
  (315, oc 5 (rp 3 (vb 0) (vb 7 :: rp 3 (vb 0) (vb 5 :: rp 3 (vb 0) (vb 200 :: rp 3 (vb 0) (vb 100 :: vb 0 :: vb 0 :: vb 11 :: vb 184 :: vb 0 :: vb 4 :: vb 0 :: vb 9 :: rp 19 (vb 0) (vb 1 :: rp 3 (vb 0) (vb 1 :: vb 151 :: vb 21 :: vb 80 :: vb 237 :: vb 88 :: vb 214 :: vb 3 :: vb 163 :: [])))))))),
  (367, oc 27 ([vw 2])),
  (368, .map #[⟨vi 11, vi 0, 0⟩] 1),
  (369, oc 176 ([vs 441 0 1 1, vm 368])),
  (370, oc 99 (vs 367 0 1 1 :: vh 9 :: vt :: vi 256 :: vh 4 :: vi 4000 :: vi 4000 :: vi 1000 :: vw 300 :: vw 100 :: vw 6000 :: vb 8 :: vb 3 :: vb 20 :: vw 3000 :: vw 6000 :: vq 1 :: rp 16 (vb 0) (vw 7 :: vw 200 :: vh 9 :: vb 3 :: vq 0 :: vw 5 :: vw 100 :: vw 3000 :: vh 4 :: vs 374 0 1 1 :: vp 378 0 :: vp 391 0 :: vp 398 0 :: vp 405 0 :: vp 369 0 :: v0 :: vi 3000 :: vi 0 :: vi 0 :: vw 0 :: v0 :: vs 436 0 1 1 :: []))),
  (374, oc 27 ([vw 1])),
  (378, oc 149 ([vs 387 0 1 1, vi 0, vi 0, vi 20])),
  (383, oc 322 ([vq 100, vq 6000, vq 300, vq 0, vq 0, vf])),
  (384, oc 270 ([vi 256, vi 512, vi 65536, vi 0])),
  (385, oc 190 ([vw 2, vw 1, vp 383 0, vp 384 0, vi 3, vi 0, vf, v0])),
  (387, oc 114 ([vp 385 0])),
  (391, oc 186 (vi 256 :: vh 4 :: vi 4000 :: vi 4000 :: vi 1000 :: vw 300 :: vw 100 :: vw 6000 :: vb 8 :: vb 3 :: vb 20 :: vw 3000 :: vw 6000 :: vw 200 :: rp 16 (vh 0) (v0 :: vi 0 :: vi 0 :: []))),
  (398, oc 232 ([vw 199, vw 200, v0, vf, vw 0])),
  (399, .map #[] 0),
  (400, oc 236 ([vw 99, vm 399, v0])),
  (401, .map #[] 0),
  (402, oc 268 ([vm 401, vi 0])),
  (403, .map #[] 0),
  (404, .map #[] 0),
  (405, oc 146 ([vh 4, vi 4000, vi 1000, vp 400 0, vp 402 0, vm 403, vm 404, v0, vi 0])),
  (436, oc 5 ([vb 1])),
  (441, oc 169 ([vq 3300, vi 11])),
  (493, oc 5 ([vb 1])),
  (520, oc 5 (rp 228 (vb 0) [])),
  (525, oc 5 (rp 71 (vb 0) (vb 4 :: []))),
  (538, oc 159 ([vw 100, vb 2, vh 1, vh 0, vw 9, vs 520 0 228 228, vw 101, vb 1, vh 1, vh 0, vw 9, vs 525 0 72 72])),
  (635, oc 5 (rp 228 (vb 0) [])),
  (636, oc 182 ([vw 100, vb 2, vh 1, vh 0, vw 9, vs 635 0 228 228, vi 0, vq 10, vi 0, vf, vi 0])),
  (716, oc 5 (vb 0 :: vb 9 :: vb 0 :: vb 9 :: rp 3 (vb 0) (vb 7 :: vb 148 :: vb 49 :: vb 235 :: vb 64 :: vb 0 :: vb 2 :: vb 0 :: vb 244 :: rp 3 (vb 0) (vb 100 :: vb 0 :: vb 1 :: rp 5 (vb 0) (vb 9 :: rp 228 (vb 0) []))))),
  (722, oc 169 ([vq 310, vi 1, vq 3300, vi 11])),
  (821, oc 5 (rp 71 (vb 0) (vb 4 :: []))),
  (822, oc 182 ([vw 101, vb 1, vh 1, vh 0, vw 9, vs 821 0 72 72, vi 0, vq 10, vi 0, vf, vi 0])),
  (824, oc 180 ([vp 636 0, vp 822 0])),
  (875, oc 5 (vb 0 :: vb 9 :: vb 0 :: vb 9 :: rp 3 (vb 0) (vb 7 :: vb 178 :: vb 182 :: vb 252 :: vb 170 :: vb 0 :: vb 1 :: vb 0 :: vb 88 :: rp 3 (vb 0) (vb 101 :: vb 0 :: vb 1 :: rp 5 (vb 0) (vb 9 :: rp 71 (vb 0) (vb 4 :: [])))))),
  (879, oc 77 ([vw 1, vw 2, vs 716 0 256 256, vw 1, vw 2, vs 875 0 100 100]))],
  vi 2, 1132, [17, 370, 378, 385, 399, 400, 401, 402, 405, 403],
  [(17, oc 99 (vs 14 0 1 1 :: vh 9 :: vt :: vi 256 :: vh 4 :: vi 4000 :: vi 4000 :: vi 1000 :: vw 300 :: vw 100 :: vw 6000 :: vb 8 :: vb 3 :: vb 20 :: vw 3000 :: vw 6000 :: vq 1 :: rp 16 (vb 0) (vw 5 :: vw 100 :: vh 9 :: vb 3 :: vq 10 :: vw 7 :: vw 200 :: vw 3000 :: vh 4 :: vs 280 0 1 1 :: vp 286 0 :: vp 299 0 :: vp 306 0 :: vp 313 0 :: vp 16 0 :: vs 315 0 56 56 :: vi 3000 :: vi 0 :: vi 0 :: vw 0 :: v0 :: vs 493 0 1 1 :: []))),
  (370, oc 99 (vs 367 0 1 1 :: vh 9 :: vt :: vi 256 :: vh 4 :: vi 4000 :: vi 4000 :: vi 1000 :: vw 300 :: vw 100 :: vw 6000 :: vb 8 :: vb 3 :: vb 20 :: vw 3000 :: vw 6000 :: vq 1 :: rp 16 (vb 0) (vw 7 :: vw 200 :: vh 9 :: vb 3 :: vq 10 :: vw 5 :: vw 100 :: vw 3000 :: vh 4 :: vs 374 0 1 1 :: vp 378 0 :: vp 391 0 :: vp 398 0 :: vp 405 0 :: vp 369 0 :: v0 :: vi 3000 :: vi 0 :: vi 0 :: vw 0 :: vs 1121 0 2 2 :: vs 436 0 1 1 :: []))),
  (378, oc 149 ([vs 387 0 1 1, vi 0, vi 0, vi 20])),
  (385, oc 190 ([vw 2, vw 1, vp 383 0, vp 384 0, vi 3, vi 0, vf, v0])),
  (399, .map #[] 2),
  (400, oc 236 ([vw 101, vm 399, v0])),
  (401, .map #[] 2),
  (402, oc 268 ([vm 401, vi 0])),
  (403, .map #[⟨vh 1, vh 1, 0⟩] 1),
  (405, oc 146 ([vh 4, vi 4000, vi 1000, vp 400 0, vp 402 0, vm 403, vm 404, vs 1080 0 1 1, vi 300])),
  (991, oc 5 (vb 0 :: vb 9 :: vb 0 :: vb 9 :: rp 3 (vb 0) (vb 5 :: vb 72 :: vb 109 :: vb 63 :: vb 11 :: vb 3 :: vb 0 :: vb 0 :: vb 16 :: rp 3 (vb 0) (vb 100 :: vb 0 :: vb 0 :: vb 10 :: vb 212 :: rp 4 (vb 0) [])))),
  (1073, oc 5 (rp 299 (vb 0) (vb 4 :: []))),
  (1080, oc 43 ([vh 1, vf, vw 9, vs 1073 0 300 300])),
  (1117, oc 5 (vb 0 :: vb 9 :: vb 0 :: vb 9 :: rp 3 (vb 0) (vb 5 :: vb 193 :: vb 71 :: vb 233 :: vb 175 :: vb 3 :: vb 0 :: vb 0 :: vb 16 :: rp 3 (vb 0) (vb 101 :: vb 0 :: vb 0 :: vb 10 :: vb 140 :: rp 4 (vb 0) [])))),
  (1121, oc 77 ([vw 2, vw 1, vs 991 0 28 28, vw 2, vw 1, vs 1117 0 28 28]))]⟩
theorem ac5ok : CkOk Tryz.prog ac5 := ckOk_of (N := 200000) acS4ok (by kernel_rfl) (by kernel_rfl)
noncomputable def acS5 : Summ := ckS ac5 (acS4)
theorem acS5ok : SOk Tryz.prog acS5 := ckS_ok acS4ok ac5ok
def ac6 : Ck := ⟨32, 1132, [vp 370 0, vp 17 0, vq 10],
  [(14, oc 27 ([vw 1])),
  (15, .map #[⟨vi 11, vi 1, 2⟩, ⟨vi 1, vi 0, 3⟩] 4),
  (16, oc 176 ([vs 722 0 2 2, vm 15])),
  (17, oc 99 (vs 14 0 1 1 :: vh 9 :: vt :: vi 256 :: vh 4 :: vi 4000 :: vi 4000 :: vi 1000 :: vw 300 :: vw 100 :: vw 6000 :: vb 8 :: vb 3 :: vb 20 :: vw 3000 :: vw 6000 :: vq 1 :: rp 16 (vb 0) (vw 5 :: vw 100 :: vh 9 :: vb 3 :: vq 10 :: vw 7 :: vw 200 :: vw 3000 :: vh 4 :: vs 280 0 1 1 :: vp 286 0 :: vp 299 0 :: vp 306 0 :: vp 313 0 :: vp 16 0 :: vs 315 0 56 56 :: vi 3000 :: vi 0 :: vi 0 :: vw 0 :: v0 :: vs 493 0 1 1 :: []))),
  (280, oc 27 ([vw 2])),
  (286, oc 149 ([vs 295 0 1 1, vi 0, vi 0, vi 20])),
  (291, oc 322 ([vq 100, vq 6000, vq 300, vq 0, vq 0, vf])),
  (292, oc 270 ([vi 256, vi 512, vi 65536, vi 0])),
  (293, oc 190 ([vw 1, vw 2, vp 291 0, vp 292 0, vi 3, vi 0, vf, v0])),
  (295, oc 114 ([vp 293 0])),
  (299, oc 186 (vi 256 :: vh 4 :: vi 4000 :: vi 4000 :: vi 1000 :: vw 300 :: vw 100 :: vw 6000 :: vb 8 :: vb 3 :: vb 20 :: vw 3000 :: vw 6000 :: vw 102 :: vh 0 :: vh 1 :: rp 14 (vh 0) (vs 538 12 0 0 :: vi 0 :: vi 300 :: []))),
  (306, oc 232 ([vw 99, vw 102, vs 824 0 2 2, vf, vw 0])),
  (307, .map #[] 0),
  (308, oc 236 ([vw 199, vm 307, v0])),
  (309, .map #[] 0),
  (310, oc 268 ([vm 309, vi 0])),
  (311, .map #[] 0),
  (312, .map #[] 0),
  (313, oc 146 ([vh 4, vi 4000, vi 1000, vp 308 0, vp 310 0, vm 311, vm 312, v0, vi 0])),
  (315, oc 5 (rp 3 (vb 0) (vb 7 :: rp 3 (vb 0) (vb 5 :: rp 3 (vb 0) (vb 200 :: rp 3 (vb 0) (vb 100 :: vb 0 :: vb 0 :: vb 11 :: vb 184 :: vb 0 :: vb 4 :: vb 0 :: vb 9 :: rp 19 (vb 0) (vb 1 :: rp 3 (vb 0) (vb 1 :: vb 151 :: vb 21 :: vb 80 :: vb 237 :: vb 88 :: vb 214 :: vb 3 :: vb 163 :: [])))))))),
  (367, oc 27 ([vw 2])),
  (368, .map #[⟨vi 11, vi 0, 0⟩] 1),
  (369, oc 176 ([vs 441 0 1 1, vm 368])),
  (370, oc 99 (vs 367 0 1 1 :: vh 9 :: vt :: vi 256 :: vh 4 :: vi 4000 :: vi 4000 :: vi 1000 :: vw 300 :: vw 100 :: vw 6000 :: vb 8 :: vb 3 :: vb 20 :: vw 3000 :: vw 6000 :: vq 1 :: rp 16 (vb 0) (vw 7 :: vw 200 :: vh 9 :: vb 3 :: vq 10 :: vw 5 :: vw 100 :: vw 3000 :: vh 4 :: vs 374 0 1 1 :: vp 378 0 :: vp 391 0 :: vp 398 0 :: vp 405 0 :: vp 369 0 :: v0 :: vi 3000 :: vi 0 :: vi 0 :: vw 0 :: vs 1121 0 2 2 :: vs 436 0 1 1 :: []))),
  (374, oc 27 ([vw 1])),
  (378, oc 149 ([vs 387 0 1 1, vi 0, vi 0, vi 20])),
  (383, oc 322 ([vq 100, vq 6000, vq 300, vq 0, vq 0, vf])),
  (384, oc 270 ([vi 256, vi 512, vi 65536, vi 0])),
  (385, oc 190 ([vw 2, vw 1, vp 383 0, vp 384 0, vi 3, vi 0, vf, v0])),
  (387, oc 114 ([vp 385 0])),
  (391, oc 186 (vi 256 :: vh 4 :: vi 4000 :: vi 4000 :: vi 1000 :: vw 300 :: vw 100 :: vw 6000 :: vb 8 :: vb 3 :: vb 20 :: vw 3000 :: vw 6000 :: vw 200 :: rp 16 (vh 0) (v0 :: vi 0 :: vi 0 :: []))),
  (398, oc 232 ([vw 199, vw 200, v0, vf, vw 0])),
  (399, .map #[] 2),
  (400, oc 236 ([vw 101, vm 399, v0])),
  (401, .map #[] 2),
  (402, oc 268 ([vm 401, vi 0])),
  (403, .map #[⟨vh 1, vh 1, 0⟩] 1),
  (404, .map #[] 0),
  (405, oc 146 ([vh 4, vi 4000, vi 1000, vp 400 0, vp 402 0, vm 403, vm 404, vs 1080 0 1 1, vi 300])),
  (436, oc 5 ([vb 1])),
  (441, oc 169 ([vq 3300, vi 11])),
  (493, oc 5 ([vb 1])),
  (520, oc 5 (rp 228 (vb 0) [])),
  (525, oc 5 (rp 71 (vb 0) (vb 4 :: []))),
  (538, oc 159 ([vw 100, vb 2, vh 1, vh 0, vw 9, vs 520 0 228 228, vw 101, vb 1, vh 1, vh 0, vw 9, vs 525 0 72 72])),
  (635, oc 5 (rp 228 (vb 0) [])),
  (636, oc 182 ([vw 100, vb 2, vh 1, vh 0, vw 9, vs 635 0 228 228, vi 0, vq 10, vi 0, vf, vi 0])),
  (722, oc 169 ([vq 310, vi 1, vq 3300, vi 11])),
  (821, oc 5 (rp 71 (vb 0) (vb 4 :: []))),
  (822, oc 182 ([vw 101, vb 1, vh 1, vh 0, vw 9, vs 821 0 72 72, vi 0, vq 10, vi 0, vf, vi 0])),
  (824, oc 180 ([vp 636 0, vp 822 0])),
  (991, oc 5 (vb 0 :: vb 9 :: vb 0 :: vb 9 :: rp 3 (vb 0) (vb 5 :: vb 72 :: vb 109 :: vb 63 :: vb 11 :: vb 3 :: vb 0 :: vb 0 :: vb 16 :: rp 3 (vb 0) (vb 100 :: vb 0 :: vb 0 :: vb 10 :: vb 212 :: rp 4 (vb 0) [])))),
  (1073, oc 5 (rp 299 (vb 0) (vb 4 :: []))),
  (1080, oc 43 ([vh 1, vf, vw 9, vs 1073 0 300 300])),
  (1117, oc 5 (vb 0 :: vb 9 :: vb 0 :: vb 9 :: rp 3 (vb 0) (vb 5 :: vb 193 :: vb 71 :: vb 233 :: vb 175 :: vb 3 :: vb 0 :: vb 0 :: vb 16 :: rp 3 (vb 0) (vb 101 :: vb 0 :: vb 0 :: vb 10 :: vb 140 :: rp 4 (vb 0) [])))),
  (1121, oc 77 ([vw 2, vw 1, vs 991 0 28 28, vw 2, vw 1, vs 1117 0 28 28]))],
  vi 2, 1341, [370, 17, 286, 293, 636, 306, 299, 291, 722, 15, 16, 822],
  [(15, .map #[⟨vi 11, vi 0, 2⟩] 6),
  (16, oc 176 ([vs 722 0 1 2, vm 15])),
  (17, oc 99 (vs 14 0 1 1 :: vh 9 :: vt :: vi 256 :: vh 4 :: vi 4000 :: vi 4000 :: vi 1000 :: vw 300 :: vw 100 :: vw 6000 :: vb 8 :: vb 3 :: vb 20 :: vw 3000 :: vw 6000 :: vq 1 :: rp 16 (vb 0) (vw 5 :: vw 100 :: vh 9 :: vb 3 :: vq 10 :: vw 7 :: vw 200 :: vw 3000 :: vh 4 :: vs 280 0 1 1 :: vp 286 0 :: vp 299 0 :: vp 306 0 :: vp 313 0 :: vp 16 0 :: vs 315 0 56 56 :: vi 2700 :: vi 0 :: vi 0 :: vw 0 :: v0 :: vs 493 0 1 1 :: []))),
  (286, oc 149 ([vs 295 0 1 1, vi 0, vi 0, vi 20])),
  (291, oc 322 ([vq 100, vq 6000, vq 100, vq 0, vq 0, vt])),
  (293, oc 190 ([vw 1, vw 2, vp 291 0, vp 292 0, vi 3, vi 0, vf, v0])),
  (299, oc 186 (vi 256 :: vh 4 :: vi 4000 :: vi 4000 :: vi 1000 :: vw 300 :: vw 100 :: vw 6000 :: vb 8 :: vb 3 :: vb 20 :: vw 3000 :: vw 6000 :: vw 102 :: vh 0 :: vh 1 :: rp 14 (vh 0) (vs 538 12 0 0 :: vi 0 :: vi 0 :: []))),
  (306, oc 232 ([vw 101, vw 102, vs 824 2 0 0, vf, vw 0])),
  (370, oc 99 (vs 367 0 1 1 :: vh 9 :: vt :: vi 256 :: vh 4 :: vi 4000 :: vi 4000 :: vi 1000 :: vw 300 :: vw 100 :: vw 6000 :: vb 8 :: vb 3 :: vb 20 :: vw 3000 :: vw 6000 :: vq 1 :: rp 16 (vb 0) (vw 7 :: vw 200 :: vh 9 :: vb 3 :: vq 10 :: vw 5 :: vw 100 :: vw 3000 :: vh 4 :: vs 374 0 1 1 :: vp 378 0 :: vp 391 0 :: vp 398 0 :: vp 405 0 :: vp 369 0 :: v0 :: vi 3000 :: vi 0 :: vi 0 :: vw 0 :: v0 :: vs 436 0 1 1 :: []))),
  (636, oc 182 ([vw 100, vb 2, vh 1, vh 0, vw 9, vs 635 0 228 228, vi 0, vq 10, vi 2, vf, vi 0])),
  (722, oc 169 ([vq 3300, vi 11, vq 110, vi 1])),
  (822, oc 182 ([vw 101, vb 1, vh 1, vh 0, vw 9, vs 821 0 72 72, vi 0, vq 10, vi 2, vf, vi 0]))]⟩
theorem ac6ok : CkOk Tryz.prog ac6 := ckOk_of (N := 200000) acS5ok (by kernel_rfl) (by kernel_rfl)
noncomputable def acS6 : Summ := ckS ac6 (acS5)
theorem acS6ok : SOk Tryz.prog acS6 := ckS_ok acS5ok ac6ok
end Go.Proofs.YtfpeehikichafaaGreat
namespace Go.Proofs.YtfpeehikichafaaGreat
open Go.RowKit
theorem works20Run : callK (A := Bool) Tryz.prog acS6 (fev Tryz.prog acS6 200000) 19 [] emptyH asB = some true := by kernel_rfl
theorem works20_const (h : AHeap) : CallRun Tryz.prog (fun _ => False) 19 #[] h (.bool true) h := by
  obtain ⟨v, h', wr, hc, he⟩ := callRun_of acS6ok works20Run
  obtain rfl := asB_true he
  exact CallRun.const (by kernel_rfl) hc rfl h
noncomputable def worksS : Summ := fun f args h => Bool.rec (acS6 f args h) (List.rec (some (.bool true, h, [])) (fun _ _ _ => none) args) (Nat.beq f 19)
theorem worksS_ok : SOk Tryz.prog worksS := fun f args h v h' wr e => by
  unfold worksS at e
  cases hb : Nat.beq f 19 with
  | false => rw [hb] at e; exact acS6ok f args h v h' wr e
  | true =>
    rw [hb] at e
    cases args with
    | cons a l => cases e
    | nil =>
      cases e
      obtain rfl := Nat.eq_of_beq_eq_true hb
      exact (works20_const h).weak fun i hi => hi.elim
end Go.Proofs.YtfpeehikichafaaGreat
namespace Go.Proofs.YtfpeehikichafaaGreat
open Go.RowKit
theorem assocKnownRun : callK (A := Bool) Tryz.prog worksS (fev Tryz.prog worksS 200000) 3 [] emptyH asB = some true := by kernel_rfl
theorem assocKnownWalk (w : World) : Calls Tryz.prog 3 #[] w fun e w' => e = .returned (.bool true) ∧ Below w.heap.size w w' := by
  obtain ⟨v, h', wr, hc, he⟩ := callRun_of worksS_ok assocKnownRun
  obtain rfl := asB_true he
  exact calls_of (by kernel_rfl) hc (by simp) rfl w
end Go.Proofs.YtfpeehikichafaaGreat