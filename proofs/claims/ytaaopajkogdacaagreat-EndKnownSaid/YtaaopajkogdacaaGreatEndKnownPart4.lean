/- What the law leans on, part 4. No conditions. -/
import Derived.Test.YtaaopajkogdacaaGreatChecked
import Derived.KernelRfl
import Derived.Test.YtaaopajkogdacaaGreatEndKnownPart3
set_option linter.unusedVariables false
set_option linter.unusedSimpArgs false
namespace Go.Proofs.YtaaopajkogdacaaGreat
open Go.RowKit
def rowNats : List Nat := [
  0, 4067132163, 3778769143, 324072436, 3348797215, 904991772, 648144872, 3570033899,
  2329499855, 2024987596, 1809983544, 2575936315, 1296289744, 3207089363, 2893594407, 1578318884,
  274646895, 3795141740, 4049975192, 51262619, 3619967088, 632279923, 922689671, 3298075524,
  2592579488, 1760304291, 2075979607, 2312596564, 1562183871, 2943781820, 3156637768, 1313733451,
  549293790, 3537243613, 3246849577, 871202090, 3878099393, 357341890, 102525238, 4101499445,
  2858735121, 1477399826, 1264559846, 3107202533, 1845379342, 2677391885, 2361733625, 2125378298,
  820201905, 3263744690, 3520608582, 598981189, 4151959214, 85089709, 373468761, 3827903834,
  3124367742, 1213305469, 1526817161, 2842354314, 2107672161, 2412447074, 2627466902, 1861252501,
  1098587580, 3004210879, 2688576843, 1378610760, 2262928035, 1955203488, 1742404180, 2511436119,
  3416409459, 969524848, 714683780, 3639785095, 205050476, 4266873199, 3976438427, 526918040,
  1361435347, 2739821008, 2954799652, 1114974503, 2529119692, 1691668175, 2005155131, 2247081528,
  3690758684, 697762079, 986182379, 3366744552, 476452099, 3993867776, 4250756596, 255256311,
  1640403810, 2477592673, 2164122517, 1922457750, 2791048317, 1412925310, 1197962378, 3037525897,
  3944729517, 427051182, 170179418, 4165941337, 746937522, 3740196785, 3451792453, 1070968646,
  1905808397, 2213795598, 2426610938, 1657317369, 3053634322, 1147748369, 1463399397, 2773627110,
  4215344322, 153784257, 444234805, 3893493558, 1021025245, 3467647198, 3722505002, 797665321,
  2197175160, 1889384571, 1674398607, 2443626636, 1164749927, 3070701412, 2757221520, 1446797203,
  137323447, 4198817972, 3910406976, 461344835, 3484808360, 1037989803, 781091935, 3705997148,
  2460548119, 1623424788, 1939049696, 2180517859, 1429367560, 2807687179, 3020495871, 1180866812,
  410100952, 3927582683, 4182430767, 186734380, 3756733383, 763408580, 1053836080, 3434856499,
  2722870694, 1344288421, 1131464017, 2971354706, 1708204729, 2545590714, 2229949006, 1988219213,
  680717673, 3673779818, 3383336350, 1002577565, 4010310262, 493091189, 238226049, 4233660802,
  2987750089, 1082061258, 1395524158, 2705686845, 1972364758, 2279892693, 2494862625, 1725896226,
  952904198, 3399985413, 3656866545, 731699698, 4283874585, 222117402, 510512622, 3959836397,
  3280807620, 837199303, 582374963, 3504198960, 68661723, 4135334616, 3844915500, 390545967,
  1230274059, 3141532936, 2825850620, 1510247935, 2395924756, 2091215383, 1878366691, 2644384480,
  3553878443, 565732008, 854102364, 3229815391, 340358836, 3861050807, 4117890627, 119113024,
  1493875044, 2875275879, 3090270611, 1247431312, 2660249211, 1828433272, 2141937292, 2378227087,
  3811616794, 291187481, 34330861, 4032846830, 615137029, 3603020806, 3314634738, 939183345,
  1776939221, 2609017814, 2295496738, 2058945313, 2926798794, 1545135305, 1330124605, 3173225534,
  4084100981, 17165430, 307568514, 3762199681, 888469610, 3332340585, 3587147933, 665062302,
  2042050490, 2346497209, 2559330125, 1793573966, 3190661285, 1279665062, 1595330642, 2910671697]
def u32s (ns : List Nat) : List Value := ns.map fun n => .int .u32 (.ofNat n)
def rowVal : Value := .agg (u32s rowNats).toArray
def eqU32 : List Value → List Nat → Bool
  | [], [] => true
  | .int .u32 (.ofNat a) :: l, n :: ns => Nat.beq a n && eqU32 l ns
  | _, _ => false
theorem eqU32_eq : ∀ {l : List Value} {ns : List Nat}, eqU32 l ns = true → l = u32s ns
  | [], [], _ => rfl
  | [], n :: ns, h => by cases h
  | v :: l, [], h => by unfold eqU32 at h; split at h <;> simp_all
  | v :: l, n :: ns, h => by
    unfold eqU32 at h
    split at h
    · simp_all
    · rename_i a l' n' ns' e1 e2
      cases e1; cases e2
      rw [Bool.and_eq_true] at h
      rw [Nat.eq_of_beq_eq_true h.1, eqU32_eq h.2]
      rfl
    · cases h
def isRow : Value → AHeap → List Nat → Option Bool
  | .agg a, _, _ => some (eqU32 a.toList rowNats)
  | _, _, _ => none
theorem isRow_eq {v : Value} {h : AHeap} {wr : List Nat} (e : isRow v h wr = some true) : v = rowVal := by
  unfold isRow at e
  split at e
  · rename_i a
    simp only [Option.some.injEq] at e
    show Value.agg a = .agg (u32s rowNats).toArray
    rw [← eqU32_eq e]
  · cases e
theorem CallRun.const {P : Program} {W : Nat → Prop} {f : FuncId} {v : Value} {h' : AHeap} (hg : P.globals.size = 0) (hc : CallRun P W f #[] emptyH v h') (hv : flatB v = true) (h : AHeap) : CallRun P (fun _ => False) f #[] h v h := by
  refine ⟨.refl _ _, fun m w args' hm hf ha hh => ?_⟩
  obtain rfl : args' = #[] := Array.eq_empty_of_size_eq_zero ha.1.symm
  refine (hc.run (fun _ => none) w #[] (fun g hlt => by omega) (fun i _ _ => rfl) (ARel.empty _) (hrel_empty P Ev w)).mono ?_
  rintro e w' ⟨v', m', rfl, hF, hV, _⟩
  have keep : ∀ b, b < w.heap.size → w'.heap[b]? = w.heap[b]? := fun b hb => hF.keep b hb fun j k hj => absurd hj (Nat.not_lt_zero j)
  refine ⟨v', m, rfl, ⟨fun _ _ => rfl, fun i l a b _ => by omega, fun b hb _ => keep b hb, hF.size, hF.os, hF.tape, hF.output⟩, ?_, ?_⟩
  · rw [VRel.eq_of_flat hV hv]; exact VRel.flat m hv
  · exact { lt := fun i l e => Nat.lt_of_lt_of_le (hh.lt i l e) hF.size
            typ := hh.typ
            inj := hh.inj
            roS := hh.roS
            obj := fun i l o hd e g => by
              obtain ⟨o', a, b⟩ := hh.obj i l o hd e g
              exact ⟨o', by rw [keep l.b (hh.lt i l e)]; exact a, b⟩ }
theorem rowRun : callK (A := Bool) Tryz.prog noS (fev Tryz.prog noS 5000) 327 [] emptyH isRow = some true := by kernel_rfl
theorem rowFlat : flatB rowVal = true := by kernel_rfl
theorem row_const (h : AHeap) : CallRun Tryz.prog (fun _ => False) 327 #[] h rowVal h := by
  obtain ⟨v, h', wr, hc, he⟩ := callRun_of (noS_ok _) rowRun
  obtain rfl := isRow_eq he
  exact CallRun.const (by kernel_rfl) hc rowFlat h
noncomputable def rowS : Summ := fun f args h => Bool.rec none (List.rec (some (rowVal, h, [])) (fun _ _ _ => none) args) (Nat.beq f 327)
theorem rowS_ok : SOk Tryz.prog rowS := fun f args h v h' wr e => by
  unfold rowS at e
  cases hb : Nat.beq f 327 with
  | false => rw [hb] at e; cases e
  | true =>
    rw [hb] at e
    cases args with
    | cons a l => cases e
    | nil =>
      cases e
      obtain rfl := Nat.eq_of_beq_eq_true hb
      exact (row_const h).weak fun i hi => hi.elim
def asB : Value → AHeap → List Nat → Option Bool
  | .bool b, _, _ => some b
  | _, _, _ => none
theorem asB_true {v : Value} {h : AHeap} {wr : List Nat} (e : asB v h wr = some true) : v = .bool true := by
  unfold asB at e
  split at e
  · cases e; rfl
  · cases e
end Go.Proofs.YtaaopajkogdacaaGreat
namespace Go.Proofs.YtaaopajkogdacaaGreat
open Go.RowKit
theorem works23Run : callK (A := Bool) Tryz.prog rowS (fev Tryz.prog rowS 200000) 41 [] emptyH asB = some true := by kernel_rfl
theorem works23_const (h : AHeap) : CallRun Tryz.prog (fun _ => False) 41 #[] h (.bool true) h := by
  obtain ⟨v, h', wr, hc, he⟩ := callRun_of rowS_ok works23Run
  obtain rfl := asB_true he
  exact CallRun.const (by kernel_rfl) hc rfl h
noncomputable def rowS2 : Summ := fun f args h => Bool.rec (rowS f args h) (List.rec (some (.bool true, h, [])) (fun _ _ _ => none) args) (Nat.beq f 41)
theorem rowS2_ok : SOk Tryz.prog rowS2 := fun f args h v h' wr e => by
  unfold rowS2 at e
  cases hb : Nat.beq f 41 with
  | false => rw [hb] at e; exact rowS_ok f args h v h' wr e
  | true =>
    rw [hb] at e
    cases args with
    | cons a l => cases e
    | nil =>
      cases e
      obtain rfl := Nat.eq_of_beq_eq_true hb
      exact (works23_const h).weak fun i hi => hi.elim
end Go.Proofs.YtaaopajkogdacaaGreat
namespace Go.Proofs.YtaaopajkogdacaaGreat
open Go.RowKit
theorem endKnownRun : callK (A := Bool) Tryz.prog rowS2 (fev Tryz.prog rowS2 200000) 4 [] emptyH asB = some true := by kernel_rfl
theorem endKnownWalk (w : World) : Calls Tryz.prog 4 #[] w fun e w' => e = .returned (.bool true) ∧ Below w.heap.size w w' := by
  obtain ⟨v, h', wr, hc, he⟩ := callRun_of rowS2_ok endKnownRun
  obtain rfl := asB_true he
  exact calls_of (by kernel_rfl) hc (by simp) rfl w
end Go.Proofs.YtaaopajkogdacaaGreat