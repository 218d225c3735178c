/-
  No cell of these rows narrows 'for every input' (looked for: loops, veiled, ifaces, maps, wideKeys, modest, calm, conditions, laid).
  DERIVED. THE GIVEN ROWS OF THIS SEAT. 12 by the template 'for every input the law returns true; each argument reads behind the call as it read before'; 0 by the template 'total and deterministic' (their statements: YtefdedjnkmpkjaaTotals.lean).
  GIVEN WITH THE SEED: the statements are not yours to turn. If you find one false, say at which input.
  Laid BY PROGRAM, IN A SANDBOX (cutbox-rows.mjs): the forced cells as the released guide's own fill.sh prints them over the translation ce16a0ccc3106c41… (all of the seat's roots in one cut). By AI agents, Wed Nov 11 2026. No macro, syntax, notation, axiom, sorry.
-/
import Derived.Test.YtefdedjnkmpkjaaChecked
import GoSem.Claim
import GoSem.ClaimJoined
import GoSem.ClaimMapViews
import Derived.JoinedTies
import Derived.KernelRfl
namespace Go.Proofs.Ytefdedjnkmpkjaa
/- THE CELL 'sum', in the pinned program and in every row, IS THE sha256 OF THE DUMP (.gsa) THAT YtefdedjnkmpkjaaProg.lean LOADS. Nothing in Lean hashes anything: it is a label: what it is worth is what the hold of that sum in a sandbox is worth. -/
noncomputable def Try.pinned : Pinned := { name := "ytefdedjnkmpkjaa", sum := "ce16a0ccc3106c418dcbd9b923a24ee0b649f7dfcc0b6ebe89981d01af6afbf2", checked := Try.checked }
namespace Rows
def none {H : Type} : Left H := { results := [], args := [] }

/-- 'lanyardlaw01.CrcSums': WHATEVER THE INPUT: true; the input reads as it did. -/
def crcSumsSpec : ChangeSpec := { name := "crcSums", fn := fun _ => fun
  | [d1, d2] => { results := [.lit (.bool true)], args := [d1, d2] }
  | _ => none }
def crcSumsRow : OpenClaim := { program := "ytefdedjnkmpkjaa", sum := "ce16a0ccc3106c418dcbd9b923a24ee0b649f7dfcc0b6ebe89981d01af6afbf2", func := "lanyard/lanyardlaw01.CrcSums", spec := "crcSums", apart := false }
def CrcSumsSaid : Prop := crcSumsRow.holds Try.pinned (OpenSpec.ofChange crcSumsSpec)

/-- ITS FALSE NEIGHBOUR: 'it returns false'. Refute it at one input. -/
def crcSumsWrong : ChangeSpec := { name := "crcSums", fn := fun _ => fun
  | [d1, d2] => { results := [.lit (.bool false)], args := [d1, d2] }
  | _ => none }
def CrcSumsWrongFalsely : Prop := crcSumsRow.holds Try.pinned (OpenSpec.ofChange crcSumsWrong)

/-- 'lanyardlaw01.CrcParts': WHATEVER THE INPUT: true; the input reads as it did. -/
def crcPartsSpec : ChangeSpec := { name := "crcParts", fn := fun _ => fun
  | [d1, d2] => { results := [.lit (.bool true)], args := [d1, d2] }
  | _ => none }
def crcPartsRow : OpenClaim := { program := "ytefdedjnkmpkjaa", sum := "ce16a0ccc3106c418dcbd9b923a24ee0b649f7dfcc0b6ebe89981d01af6afbf2", func := "lanyard/lanyardlaw01.CrcParts", spec := "crcParts", apart := false }
def CrcPartsSaid : Prop := crcPartsRow.holds Try.pinned (OpenSpec.ofChange crcPartsSpec)

/-- ITS FALSE NEIGHBOUR: 'it returns false'. Refute it at one input. -/
def crcPartsWrong : ChangeSpec := { name := "crcParts", fn := fun _ => fun
  | [d1, d2] => { results := [.lit (.bool false)], args := [d1, d2] }
  | _ => none }
def CrcPartsWrongFalsely : Prop := crcPartsRow.holds Try.pinned (OpenSpec.ofChange crcPartsWrong)

/-- 'lanyardlaw01.CrcBursts': WHATEVER THE INPUT: true; the input reads as it did. -/
def crcBurstsSpec : ChangeSpec := { name := "crcBursts", fn := fun _ => fun
  | [d1, d2, d3] => { results := [.lit (.bool true)], args := [d1, d2, d3] }
  | _ => none }
def crcBurstsRow : OpenClaim := { program := "ytefdedjnkmpkjaa", sum := "ce16a0ccc3106c418dcbd9b923a24ee0b649f7dfcc0b6ebe89981d01af6afbf2", func := "lanyard/lanyardlaw01.CrcBursts", spec := "crcBursts", apart := false }
def CrcBurstsSaid : Prop := crcBurstsRow.holds Try.pinned (OpenSpec.ofChange crcBurstsSpec)

/-- ITS FALSE NEIGHBOUR: 'it returns false'. Refute it at one input. -/
def crcBurstsWrong : ChangeSpec := { name := "crcBursts", fn := fun _ => fun
  | [d1, d2, d3] => { results := [.lit (.bool false)], args := [d1, d2, d3] }
  | _ => none }
def CrcBurstsWrongFalsely : Prop := crcBurstsRow.holds Try.pinned (OpenSpec.ofChange crcBurstsWrong)

/-- 'lanyardlaw01.CrcTurned': WHATEVER THE INPUT: true; the input reads as it did. -/
def crcTurnedSpec : ChangeSpec := { name := "crcTurned", fn := fun _ => fun
  | [d1, d2, d3] => { results := [.lit (.bool true)], args := [d1, d2, d3] }
  | _ => none }
def crcTurnedRow : OpenClaim := { program := "ytefdedjnkmpkjaa", sum := "ce16a0ccc3106c418dcbd9b923a24ee0b649f7dfcc0b6ebe89981d01af6afbf2", func := "lanyard/lanyardlaw01.CrcTurned", spec := "crcTurned", apart := false }
def CrcTurnedSaid : Prop := crcTurnedRow.holds Try.pinned (OpenSpec.ofChange crcTurnedSpec)

/-- ITS FALSE NEIGHBOUR: 'it returns false'. Refute it at one input. -/
def crcTurnedWrong : ChangeSpec := { name := "crcTurned", fn := fun _ => fun
  | [d1, d2, d3] => { results := [.lit (.bool false)], args := [d1, d2, d3] }
  | _ => none }
def CrcTurnedWrongFalsely : Prop := crcTurnedRow.holds Try.pinned (OpenSpec.ofChange crcTurnedWrong)

/-- 'lanyardlaw22.OotbAnswers': WHATEVER THE INPUT: true; the input reads as it did. -/
def ootbAnswersSpec : ChangeSpec := { name := "ootbAnswers", fn := fun _ => fun
  | [d] => { results := [.lit (.bool true)], args := [d] }
  | _ => none }
def ootbAnswersRow : OpenClaim := { program := "ytefdedjnkmpkjaa", sum := "ce16a0ccc3106c418dcbd9b923a24ee0b649f7dfcc0b6ebe89981d01af6afbf2", func := "lanyard/lanyardlaw22.OotbAnswers", spec := "ootbAnswers", unfollowed := true, recurses := true, apart := false }
def OotbAnswersSaid : Prop := ootbAnswersRow.holds Try.pinned (OpenSpec.ofChange ootbAnswersSpec)

/-- ITS FALSE NEIGHBOUR: 'it returns false'. Refute it at one input. -/
def ootbAnswersWrong : ChangeSpec := { name := "ootbAnswers", fn := fun _ => fun
  | [d] => { results := [.lit (.bool false)], args := [d] }
  | _ => none }
def OotbAnswersWrongFalsely : Prop := ootbAnswersRow.holds Try.pinned (OpenSpec.ofChange ootbAnswersWrong)

/-- 'lanyardlaw22.OotbMore': WHATEVER THE INPUT: true; the input reads as it did. -/
def ootbMoreSpec : ChangeSpec := { name := "ootbMore", fn := fun _ => fun
  | [d1, d2] => { results := [.lit (.bool true)], args := [d1, d2] }
  | _ => none }
def ootbMoreRow : OpenClaim := { program := "ytefdedjnkmpkjaa", sum := "ce16a0ccc3106c418dcbd9b923a24ee0b649f7dfcc0b6ebe89981d01af6afbf2", func := "lanyard/lanyardlaw22.OotbMore", spec := "ootbMore", unfollowed := true, recurses := true, apart := false }
def OotbMoreSaid : Prop := ootbMoreRow.holds Try.pinned (OpenSpec.ofChange ootbMoreSpec)

/-- ITS FALSE NEIGHBOUR: 'it returns false'. Refute it at one input. -/
def ootbMoreWrong : ChangeSpec := { name := "ootbMore", fn := fun _ => fun
  | [d1, d2] => { results := [.lit (.bool false)], args := [d1, d2] }
  | _ => none }
def OotbMoreWrongFalsely : Prop := ootbMoreRow.holds Try.pinned (OpenSpec.ofChange ootbMoreWrong)

/-- 'lanyardlaw04.TlvPuts': WHATEVER THE INPUT: true; the input reads as it did. -/
def tlvPutsSpec : ChangeSpec := { name := "tlvPuts", fn := fun _ => fun
  | [d1, d2] => { results := [.lit (.bool true)], args := [d1, d2] }
  | _ => none }
def tlvPutsRow : OpenClaim := { program := "ytefdedjnkmpkjaa", sum := "ce16a0ccc3106c418dcbd9b923a24ee0b649f7dfcc0b6ebe89981d01af6afbf2", func := "lanyard/lanyardlaw04.TlvPuts", spec := "tlvPuts", unfollowed := true, recurses := true, apart := false }
def TlvPutsSaid : Prop := tlvPutsRow.holds Try.pinned (OpenSpec.ofChange tlvPutsSpec)

/-- ITS FALSE NEIGHBOUR: 'it returns false'. Refute it at one input. -/
def tlvPutsWrong : ChangeSpec := { name := "tlvPuts", fn := fun _ => fun
  | [d1, d2] => { results := [.lit (.bool false)], args := [d1, d2] }
  | _ => none }
def TlvPutsWrongFalsely : Prop := tlvPutsRow.holds Try.pinned (OpenSpec.ofChange tlvPutsWrong)

/-- 'lanyardlaw04.TlvGoes': WHATEVER THE INPUT: true; the input reads as it did. -/
def tlvGoesSpec : ChangeSpec := { name := "tlvGoes", fn := fun _ => fun
  | [d1, d2, d3] => { results := [.lit (.bool true)], args := [d1, d2, d3] }
  | _ => none }
def tlvGoesRow : OpenClaim := { program := "ytefdedjnkmpkjaa", sum := "ce16a0ccc3106c418dcbd9b923a24ee0b649f7dfcc0b6ebe89981d01af6afbf2", func := "lanyard/lanyardlaw04.TlvGoes", spec := "tlvGoes", unfollowed := true, recurses := true, apart := false }
def TlvGoesSaid : Prop := tlvGoesRow.holds Try.pinned (OpenSpec.ofChange tlvGoesSpec)

/-- ITS FALSE NEIGHBOUR: 'it returns false'. Refute it at one input. -/
def tlvGoesWrong : ChangeSpec := { name := "tlvGoes", fn := fun _ => fun
  | [d1, d2, d3] => { results := [.lit (.bool false)], args := [d1, d2, d3] }
  | _ => none }
def TlvGoesWrongFalsely : Prop := tlvGoesRow.holds Try.pinned (OpenSpec.ofChange tlvGoesWrong)

/-- 'lanyardlaw04.TlvBack': WHATEVER THE INPUT: true; the input reads as it did. -/
def tlvBackSpec : ChangeSpec := { name := "tlvBack", fn := fun _ => fun
  | [d1, d2, d3] => { results := [.lit (.bool true)], args := [d1, d2, d3] }
  | _ => none }
def tlvBackRow : OpenClaim := { program := "ytefdedjnkmpkjaa", sum := "ce16a0ccc3106c418dcbd9b923a24ee0b649f7dfcc0b6ebe89981d01af6afbf2", func := "lanyard/lanyardlaw04.TlvBack", spec := "tlvBack", unfollowed := true, recurses := true, apart := false }
def TlvBackSaid : Prop := tlvBackRow.holds Try.pinned (OpenSpec.ofChange tlvBackSpec)

/-- ITS FALSE NEIGHBOUR: 'it returns false'. Refute it at one input. -/
def tlvBackWrong : ChangeSpec := { name := "tlvBack", fn := fun _ => fun
  | [d1, d2, d3] => { results := [.lit (.bool false)], args := [d1, d2, d3] }
  | _ => none }
def TlvBackWrongFalsely : Prop := tlvBackRow.holds Try.pinned (OpenSpec.ofChange tlvBackWrong)

/-- 'lanyardlaw03.HeadPuts': WHATEVER THE INPUT: true; the input reads as it did. -/
def headPutsSpec : ChangeSpec := { name := "headPuts", fn := fun _ => fun
  | [d1, d2] => { results := [.lit (.bool true)], args := [d1, d2] }
  | _ => none }
def headPutsRow : OpenClaim := { program := "ytefdedjnkmpkjaa", sum := "ce16a0ccc3106c418dcbd9b923a24ee0b649f7dfcc0b6ebe89981d01af6afbf2", func := "lanyard/lanyardlaw03.HeadPuts", spec := "headPuts", apart := false }
def HeadPutsSaid : Prop := headPutsRow.holds Try.pinned (OpenSpec.ofChange headPutsSpec)

/-- ITS FALSE NEIGHBOUR: 'it returns false'. Refute it at one input. -/
def headPutsWrong : ChangeSpec := { name := "headPuts", fn := fun _ => fun
  | [d1, d2] => { results := [.lit (.bool false)], args := [d1, d2] }
  | _ => none }
def HeadPutsWrongFalsely : Prop := headPutsRow.holds Try.pinned (OpenSpec.ofChange headPutsWrong)

/-- 'lanyardlaw03.HeadTakes': WHATEVER THE INPUT: true; the input reads as it did. -/
def headTakesSpec : ChangeSpec := { name := "headTakes", fn := fun _ => fun
  | [d] => { results := [.lit (.bool true)], args := [d] }
  | _ => none }
def headTakesRow : OpenClaim := { program := "ytefdedjnkmpkjaa", sum := "ce16a0ccc3106c418dcbd9b923a24ee0b649f7dfcc0b6ebe89981d01af6afbf2", func := "lanyard/lanyardlaw03.HeadTakes", spec := "headTakes", apart := false }
def HeadTakesSaid : Prop := headTakesRow.holds Try.pinned (OpenSpec.ofChange headTakesSpec)

/-- ITS FALSE NEIGHBOUR: 'it returns false'. Refute it at one input. -/
def headTakesWrong : ChangeSpec := { name := "headTakes", fn := fun _ => fun
  | [d] => { results := [.lit (.bool false)], args := [d] }
  | _ => none }
def HeadTakesWrongFalsely : Prop := headTakesRow.holds Try.pinned (OpenSpec.ofChange headTakesWrong)

/-- 'lanyardlaw03.HeadBack': WHATEVER THE INPUT: true; the input reads as it did. -/
def headBackSpec : ChangeSpec := { name := "headBack", fn := fun _ => fun
  | [d1, d2, d3, d4, d5] => { results := [.lit (.bool true)], args := [d1, d2, d3, d4, d5] }
  | _ => none }
def headBackRow : OpenClaim := { program := "ytefdedjnkmpkjaa", sum := "ce16a0ccc3106c418dcbd9b923a24ee0b649f7dfcc0b6ebe89981d01af6afbf2", func := "lanyard/lanyardlaw03.HeadBack", spec := "headBack", apart := false }
def HeadBackSaid : Prop := headBackRow.holds Try.pinned (OpenSpec.ofChange headBackSpec)

/-- ITS FALSE NEIGHBOUR: 'it returns false'. Refute it at one input. -/
def headBackWrong : ChangeSpec := { name := "headBack", fn := fun _ => fun
  | [d1, d2, d3, d4, d5] => { results := [.lit (.bool false)], args := [d1, d2, d3, d4, d5] }
  | _ => none }
def HeadBackWrongFalsely : Prop := headBackRow.holds Try.pinned (OpenSpec.ofChange headBackWrong)

/- THE SECOND FORM. 'bulk': how many values and letters a reading holds, each counted each time it is reached (what is shared counts as often as it is met; a slice's spare places count too). A statement '..UptoSaid' is the law's where the arguments, and the package variables that the reading takes, are together of bulk at most 1048576: NARROWER than '..Said'. Prove '..Said' where nothing that the law and all that it calls make is longer than what came in: it says more and counts as full. Else prove '..UptoSaid'. A law counts once. -/
mutual
def uptoBulk {H : Type} : DataW H → Nat
  | .lit (.string bytes) => bytes.length + 1
  | .lit _ => 1
  | .nil => 1
  | .ptr d => uptoBulk d + 1
  | .slice elems spare => uptoBulkAll elems + uptoBulkAll spare + 1
  | .agg parts => uptoBulkAll parts + 1
  | .iface _ d => uptoBulk d + 1
  | .map entries => uptoBulkEntries entries + 1
  | .held _ => 1
def uptoBulkAll {H : Type} : List (DataW H) → Nat
  | [] => 0
  | d :: r => uptoBulk d + uptoBulkAll r
def uptoBulkEntries {H : Type} : List (Lit × DataW H) → Nat
  | [] => 0
  | x :: r => uptoBulkEntry x + uptoBulkEntries r
def uptoBulkEntry {H : Type} : Lit × DataW H → Nat
  | (.string bytes, d) => bytes.length + uptoBulk d + 1
  | (_, d) => uptoBulk d + 1
 end
def uptoSmall : (H : Type) → List (DataW H) → Bool := fun _ ds => decide (uptoBulkAll ds ≤ 1048576)
def OpenSpec.upto (s : _root_.Go.ChangeSpec) : _root_.Go.OpenSpec := { _root_.Go.OpenSpec.ofChange s with cond := some uptoSmall }

/-- 'lanyardlaw01.CrcSums', WHERE WHAT IT READS IS OF BULK AT MOST 1048576: true; the input reads as it did. -/
def crcSumsUptoRow : OpenClaim := { program := "ytefdedjnkmpkjaa", sum := "ce16a0ccc3106c418dcbd9b923a24ee0b649f7dfcc0b6ebe89981d01af6afbf2", func := "lanyard/lanyardlaw01.CrcSums", spec := "crcSums", apart := false, narrowed := true }
def CrcSumsUptoSaid : Prop := crcSumsUptoRow.holds Try.pinned (OpenSpec.upto crcSumsSpec)

/-- 'lanyardlaw01.CrcParts', WHERE WHAT IT READS IS OF BULK AT MOST 1048576: true; the input reads as it did. -/
def crcPartsUptoRow : OpenClaim := { program := "ytefdedjnkmpkjaa", sum := "ce16a0ccc3106c418dcbd9b923a24ee0b649f7dfcc0b6ebe89981d01af6afbf2", func := "lanyard/lanyardlaw01.CrcParts", spec := "crcParts", apart := false, narrowed := true }
def CrcPartsUptoSaid : Prop := crcPartsUptoRow.holds Try.pinned (OpenSpec.upto crcPartsSpec)

/-- 'lanyardlaw01.CrcBursts', WHERE WHAT IT READS IS OF BULK AT MOST 1048576: true; the input reads as it did. -/
def crcBurstsUptoRow : OpenClaim := { program := "ytefdedjnkmpkjaa", sum := "ce16a0ccc3106c418dcbd9b923a24ee0b649f7dfcc0b6ebe89981d01af6afbf2", func := "lanyard/lanyardlaw01.CrcBursts", spec := "crcBursts", apart := false, narrowed := true }
def CrcBurstsUptoSaid : Prop := crcBurstsUptoRow.holds Try.pinned (OpenSpec.upto crcBurstsSpec)

/-- 'lanyardlaw01.CrcTurned', WHERE WHAT IT READS IS OF BULK AT MOST 1048576: true; the input reads as it did. -/
def crcTurnedUptoRow : OpenClaim := { program := "ytefdedjnkmpkjaa", sum := "ce16a0ccc3106c418dcbd9b923a24ee0b649f7dfcc0b6ebe89981d01af6afbf2", func := "lanyard/lanyardlaw01.CrcTurned", spec := "crcTurned", apart := false, narrowed := true }
def CrcTurnedUptoSaid : Prop := crcTurnedUptoRow.holds Try.pinned (OpenSpec.upto crcTurnedSpec)

/-- 'lanyardlaw22.OotbAnswers', WHERE WHAT IT READS IS OF BULK AT MOST 1048576: true; the input reads as it did. -/
def ootbAnswersUptoRow : OpenClaim := { program := "ytefdedjnkmpkjaa", sum := "ce16a0ccc3106c418dcbd9b923a24ee0b649f7dfcc0b6ebe89981d01af6afbf2", func := "lanyard/lanyardlaw22.OotbAnswers", spec := "ootbAnswers", unfollowed := true, recurses := true, apart := false, narrowed := true }
def OotbAnswersUptoSaid : Prop := ootbAnswersUptoRow.holds Try.pinned (OpenSpec.upto ootbAnswersSpec)

/-- 'lanyardlaw22.OotbMore', WHERE WHAT IT READS IS OF BULK AT MOST 1048576: true; the input reads as it did. -/
def ootbMoreUptoRow : OpenClaim := { program := "ytefdedjnkmpkjaa", sum := "ce16a0ccc3106c418dcbd9b923a24ee0b649f7dfcc0b6ebe89981d01af6afbf2", func := "lanyard/lanyardlaw22.OotbMore", spec := "ootbMore", unfollowed := true, recurses := true, apart := false, narrowed := true }
def OotbMoreUptoSaid : Prop := ootbMoreUptoRow.holds Try.pinned (OpenSpec.upto ootbMoreSpec)

/-- 'lanyardlaw04.TlvPuts', WHERE WHAT IT READS IS OF BULK AT MOST 1048576: true; the input reads as it did. -/
def tlvPutsUptoRow : OpenClaim := { program := "ytefdedjnkmpkjaa", sum := "ce16a0ccc3106c418dcbd9b923a24ee0b649f7dfcc0b6ebe89981d01af6afbf2", func := "lanyard/lanyardlaw04.TlvPuts", spec := "tlvPuts", unfollowed := true, recurses := true, apart := false, narrowed := true }
def TlvPutsUptoSaid : Prop := tlvPutsUptoRow.holds Try.pinned (OpenSpec.upto tlvPutsSpec)

/-- 'lanyardlaw04.TlvGoes', WHERE WHAT IT READS IS OF BULK AT MOST 1048576: true; the input reads as it did. -/
def tlvGoesUptoRow : OpenClaim := { program := "ytefdedjnkmpkjaa", sum := "ce16a0ccc3106c418dcbd9b923a24ee0b649f7dfcc0b6ebe89981d01af6afbf2", func := "lanyard/lanyardlaw04.TlvGoes", spec := "tlvGoes", unfollowed := true, recurses := true, apart := false, narrowed := true }
def TlvGoesUptoSaid : Prop := tlvGoesUptoRow.holds Try.pinned (OpenSpec.upto tlvGoesSpec)

/-- 'lanyardlaw04.TlvBack', WHERE WHAT IT READS IS OF BULK AT MOST 1048576: true; the input reads as it did. -/
def tlvBackUptoRow : OpenClaim := { program := "ytefdedjnkmpkjaa", sum := "ce16a0ccc3106c418dcbd9b923a24ee0b649f7dfcc0b6ebe89981d01af6afbf2", func := "lanyard/lanyardlaw04.TlvBack", spec := "tlvBack", unfollowed := true, recurses := true, apart := false, narrowed := true }
def TlvBackUptoSaid : Prop := tlvBackUptoRow.holds Try.pinned (OpenSpec.upto tlvBackSpec)

/-- 'lanyardlaw03.HeadPuts', WHERE WHAT IT READS IS OF BULK AT MOST 1048576: true; the input reads as it did. -/
def headPutsUptoRow : OpenClaim := { program := "ytefdedjnkmpkjaa", sum := "ce16a0ccc3106c418dcbd9b923a24ee0b649f7dfcc0b6ebe89981d01af6afbf2", func := "lanyard/lanyardlaw03.HeadPuts", spec := "headPuts", apart := false, narrowed := true }
def HeadPutsUptoSaid : Prop := headPutsUptoRow.holds Try.pinned (OpenSpec.upto headPutsSpec)

/-- 'lanyardlaw03.HeadTakes', WHERE WHAT IT READS IS OF BULK AT MOST 1048576: true; the input reads as it did. -/
def headTakesUptoRow : OpenClaim := { program := "ytefdedjnkmpkjaa", sum := "ce16a0ccc3106c418dcbd9b923a24ee0b649f7dfcc0b6ebe89981d01af6afbf2", func := "lanyard/lanyardlaw03.HeadTakes", spec := "headTakes", apart := false, narrowed := true }
def HeadTakesUptoSaid : Prop := headTakesUptoRow.holds Try.pinned (OpenSpec.upto headTakesSpec)

/-- 'lanyardlaw03.HeadBack', WHERE WHAT IT READS IS OF BULK AT MOST 1048576: true; the input reads as it did. -/
def headBackUptoRow : OpenClaim := { program := "ytefdedjnkmpkjaa", sum := "ce16a0ccc3106c418dcbd9b923a24ee0b649f7dfcc0b6ebe89981d01af6afbf2", func := "lanyard/lanyardlaw03.HeadBack", spec := "headBack", apart := false, narrowed := true }
def HeadBackUptoSaid : Prop := headBackUptoRow.holds Try.pinned (OpenSpec.upto headBackSpec)

end Rows
end Go.Proofs.Ytefdedjnkmpkjaa
