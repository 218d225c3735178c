/-
  No cell of these rows narrows 'for every input' (looked for: loops, veiled, ifaces, maps, wideKeys, modest, calm, conditions, laid).
  DERIVED. THE GIVEN ROWS OF THIS SEAT. 10 by the template 'for every input the law returns true; each argument reads behind the call as it read before'; 0 by the template 'total and deterministic' (their statements: YtacfneokhmnkbaaTotals.lean).
  GIVEN WITH THE SEED: the statements are not yours to turn. If you find one false, say at which input.
  Laid BY PROGRAM, IN A SANDBOX (cutbox-rows.mjs): the forced cells as the released guide's own fill.sh prints them over the translation 2e6335b3cc723f52… (all of the seat's roots in one cut). By AI agents, Wed Nov 11 2026. No macro, syntax, notation, axiom, sorry.
-/
import Derived.Test.YtacfneokhmnkbaaChecked
import GoSem.Claim
import GoSem.ClaimJoined
import GoSem.ClaimMapViews
import Derived.JoinedTies
import Derived.KernelRfl
namespace Go.Proofs.Ytacfneokhmnkbaa
/- THE CELL 'sum', in the pinned program and in every row, IS THE sha256 OF THE DUMP (.gsa) THAT YtacfneokhmnkbaaProg.lean LOADS. Nothing in Lean hashes anything: it is a label: what it is worth is what the hold of that sum in a sandbox is worth. -/
noncomputable def Try.pinned : Pinned := { name := "ytacfneokhmnkbaa", sum := "2e6335b3cc723f5254493ff58814c17b842f99c7fce0d9d440ba4729985eb328", checked := Try.checked }
namespace Rows
def none {H : Type} : Left H := { results := [], args := [] }

/-- 'lanyardlaw25.TaskPlays': WHATEVER THE INPUT: true; the input reads as it did. -/
def taskPlaysSpec : ChangeSpec := { name := "taskPlays", fn := fun _ => fun
  | [d] => { results := [.lit (.bool true)], args := [d] }
  | _ => none }
def taskPlaysRow : OpenClaim := { program := "ytacfneokhmnkbaa", sum := "2e6335b3cc723f5254493ff58814c17b842f99c7fce0d9d440ba4729985eb328", func := "lanyard/lanyardlaw25.TaskPlays", spec := "taskPlays", unfollowed := true, recurses := true, apart := false }
def TaskPlaysSaid : Prop := taskPlaysRow.holds Try.pinned (OpenSpec.ofChange taskPlaysSpec)

/-- ITS FALSE NEIGHBOUR: 'it returns false'. Refute it at one input. -/
def taskPlaysWrong : ChangeSpec := { name := "taskPlays", fn := fun _ => fun
  | [d] => { results := [.lit (.bool false)], args := [d] }
  | _ => none }
def TaskPlaysWrongFalsely : Prop := taskPlaysRow.holds Try.pinned (OpenSpec.ofChange taskPlaysWrong)

/-- 'lanyardlaw25.TaskWakes': WHATEVER THE INPUT: true; the input reads as it did. -/
def taskWakesSpec : ChangeSpec := { name := "taskWakes", fn := fun _ => fun
  | [d1, d2, d3] => { results := [.lit (.bool true)], args := [d1, d2, d3] }
  | _ => none }
def taskWakesRow : OpenClaim := { program := "ytacfneokhmnkbaa", sum := "2e6335b3cc723f5254493ff58814c17b842f99c7fce0d9d440ba4729985eb328", func := "lanyard/lanyardlaw25.TaskWakes", spec := "taskWakes", unfollowed := true, recurses := true, apart := false }
def TaskWakesSaid : Prop := taskWakesRow.holds Try.pinned (OpenSpec.ofChange taskWakesSpec)

/-- ITS FALSE NEIGHBOUR: 'it returns false'. Refute it at one input. -/
def taskWakesWrong : ChangeSpec := { name := "taskWakes", fn := fun _ => fun
  | [d1, d2, d3] => { results := [.lit (.bool false)], args := [d1, d2, d3] }
  | _ => none }
def TaskWakesWrongFalsely : Prop := taskWakesRow.holds Try.pinned (OpenSpec.ofChange taskWakesWrong)

/-- 'lanyardlaw25.TaskPicks': WHATEVER THE INPUT: true; the input reads as it did. -/
def taskPicksSpec : ChangeSpec := { name := "taskPicks", fn := fun _ => fun
  | [d1, d2] => { results := [.lit (.bool true)], args := [d1, d2] }
  | _ => none }
def taskPicksRow : OpenClaim := { program := "ytacfneokhmnkbaa", sum := "2e6335b3cc723f5254493ff58814c17b842f99c7fce0d9d440ba4729985eb328", func := "lanyard/lanyardlaw25.TaskPicks", spec := "taskPicks", unfollowed := true, recurses := true, apart := false }
def TaskPicksSaid : Prop := taskPicksRow.holds Try.pinned (OpenSpec.ofChange taskPicksSpec)

/-- ITS FALSE NEIGHBOUR: 'it returns false'. Refute it at one input. -/
def taskPicksWrong : ChangeSpec := { name := "taskPicks", fn := fun _ => fun
  | [d1, d2] => { results := [.lit (.bool false)], args := [d1, d2] }
  | _ => none }
def TaskPicksWrongFalsely : Prop := taskPicksRow.holds Try.pinned (OpenSpec.ofChange taskPicksWrong)

/-- 'lanyardlaw29.HistTells': WHATEVER THE INPUT: true; the input reads as it did. -/
def histTellsSpec : ChangeSpec := { name := "histTells", fn := fun _ => fun
  | [d1, d2, d3] => { results := [.lit (.bool true)], args := [d1, d2, d3] }
  | _ => none }
def histTellsRow : OpenClaim := { program := "ytacfneokhmnkbaa", sum := "2e6335b3cc723f5254493ff58814c17b842f99c7fce0d9d440ba4729985eb328", func := "lanyard/lanyardlaw29.HistTells", spec := "histTells", unfollowed := true, recurses := true, apart := false }
def HistTellsSaid : Prop := histTellsRow.holds Try.pinned (OpenSpec.ofChange histTellsSpec)

/-- ITS FALSE NEIGHBOUR: 'it returns false'. Refute it at one input. -/
def histTellsWrong : ChangeSpec := { name := "histTells", fn := fun _ => fun
  | [d1, d2, d3] => { results := [.lit (.bool false)], args := [d1, d2, d3] }
  | _ => none }
def HistTellsWrongFalsely : Prop := histTellsRow.holds Try.pinned (OpenSpec.ofChange histTellsWrong)

/-- 'lanyardlaw29.HistGoes': WHATEVER THE INPUT: true; the input reads as it did. -/
def histGoesSpec : ChangeSpec := { name := "histGoes", fn := fun _ => fun
  | [d1, d2, d3] => { results := [.lit (.bool true)], args := [d1, d2, d3] }
  | _ => none }
def histGoesRow : OpenClaim := { program := "ytacfneokhmnkbaa", sum := "2e6335b3cc723f5254493ff58814c17b842f99c7fce0d9d440ba4729985eb328", func := "lanyard/lanyardlaw29.HistGoes", spec := "histGoes", unfollowed := true, recurses := true, apart := false }
def HistGoesSaid : Prop := histGoesRow.holds Try.pinned (OpenSpec.ofChange histGoesSpec)

/-- ITS FALSE NEIGHBOUR: 'it returns false'. Refute it at one input. -/
def histGoesWrong : ChangeSpec := { name := "histGoes", fn := fun _ => fun
  | [d1, d2, d3] => { results := [.lit (.bool false)], args := [d1, d2, d3] }
  | _ => none }
def HistGoesWrongFalsely : Prop := histGoesRow.holds Try.pinned (OpenSpec.ofChange histGoesWrong)

/-- 'lanyardlaw29.HistPlaces': WHATEVER THE INPUT: true; the input reads as it did. -/
def histPlacesSpec : ChangeSpec := { name := "histPlaces", fn := fun _ => fun
  | [d1, d2, d3] => { results := [.lit (.bool true)], args := [d1, d2, d3] }
  | _ => none }
def histPlacesRow : OpenClaim := { program := "ytacfneokhmnkbaa", sum := "2e6335b3cc723f5254493ff58814c17b842f99c7fce0d9d440ba4729985eb328", func := "lanyard/lanyardlaw29.HistPlaces", spec := "histPlaces", unfollowed := true, recurses := true, apart := false }
def HistPlacesSaid : Prop := histPlacesRow.holds Try.pinned (OpenSpec.ofChange histPlacesSpec)

/-- ITS FALSE NEIGHBOUR: 'it returns false'. Refute it at one input. -/
def histPlacesWrong : ChangeSpec := { name := "histPlaces", fn := fun _ => fun
  | [d1, d2, d3] => { results := [.lit (.bool false)], args := [d1, d2, d3] }
  | _ => none }
def HistPlacesWrongFalsely : Prop := histPlacesRow.holds Try.pinned (OpenSpec.ofChange histPlacesWrong)

/-- 'lanyardlaw29.HistAhead': WHATEVER THE INPUT: true; the input reads as it did. -/
def histAheadSpec : ChangeSpec := { name := "histAhead", fn := fun _ => fun
  | [d1, d2, d3, d4] => { results := [.lit (.bool true)], args := [d1, d2, d3, d4] }
  | _ => none }
def histAheadRow : OpenClaim := { program := "ytacfneokhmnkbaa", sum := "2e6335b3cc723f5254493ff58814c17b842f99c7fce0d9d440ba4729985eb328", func := "lanyard/lanyardlaw29.HistAhead", spec := "histAhead", unfollowed := true, recurses := true, apart := false }
def HistAheadSaid : Prop := histAheadRow.holds Try.pinned (OpenSpec.ofChange histAheadSpec)

/-- ITS FALSE NEIGHBOUR: 'it returns false'. Refute it at one input. -/
def histAheadWrong : ChangeSpec := { name := "histAhead", fn := fun _ => fun
  | [d1, d2, d3, d4] => { results := [.lit (.bool false)], args := [d1, d2, d3, d4] }
  | _ => none }
def HistAheadWrongFalsely : Prop := histAheadRow.holds Try.pinned (OpenSpec.ofChange histAheadWrong)

/-- 'lanyardlaw08.GapsPlays': WHATEVER THE INPUT: true; the input reads as it did. -/
def gapsPlaysSpec : ChangeSpec := { name := "gapsPlays", fn := fun _ => fun
  | [d1, d2, d3] => { results := [.lit (.bool true)], args := [d1, d2, d3] }
  | _ => none }
def gapsPlaysRow : OpenClaim := { program := "ytacfneokhmnkbaa", sum := "2e6335b3cc723f5254493ff58814c17b842f99c7fce0d9d440ba4729985eb328", func := "lanyard/lanyardlaw08.GapsPlays", spec := "gapsPlays", inPlace := ["maps.clone"], recurses := true, apart := false }
def GapsPlaysSaid : Prop := gapsPlaysRow.holds Try.pinned (OpenSpec.ofChange gapsPlaysSpec)

/-- ITS FALSE NEIGHBOUR: 'it returns false'. Refute it at one input. -/
def gapsPlaysWrong : ChangeSpec := { name := "gapsPlays", fn := fun _ => fun
  | [d1, d2, d3] => { results := [.lit (.bool false)], args := [d1, d2, d3] }
  | _ => none }
def GapsPlaysWrongFalsely : Prop := gapsPlaysRow.holds Try.pinned (OpenSpec.ofChange gapsPlaysWrong)

/-- 'lanyardlaw08.GapsOrder': WHATEVER THE INPUT: true; the input reads as it did. -/
def gapsOrderSpec : ChangeSpec := { name := "gapsOrder", fn := fun _ => fun
  | [d1, d2, d3] => { results := [.lit (.bool true)], args := [d1, d2, d3] }
  | _ => none }
def gapsOrderRow : OpenClaim := { program := "ytacfneokhmnkbaa", sum := "2e6335b3cc723f5254493ff58814c17b842f99c7fce0d9d440ba4729985eb328", func := "lanyard/lanyardlaw08.GapsOrder", spec := "gapsOrder", inPlace := ["maps.clone"], recurses := true, apart := false }
def GapsOrderSaid : Prop := gapsOrderRow.holds Try.pinned (OpenSpec.ofChange gapsOrderSpec)

/-- ITS FALSE NEIGHBOUR: 'it returns false'. Refute it at one input. -/
def gapsOrderWrong : ChangeSpec := { name := "gapsOrder", fn := fun _ => fun
  | [d1, d2, d3] => { results := [.lit (.bool false)], args := [d1, d2, d3] }
  | _ => none }
def GapsOrderWrongFalsely : Prop := gapsOrderRow.holds Try.pinned (OpenSpec.ofChange gapsOrderWrong)

/-- 'lanyardlaw08.GapsTurns': WHATEVER THE INPUT: true; the input reads as it did. -/
def gapsTurnsSpec : ChangeSpec := { name := "gapsTurns", fn := fun _ => fun
  | [d1, d2, d3] => { results := [.lit (.bool true)], args := [d1, d2, d3] }
  | _ => none }
def gapsTurnsRow : OpenClaim := { program := "ytacfneokhmnkbaa", sum := "2e6335b3cc723f5254493ff58814c17b842f99c7fce0d9d440ba4729985eb328", func := "lanyard/lanyardlaw08.GapsTurns", spec := "gapsTurns", inPlace := ["maps.clone"], recurses := true, apart := false }
def GapsTurnsSaid : Prop := gapsTurnsRow.holds Try.pinned (OpenSpec.ofChange gapsTurnsSpec)

/-- ITS FALSE NEIGHBOUR: 'it returns false'. Refute it at one input. -/
def gapsTurnsWrong : ChangeSpec := { name := "gapsTurns", fn := fun _ => fun
  | [d1, d2, d3] => { results := [.lit (.bool false)], args := [d1, d2, d3] }
  | _ => none }
def GapsTurnsWrongFalsely : Prop := gapsTurnsRow.holds Try.pinned (OpenSpec.ofChange gapsTurnsWrong)

/- THE SECOND FORM. 'bulk': how many values and letters a reading holds, each counted each time it is reached (what is shared counts as often as it is met; a slice's spare places count too). A statement '..UptoSaid' is the law's where the arguments, and the package variables that the reading takes, are together of bulk at most 1048576: NARROWER than '..Said'. Prove '..Said' where nothing that the law and all that it calls make is longer than what came in: it says more and counts as full. Else prove '..UptoSaid'. A law counts once. -/
mutual
def uptoBulk {H : Type} : DataW H → Nat
  | .lit (.string bytes) => bytes.length + 1
  | .lit _ => 1
  | .nil => 1
  | .ptr d => uptoBulk d + 1
  | .slice elems spare => uptoBulkAll elems + uptoBulkAll spare + 1
  | .agg parts => uptoBulkAll parts + 1
  | .iface _ d => uptoBulk d + 1
  | .map entries => uptoBulkEntries entries + 1
  | .held _ => 1
def uptoBulkAll {H : Type} : List (DataW H) → Nat
  | [] => 0
  | d :: r => uptoBulk d + uptoBulkAll r
def uptoBulkEntries {H : Type} : List (Lit × DataW H) → Nat
  | [] => 0
  | x :: r => uptoBulkEntry x + uptoBulkEntries r
def uptoBulkEntry {H : Type} : Lit × DataW H → Nat
  | (.string bytes, d) => bytes.length + uptoBulk d + 1
  | (_, d) => uptoBulk d + 1
 end
def uptoSmall : (H : Type) → List (DataW H) → Bool := fun _ ds => decide (uptoBulkAll ds ≤ 1048576)
def OpenSpec.upto (s : _root_.Go.ChangeSpec) : _root_.Go.OpenSpec := { _root_.Go.OpenSpec.ofChange s with cond := some uptoSmall }

/-- 'lanyardlaw25.TaskPlays', WHERE WHAT IT READS IS OF BULK AT MOST 1048576: true; the input reads as it did. -/
def taskPlaysUptoRow : OpenClaim := { program := "ytacfneokhmnkbaa", sum := "2e6335b3cc723f5254493ff58814c17b842f99c7fce0d9d440ba4729985eb328", func := "lanyard/lanyardlaw25.TaskPlays", spec := "taskPlays", unfollowed := true, recurses := true, apart := false, narrowed := true }
def TaskPlaysUptoSaid : Prop := taskPlaysUptoRow.holds Try.pinned (OpenSpec.upto taskPlaysSpec)

/-- 'lanyardlaw25.TaskWakes', WHERE WHAT IT READS IS OF BULK AT MOST 1048576: true; the input reads as it did. -/
def taskWakesUptoRow : OpenClaim := { program := "ytacfneokhmnkbaa", sum := "2e6335b3cc723f5254493ff58814c17b842f99c7fce0d9d440ba4729985eb328", func := "lanyard/lanyardlaw25.TaskWakes", spec := "taskWakes", unfollowed := true, recurses := true, apart := false, narrowed := true }
def TaskWakesUptoSaid : Prop := taskWakesUptoRow.holds Try.pinned (OpenSpec.upto taskWakesSpec)

/-- 'lanyardlaw25.TaskPicks', WHERE WHAT IT READS IS OF BULK AT MOST 1048576: true; the input reads as it did. -/
def taskPicksUptoRow : OpenClaim := { program := "ytacfneokhmnkbaa", sum := "2e6335b3cc723f5254493ff58814c17b842f99c7fce0d9d440ba4729985eb328", func := "lanyard/lanyardlaw25.TaskPicks", spec := "taskPicks", unfollowed := true, recurses := true, apart := false, narrowed := true }
def TaskPicksUptoSaid : Prop := taskPicksUptoRow.holds Try.pinned (OpenSpec.upto taskPicksSpec)

/-- 'lanyardlaw29.HistTells', WHERE WHAT IT READS IS OF BULK AT MOST 1048576: true; the input reads as it did. -/
def histTellsUptoRow : OpenClaim := { program := "ytacfneokhmnkbaa", sum := "2e6335b3cc723f5254493ff58814c17b842f99c7fce0d9d440ba4729985eb328", func := "lanyard/lanyardlaw29.HistTells", spec := "histTells", unfollowed := true, recurses := true, apart := false, narrowed := true }
def HistTellsUptoSaid : Prop := histTellsUptoRow.holds Try.pinned (OpenSpec.upto histTellsSpec)

/-- 'lanyardlaw29.HistGoes', WHERE WHAT IT READS IS OF BULK AT MOST 1048576: true; the input reads as it did. -/
def histGoesUptoRow : OpenClaim := { program := "ytacfneokhmnkbaa", sum := "2e6335b3cc723f5254493ff58814c17b842f99c7fce0d9d440ba4729985eb328", func := "lanyard/lanyardlaw29.HistGoes", spec := "histGoes", unfollowed := true, recurses := true, apart := false, narrowed := true }
def HistGoesUptoSaid : Prop := histGoesUptoRow.holds Try.pinned (OpenSpec.upto histGoesSpec)

/-- 'lanyardlaw29.HistPlaces', WHERE WHAT IT READS IS OF BULK AT MOST 1048576: true; the input reads as it did. -/
def histPlacesUptoRow : OpenClaim := { program := "ytacfneokhmnkbaa", sum := "2e6335b3cc723f5254493ff58814c17b842f99c7fce0d9d440ba4729985eb328", func := "lanyard/lanyardlaw29.HistPlaces", spec := "histPlaces", unfollowed := true, recurses := true, apart := false, narrowed := true }
def HistPlacesUptoSaid : Prop := histPlacesUptoRow.holds Try.pinned (OpenSpec.upto histPlacesSpec)

/-- 'lanyardlaw29.HistAhead', WHERE WHAT IT READS IS OF BULK AT MOST 1048576: true; the input reads as it did. -/
def histAheadUptoRow : OpenClaim := { program := "ytacfneokhmnkbaa", sum := "2e6335b3cc723f5254493ff58814c17b842f99c7fce0d9d440ba4729985eb328", func := "lanyard/lanyardlaw29.HistAhead", spec := "histAhead", unfollowed := true, recurses := true, apart := false, narrowed := true }
def HistAheadUptoSaid : Prop := histAheadUptoRow.holds Try.pinned (OpenSpec.upto histAheadSpec)

/-- 'lanyardlaw08.GapsPlays', WHERE WHAT IT READS IS OF BULK AT MOST 1048576: true; the input reads as it did. -/
def gapsPlaysUptoRow : OpenClaim := { program := "ytacfneokhmnkbaa", sum := "2e6335b3cc723f5254493ff58814c17b842f99c7fce0d9d440ba4729985eb328", func := "lanyard/lanyardlaw08.GapsPlays", spec := "gapsPlays", inPlace := ["maps.clone"], recurses := true, apart := false, narrowed := true }
def GapsPlaysUptoSaid : Prop := gapsPlaysUptoRow.holds Try.pinned (OpenSpec.upto gapsPlaysSpec)

/-- 'lanyardlaw08.GapsOrder', WHERE WHAT IT READS IS OF BULK AT MOST 1048576: true; the input reads as it did. -/
def gapsOrderUptoRow : OpenClaim := { program := "ytacfneokhmnkbaa", sum := "2e6335b3cc723f5254493ff58814c17b842f99c7fce0d9d440ba4729985eb328", func := "lanyard/lanyardlaw08.GapsOrder", spec := "gapsOrder", inPlace := ["maps.clone"], recurses := true, apart := false, narrowed := true }
def GapsOrderUptoSaid : Prop := gapsOrderUptoRow.holds Try.pinned (OpenSpec.upto gapsOrderSpec)

/-- 'lanyardlaw08.GapsTurns', WHERE WHAT IT READS IS OF BULK AT MOST 1048576: true; the input reads as it did. -/
def gapsTurnsUptoRow : OpenClaim := { program := "ytacfneokhmnkbaa", sum := "2e6335b3cc723f5254493ff58814c17b842f99c7fce0d9d440ba4729985eb328", func := "lanyard/lanyardlaw08.GapsTurns", spec := "gapsTurns", inPlace := ["maps.clone"], recurses := true, apart := false, narrowed := true }
def GapsTurnsUptoSaid : Prop := gapsTurnsUptoRow.holds Try.pinned (OpenSpec.upto gapsTurnsSpec)

end Rows
end Go.Proofs.Ytacfneokhmnkbaa
