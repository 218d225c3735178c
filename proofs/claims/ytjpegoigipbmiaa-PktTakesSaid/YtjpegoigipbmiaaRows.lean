/-
  No cell of these rows narrows 'for every input' (looked for: loops, veiled, ifaces, maps, wideKeys, modest, calm, conditions, laid).
  DERIVED. THE GIVEN ROWS OF THIS SEAT. 5 by the template 'for every input the law returns true; each argument reads behind the call as it read before'; 0 by the template 'total and deterministic' (their statements: YtjpegoigipbmiaaTotals.lean).
  GIVEN WITH THE SEED: the statements are not yours to turn. If you find one false, say at which input.
  Laid BY PROGRAM, IN A SANDBOX (cutbox-rows.mjs): the forced cells as the released guide's own fill.sh prints them over the translation a27b8afa1b603e9a… (all of the seat's roots in one cut). By AI agents, Wed Nov 11 2026. No macro, syntax, notation, axiom, sorry.
-/
import Derived.Test.YtjpegoigipbmiaaChecked
import GoSem.Claim
import GoSem.ClaimJoined
import GoSem.ClaimMapViews
import Derived.JoinedTies
import Derived.KernelRfl
namespace Go.Proofs.Ytjpegoigipbmiaa
/- THE CELL 'sum', in the pinned program and in every row, IS THE sha256 OF THE DUMP (.gsa) THAT YtjpegoigipbmiaaProg.lean LOADS. Nothing in Lean hashes anything: it is a label: what it is worth is what the hold of that sum in a sandbox is worth. -/
noncomputable def Try.pinned : Pinned := { name := "ytjpegoigipbmiaa", sum := "a27b8afa1b603e9a03a31b02437c3871b9e7ace3ed72b48ee0cbb1335dc5e4fe", checked := Try.checked }
namespace Rows
def none {H : Type} : Left H := { results := [], args := [] }

/-- 'lanyardlaw06.PktPuts': WHATEVER THE INPUT: true; the input reads as it did. -/
def pktPutsSpec : ChangeSpec := { name := "pktPuts", fn := fun _ => fun
  | [d] => { results := [.lit (.bool true)], args := [d] }
  | _ => none }
def pktPutsRow : OpenClaim := { program := "ytjpegoigipbmiaa", sum := "a27b8afa1b603e9a03a31b02437c3871b9e7ace3ed72b48ee0cbb1335dc5e4fe", func := "lanyard/lanyardlaw06.PktPuts", spec := "pktPuts", unfollowed := true, recurses := true, apart := false }
def PktPutsSaid : Prop := pktPutsRow.holds Try.pinned (OpenSpec.ofChange pktPutsSpec)

/-- ITS FALSE NEIGHBOUR: 'it returns false'. Refute it at one input. -/
def pktPutsWrong : ChangeSpec := { name := "pktPuts", fn := fun _ => fun
  | [d] => { results := [.lit (.bool false)], args := [d] }
  | _ => none }
def PktPutsWrongFalsely : Prop := pktPutsRow.holds Try.pinned (OpenSpec.ofChange pktPutsWrong)

/-- 'lanyardlaw06.PktTakes': WHATEVER THE INPUT: true; the input reads as it did. -/
def pktTakesSpec : ChangeSpec := { name := "pktTakes", fn := fun _ => fun
  | [d] => { results := [.lit (.bool true)], args := [d] }
  | _ => none }
def pktTakesRow : OpenClaim := { program := "ytjpegoigipbmiaa", sum := "a27b8afa1b603e9a03a31b02437c3871b9e7ace3ed72b48ee0cbb1335dc5e4fe", func := "lanyard/lanyardlaw06.PktTakes", spec := "pktTakes", unfollowed := true, recurses := true, apart := false }
def PktTakesSaid : Prop := pktTakesRow.holds Try.pinned (OpenSpec.ofChange pktTakesSpec)

/-- ITS FALSE NEIGHBOUR: 'it returns false'. Refute it at one input. -/
def pktTakesWrong : ChangeSpec := { name := "pktTakes", fn := fun _ => fun
  | [d] => { results := [.lit (.bool false)], args := [d] }
  | _ => none }
def PktTakesWrongFalsely : Prop := pktTakesRow.holds Try.pinned (OpenSpec.ofChange pktTakesWrong)

/-- 'lanyardlaw06.PktSizes': WHATEVER THE INPUT: true; the input reads as it did. -/
def pktSizesSpec : ChangeSpec := { name := "pktSizes", fn := fun _ => fun
  | [d] => { results := [.lit (.bool true)], args := [d] }
  | _ => none }
def pktSizesRow : OpenClaim := { program := "ytjpegoigipbmiaa", sum := "a27b8afa1b603e9a03a31b02437c3871b9e7ace3ed72b48ee0cbb1335dc5e4fe", func := "lanyard/lanyardlaw06.PktSizes", spec := "pktSizes", unfollowed := true, recurses := true, apart := false }
def PktSizesSaid : Prop := pktSizesRow.holds Try.pinned (OpenSpec.ofChange pktSizesSpec)

/-- ITS FALSE NEIGHBOUR: 'it returns false'. Refute it at one input. -/
def pktSizesWrong : ChangeSpec := { name := "pktSizes", fn := fun _ => fun
  | [d] => { results := [.lit (.bool false)], args := [d] }
  | _ => none }
def PktSizesWrongFalsely : Prop := pktSizesRow.holds Try.pinned (OpenSpec.ofChange pktSizesWrong)

/-- 'lanyardlaw06.PktBack': WHATEVER THE INPUT: true; the input reads as it did. -/
def pktBackSpec : ChangeSpec := { name := "pktBack", fn := fun _ => fun
  | [d1, d2, d3] => { results := [.lit (.bool true)], args := [d1, d2, d3] }
  | _ => none }
def pktBackRow : OpenClaim := { program := "ytjpegoigipbmiaa", sum := "a27b8afa1b603e9a03a31b02437c3871b9e7ace3ed72b48ee0cbb1335dc5e4fe", func := "lanyard/lanyardlaw06.PktBack", spec := "pktBack", unfollowed := true, recurses := true, apart := false }
def PktBackSaid : Prop := pktBackRow.holds Try.pinned (OpenSpec.ofChange pktBackSpec)

/-- ITS FALSE NEIGHBOUR: 'it returns false'. Refute it at one input. -/
def pktBackWrong : ChangeSpec := { name := "pktBack", fn := fun _ => fun
  | [d1, d2, d3] => { results := [.lit (.bool false)], args := [d1, d2, d3] }
  | _ => none }
def PktBackWrongFalsely : Prop := pktBackRow.holds Try.pinned (OpenSpec.ofChange pktBackWrong)

/-- 'lanyardlaw06.PktTaken': WHATEVER THE INPUT: true; the input reads as it did. -/
def pktTakenSpec : ChangeSpec := { name := "pktTaken", fn := fun _ => fun
  | [d] => { results := [.lit (.bool true)], args := [d] }
  | _ => none }
def pktTakenRow : OpenClaim := { program := "ytjpegoigipbmiaa", sum := "a27b8afa1b603e9a03a31b02437c3871b9e7ace3ed72b48ee0cbb1335dc5e4fe", func := "lanyard/lanyardlaw06.PktTaken", spec := "pktTaken", unfollowed := true, recurses := true, apart := false }
def PktTakenSaid : Prop := pktTakenRow.holds Try.pinned (OpenSpec.ofChange pktTakenSpec)

/-- ITS FALSE NEIGHBOUR: 'it returns false'. Refute it at one input. -/
def pktTakenWrong : ChangeSpec := { name := "pktTaken", fn := fun _ => fun
  | [d] => { results := [.lit (.bool false)], args := [d] }
  | _ => none }
def PktTakenWrongFalsely : Prop := pktTakenRow.holds Try.pinned (OpenSpec.ofChange pktTakenWrong)

/- THE SECOND FORM. 'bulk': how many values and letters a reading holds, each counted each time it is reached (what is shared counts as often as it is met; a slice's spare places count too). A statement '..UptoSaid' is the law's where the arguments, and the package variables that the reading takes, are together of bulk at most 1048576: NARROWER than '..Said'. Prove '..Said' where nothing that the law and all that it calls make is longer than what came in: it says more and counts as full. Else prove '..UptoSaid'. A law counts once. -/
mutual
def uptoBulk {H : Type} : DataW H → Nat
  | .lit (.string bytes) => bytes.length + 1
  | .lit _ => 1
  | .nil => 1
  | .ptr d => uptoBulk d + 1
  | .slice elems spare => uptoBulkAll elems + uptoBulkAll spare + 1
  | .agg parts => uptoBulkAll parts + 1
  | .iface _ d => uptoBulk d + 1
  | .map entries => uptoBulkEntries entries + 1
  | .held _ => 1
def uptoBulkAll {H : Type} : List (DataW H) → Nat
  | [] => 0
  | d :: r => uptoBulk d + uptoBulkAll r
def uptoBulkEntries {H : Type} : List (Lit × DataW H) → Nat
  | [] => 0
  | x :: r => uptoBulkEntry x + uptoBulkEntries r
def uptoBulkEntry {H : Type} : Lit × DataW H → Nat
  | (.string bytes, d) => bytes.length + uptoBulk d + 1
  | (_, d) => uptoBulk d + 1
 end
def uptoSmall : (H : Type) → List (DataW H) → Bool := fun _ ds => decide (uptoBulkAll ds ≤ 1048576)
def OpenSpec.upto (s : _root_.Go.ChangeSpec) : _root_.Go.OpenSpec := { _root_.Go.OpenSpec.ofChange s with cond := some uptoSmall }

/-- 'lanyardlaw06.PktPuts', WHERE WHAT IT READS IS OF BULK AT MOST 1048576: true; the input reads as it did. -/
def pktPutsUptoRow : OpenClaim := { program := "ytjpegoigipbmiaa", sum := "a27b8afa1b603e9a03a31b02437c3871b9e7ace3ed72b48ee0cbb1335dc5e4fe", func := "lanyard/lanyardlaw06.PktPuts", spec := "pktPuts", unfollowed := true, recurses := true, apart := false, narrowed := true }
def PktPutsUptoSaid : Prop := pktPutsUptoRow.holds Try.pinned (OpenSpec.upto pktPutsSpec)

/-- 'lanyardlaw06.PktTakes', WHERE WHAT IT READS IS OF BULK AT MOST 1048576: true; the input reads as it did. -/
def pktTakesUptoRow : OpenClaim := { program := "ytjpegoigipbmiaa", sum := "a27b8afa1b603e9a03a31b02437c3871b9e7ace3ed72b48ee0cbb1335dc5e4fe", func := "lanyard/lanyardlaw06.PktTakes", spec := "pktTakes", unfollowed := true, recurses := true, apart := false, narrowed := true }
def PktTakesUptoSaid : Prop := pktTakesUptoRow.holds Try.pinned (OpenSpec.upto pktTakesSpec)

/-- 'lanyardlaw06.PktSizes', WHERE WHAT IT READS IS OF BULK AT MOST 1048576: true; the input reads as it did. -/
def pktSizesUptoRow : OpenClaim := { program := "ytjpegoigipbmiaa", sum := "a27b8afa1b603e9a03a31b02437c3871b9e7ace3ed72b48ee0cbb1335dc5e4fe", func := "lanyard/lanyardlaw06.PktSizes", spec := "pktSizes", unfollowed := true, recurses := true, apart := false, narrowed := true }
def PktSizesUptoSaid : Prop := pktSizesUptoRow.holds Try.pinned (OpenSpec.upto pktSizesSpec)

/-- 'lanyardlaw06.PktBack', WHERE WHAT IT READS IS OF BULK AT MOST 1048576: true; the input reads as it did. -/
def pktBackUptoRow : OpenClaim := { program := "ytjpegoigipbmiaa", sum := "a27b8afa1b603e9a03a31b02437c3871b9e7ace3ed72b48ee0cbb1335dc5e4fe", func := "lanyard/lanyardlaw06.PktBack", spec := "pktBack", unfollowed := true, recurses := true, apart := false, narrowed := true }
def PktBackUptoSaid : Prop := pktBackUptoRow.holds Try.pinned (OpenSpec.upto pktBackSpec)

/-- 'lanyardlaw06.PktTaken', WHERE WHAT IT READS IS OF BULK AT MOST 1048576: true; the input reads as it did. -/
def pktTakenUptoRow : OpenClaim := { program := "ytjpegoigipbmiaa", sum := "a27b8afa1b603e9a03a31b02437c3871b9e7ace3ed72b48ee0cbb1335dc5e4fe", func := "lanyard/lanyardlaw06.PktTaken", spec := "pktTaken", unfollowed := true, recurses := true, apart := false, narrowed := true }
def PktTakenUptoSaid : Prop := pktTakenUptoRow.holds Try.pinned (OpenSpec.upto pktTakenSpec)

end Rows
end Go.Proofs.Ytjpegoigipbmiaa
