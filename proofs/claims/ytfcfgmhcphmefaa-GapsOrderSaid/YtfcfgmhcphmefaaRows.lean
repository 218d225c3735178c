/-
  No cell of these rows narrows 'for every input' (looked for: loops, veiled, ifaces, maps, wideKeys, modest, calm, conditions, laid).
  DERIVED. THE GIVEN ROWS OF THIS SEAT. 5 by the template 'for every input the law returns true; each argument reads behind the call as it read before'; 0 by the template 'total and deterministic' (their statements: YtfcfgmhcphmefaaTotals.lean).
  GIVEN WITH THE SEED: the statements are not yours to turn. If you find one false, say at which input.
  Laid BY PROGRAM, IN A SANDBOX (cutbox-rows.mjs): the forced cells as the released guide's own fill.sh prints them over the translation 07877d4e419a05be… (all of the seat's roots in one cut). By AI agents, Wed Nov 11 2026. No macro, syntax, notation, axiom, sorry.
-/
import Derived.Test.YtfcfgmhcphmefaaChecked
import GoSem.Claim
import GoSem.ClaimJoined
import GoSem.ClaimMapViews
import Derived.JoinedTies
import Derived.KernelRfl
namespace Go.Proofs.Ytfcfgmhcphmefaa
/- THE CELL 'sum', in the pinned program and in every row, IS THE sha256 OF THE DUMP (.gsa) THAT YtfcfgmhcphmefaaProg.lean LOADS. Nothing in Lean hashes anything: it is a label: what it is worth is what the hold of that sum in a sandbox is worth. -/
noncomputable def Try.pinned : Pinned := { name := "ytfcfgmhcphmefaa", sum := "07877d4e419a05bef273e6f315ff829c15b3e4979cf6c3576fd7368e0f4be36d", checked := Try.checked }
namespace Rows
def none {H : Type} : Left H := { results := [], args := [] }

/-- 'lanyardlaw08.GapsPlays': WHATEVER THE INPUT: true; the input reads as it did. -/
def gapsPlaysSpec : ChangeSpec := { name := "gapsPlays", fn := fun _ => fun
  | [d1, d2, d3] => { results := [.lit (.bool true)], args := [d1, d2, d3] }
  | _ => none }
def gapsPlaysRow : OpenClaim := { program := "ytfcfgmhcphmefaa", sum := "07877d4e419a05bef273e6f315ff829c15b3e4979cf6c3576fd7368e0f4be36d", func := "lanyard/lanyardlaw08.GapsPlays", spec := "gapsPlays", inPlace := ["maps.clone"], recurses := true, apart := false }
def GapsPlaysSaid : Prop := gapsPlaysRow.holds Try.pinned (OpenSpec.ofChange gapsPlaysSpec)

/-- ITS FALSE NEIGHBOUR: 'it returns false'. Refute it at one input. -/
def gapsPlaysWrong : ChangeSpec := { name := "gapsPlays", fn := fun _ => fun
  | [d1, d2, d3] => { results := [.lit (.bool false)], args := [d1, d2, d3] }
  | _ => none }
def GapsPlaysWrongFalsely : Prop := gapsPlaysRow.holds Try.pinned (OpenSpec.ofChange gapsPlaysWrong)

/-- 'lanyardlaw08.GapsOrder': WHATEVER THE INPUT: true; the input reads as it did. -/
def gapsOrderSpec : ChangeSpec := { name := "gapsOrder", fn := fun _ => fun
  | [d1, d2, d3] => { results := [.lit (.bool true)], args := [d1, d2, d3] }
  | _ => none }
def gapsOrderRow : OpenClaim := { program := "ytfcfgmhcphmefaa", sum := "07877d4e419a05bef273e6f315ff829c15b3e4979cf6c3576fd7368e0f4be36d", func := "lanyard/lanyardlaw08.GapsOrder", spec := "gapsOrder", inPlace := ["maps.clone"], recurses := true, apart := false }
def GapsOrderSaid : Prop := gapsOrderRow.holds Try.pinned (OpenSpec.ofChange gapsOrderSpec)

/-- ITS FALSE NEIGHBOUR: 'it returns false'. Refute it at one input. -/
def gapsOrderWrong : ChangeSpec := { name := "gapsOrder", fn := fun _ => fun
  | [d1, d2, d3] => { results := [.lit (.bool false)], args := [d1, d2, d3] }
  | _ => none }
def GapsOrderWrongFalsely : Prop := gapsOrderRow.holds Try.pinned (OpenSpec.ofChange gapsOrderWrong)

/-- 'lanyardlaw08.GapsTurns': WHATEVER THE INPUT: true; the input reads as it did. -/
def gapsTurnsSpec : ChangeSpec := { name := "gapsTurns", fn := fun _ => fun
  | [d1, d2, d3] => { results := [.lit (.bool true)], args := [d1, d2, d3] }
  | _ => none }
def gapsTurnsRow : OpenClaim := { program := "ytfcfgmhcphmefaa", sum := "07877d4e419a05bef273e6f315ff829c15b3e4979cf6c3576fd7368e0f4be36d", func := "lanyard/lanyardlaw08.GapsTurns", spec := "gapsTurns", inPlace := ["maps.clone"], recurses := true, apart := false }
def GapsTurnsSaid : Prop := gapsTurnsRow.holds Try.pinned (OpenSpec.ofChange gapsTurnsSpec)

/-- ITS FALSE NEIGHBOUR: 'it returns false'. Refute it at one input. -/
def gapsTurnsWrong : ChangeSpec := { name := "gapsTurns", fn := fun _ => fun
  | [d1, d2, d3] => { results := [.lit (.bool false)], args := [d1, d2, d3] }
  | _ => none }
def GapsTurnsWrongFalsely : Prop := gapsTurnsRow.holds Try.pinned (OpenSpec.ofChange gapsTurnsWrong)

/-- 'lanyardlaw18.FlightFreed': WHATEVER THE INPUT: true; the input reads as it did. -/
def flightFreedSpec : ChangeSpec := { name := "flightFreed", fn := fun _ => fun
  | [d1, d2] => { results := [.lit (.bool true)], args := [d1, d2] }
  | _ => none }
def flightFreedRow : OpenClaim := { program := "ytfcfgmhcphmefaa", sum := "07877d4e419a05bef273e6f315ff829c15b3e4979cf6c3576fd7368e0f4be36d", func := "lanyard/lanyardlaw18.FlightFreed", spec := "flightFreed", inPlace := ["slices.overlaps[lanyard/api.PathBytes]"], unfollowed := true, recurses := true, apart := false }
def FlightFreedSaid : Prop := flightFreedRow.holds Try.pinned (OpenSpec.ofChange flightFreedSpec)

/-- ITS FALSE NEIGHBOUR: 'it returns false'. Refute it at one input. -/
def flightFreedWrong : ChangeSpec := { name := "flightFreed", fn := fun _ => fun
  | [d1, d2] => { results := [.lit (.bool false)], args := [d1, d2] }
  | _ => none }
def FlightFreedWrongFalsely : Prop := flightFreedRow.holds Try.pinned (OpenSpec.ofChange flightFreedWrong)

/-- 'lanyardlaw18.FlightOut': WHATEVER THE INPUT: true; the input reads as it did. -/
def flightOutSpec : ChangeSpec := { name := "flightOut", fn := fun _ => fun
  | [d1, d2] => { results := [.lit (.bool true)], args := [d1, d2] }
  | _ => none }
def flightOutRow : OpenClaim := { program := "ytfcfgmhcphmefaa", sum := "07877d4e419a05bef273e6f315ff829c15b3e4979cf6c3576fd7368e0f4be36d", func := "lanyard/lanyardlaw18.FlightOut", spec := "flightOut", inPlace := ["slices.overlaps[lanyard/api.PathBytes]"], unfollowed := true, recurses := true, apart := false }
def FlightOutSaid : Prop := flightOutRow.holds Try.pinned (OpenSpec.ofChange flightOutSpec)

/-- ITS FALSE NEIGHBOUR: 'it returns false'. Refute it at one input. -/
def flightOutWrong : ChangeSpec := { name := "flightOut", fn := fun _ => fun
  | [d1, d2] => { results := [.lit (.bool false)], args := [d1, d2] }
  | _ => none }
def FlightOutWrongFalsely : Prop := flightOutRow.holds Try.pinned (OpenSpec.ofChange flightOutWrong)

/- THE SECOND FORM. 'bulk': how many values and letters a reading holds, each counted each time it is reached (what is shared counts as often as it is met; a slice's spare places count too). A statement '..UptoSaid' is the law's where the arguments, and the package variables that the reading takes, are together of bulk at most 1048576: NARROWER than '..Said'. Prove '..Said' where nothing that the law and all that it calls make is longer than what came in: it says more and counts as full. Else prove '..UptoSaid'. A law counts once. -/
mutual
def uptoBulk {H : Type} : DataW H → Nat
  | .lit (.string bytes) => bytes.length + 1
  | .lit _ => 1
  | .nil => 1
  | .ptr d => uptoBulk d + 1
  | .slice elems spare => uptoBulkAll elems + uptoBulkAll spare + 1
  | .agg parts => uptoBulkAll parts + 1
  | .iface _ d => uptoBulk d + 1
  | .map entries => uptoBulkEntries entries + 1
  | .held _ => 1
def uptoBulkAll {H : Type} : List (DataW H) → Nat
  | [] => 0
  | d :: r => uptoBulk d + uptoBulkAll r
def uptoBulkEntries {H : Type} : List (Lit × DataW H) → Nat
  | [] => 0
  | x :: r => uptoBulkEntry x + uptoBulkEntries r
def uptoBulkEntry {H : Type} : Lit × DataW H → Nat
  | (.string bytes, d) => bytes.length + uptoBulk d + 1
  | (_, d) => uptoBulk d + 1
 end
def uptoSmall : (H : Type) → List (DataW H) → Bool := fun _ ds => decide (uptoBulkAll ds ≤ 1048576)
def OpenSpec.upto (s : _root_.Go.ChangeSpec) : _root_.Go.OpenSpec := { _root_.Go.OpenSpec.ofChange s with cond := some uptoSmall }

/-- 'lanyardlaw08.GapsPlays', WHERE WHAT IT READS IS OF BULK AT MOST 1048576: true; the input reads as it did. -/
def gapsPlaysUptoRow : OpenClaim := { program := "ytfcfgmhcphmefaa", sum := "07877d4e419a05bef273e6f315ff829c15b3e4979cf6c3576fd7368e0f4be36d", func := "lanyard/lanyardlaw08.GapsPlays", spec := "gapsPlays", inPlace := ["maps.clone"], recurses := true, apart := false, narrowed := true }
def GapsPlaysUptoSaid : Prop := gapsPlaysUptoRow.holds Try.pinned (OpenSpec.upto gapsPlaysSpec)

/-- 'lanyardlaw08.GapsOrder', WHERE WHAT IT READS IS OF BULK AT MOST 1048576: true; the input reads as it did. -/
def gapsOrderUptoRow : OpenClaim := { program := "ytfcfgmhcphmefaa", sum := "07877d4e419a05bef273e6f315ff829c15b3e4979cf6c3576fd7368e0f4be36d", func := "lanyard/lanyardlaw08.GapsOrder", spec := "gapsOrder", inPlace := ["maps.clone"], recurses := true, apart := false, narrowed := true }
def GapsOrderUptoSaid : Prop := gapsOrderUptoRow.holds Try.pinned (OpenSpec.upto gapsOrderSpec)

/-- 'lanyardlaw08.GapsTurns', WHERE WHAT IT READS IS OF BULK AT MOST 1048576: true; the input reads as it did. -/
def gapsTurnsUptoRow : OpenClaim := { program := "ytfcfgmhcphmefaa", sum := "07877d4e419a05bef273e6f315ff829c15b3e4979cf6c3576fd7368e0f4be36d", func := "lanyard/lanyardlaw08.GapsTurns", spec := "gapsTurns", inPlace := ["maps.clone"], recurses := true, apart := false, narrowed := true }
def GapsTurnsUptoSaid : Prop := gapsTurnsUptoRow.holds Try.pinned (OpenSpec.upto gapsTurnsSpec)

/-- 'lanyardlaw18.FlightFreed', WHERE WHAT IT READS IS OF BULK AT MOST 1048576: true; the input reads as it did. -/
def flightFreedUptoRow : OpenClaim := { program := "ytfcfgmhcphmefaa", sum := "07877d4e419a05bef273e6f315ff829c15b3e4979cf6c3576fd7368e0f4be36d", func := "lanyard/lanyardlaw18.FlightFreed", spec := "flightFreed", inPlace := ["slices.overlaps[lanyard/api.PathBytes]"], unfollowed := true, recurses := true, apart := false, narrowed := true }
def FlightFreedUptoSaid : Prop := flightFreedUptoRow.holds Try.pinned (OpenSpec.upto flightFreedSpec)

/-- 'lanyardlaw18.FlightOut', WHERE WHAT IT READS IS OF BULK AT MOST 1048576: true; the input reads as it did. -/
def flightOutUptoRow : OpenClaim := { program := "ytfcfgmhcphmefaa", sum := "07877d4e419a05bef273e6f315ff829c15b3e4979cf6c3576fd7368e0f4be36d", func := "lanyard/lanyardlaw18.FlightOut", spec := "flightOut", inPlace := ["slices.overlaps[lanyard/api.PathBytes]"], unfollowed := true, recurses := true, apart := false, narrowed := true }
def FlightOutUptoSaid : Prop := flightOutUptoRow.holds Try.pinned (OpenSpec.upto flightOutSpec)

end Rows
end Go.Proofs.Ytfcfgmhcphmefaa
