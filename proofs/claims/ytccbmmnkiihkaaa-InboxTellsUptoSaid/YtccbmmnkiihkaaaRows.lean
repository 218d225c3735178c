/-
  No cell of these rows narrows 'for every input' (looked for: loops, veiled, ifaces, maps, wideKeys, modest, calm, conditions, laid).
  DERIVED. THE GIVEN ROWS OF THIS SEAT. 3 by the template 'for every input the law returns true; each argument reads behind the call as it read before'; 0 by the template 'total and deterministic' (their statements: YtccbmmnkiihkaaaTotals.lean).
  GIVEN WITH THE SEED: the statements are not yours to turn. If you find one false, say at which input.
  Laid BY PROGRAM, IN A SANDBOX (cutbox-rows.mjs): the forced cells as the released guide's own fill.sh prints them over the translation 3f889f1715b1aef2… (all of the seat's roots in one cut). By AI agents, Wed Nov 11 2026. No macro, syntax, notation, axiom, sorry.
-/
import Derived.Test.YtccbmmnkiihkaaaChecked
import GoSem.Claim
import GoSem.ClaimJoined
import GoSem.ClaimMapViews
import Derived.JoinedTies
import Derived.KernelRfl
namespace Go.Proofs.Ytccbmmnkiihkaaa
/- THE CELL 'sum', in the pinned program and in every row, IS THE sha256 OF THE DUMP (.gsa) THAT YtccbmmnkiihkaaaProg.lean LOADS. Nothing in Lean hashes anything: it is a label: what it is worth is what the hold of that sum in a sandbox is worth. -/
noncomputable def Try.pinned : Pinned := { name := "ytccbmmnkiihkaaa", sum := "3f889f1715b1aef224e6b5bd721cd9bf0ebbc31856edf35ef87e06ad4a87cc77", checked := Try.checked }
namespace Rows
def none {H : Type} : Left H := { results := [], args := [] }

/-- 'lanyardlaw10.InboxPlays': WHATEVER THE INPUT: true; the input reads as it did. -/
def inboxPlaysSpec : ChangeSpec := { name := "inboxPlays", fn := fun _ => fun
  | [d1, d2, d3, d4, d5] => { results := [.lit (.bool true)], args := [d1, d2, d3, d4, d5] }
  | _ => none }
def inboxPlaysRow : OpenClaim := { program := "ytccbmmnkiihkaaa", sum := "3f889f1715b1aef224e6b5bd721cd9bf0ebbc31856edf35ef87e06ad4a87cc77", func := "lanyard/lanyardlaw10.InboxPlays", spec := "inboxPlays", unfollowed := true, recurses := true, plainKeys := false, apart := false }
def InboxPlaysSaid : Prop := inboxPlaysRow.holds Try.pinned (OpenSpec.ofChange inboxPlaysSpec)

/-- ITS FALSE NEIGHBOUR: 'it returns false'. Refute it at one input. -/
def inboxPlaysWrong : ChangeSpec := { name := "inboxPlays", fn := fun _ => fun
  | [d1, d2, d3, d4, d5] => { results := [.lit (.bool false)], args := [d1, d2, d3, d4, d5] }
  | _ => none }
def InboxPlaysWrongFalsely : Prop := inboxPlaysRow.holds Try.pinned (OpenSpec.ofChange inboxPlaysWrong)

/-- 'lanyardlaw10.InboxHolds': WHATEVER THE INPUT: true; the input reads as it did. -/
def inboxHoldsSpec : ChangeSpec := { name := "inboxHolds", fn := fun _ => fun
  | [d1, d2, d3, d4, d5] => { results := [.lit (.bool true)], args := [d1, d2, d3, d4, d5] }
  | _ => none }
def inboxHoldsRow : OpenClaim := { program := "ytccbmmnkiihkaaa", sum := "3f889f1715b1aef224e6b5bd721cd9bf0ebbc31856edf35ef87e06ad4a87cc77", func := "lanyard/lanyardlaw10.InboxHolds", spec := "inboxHolds", unfollowed := true, recurses := true, plainKeys := false, apart := false }
def InboxHoldsSaid : Prop := inboxHoldsRow.holds Try.pinned (OpenSpec.ofChange inboxHoldsSpec)

/-- ITS FALSE NEIGHBOUR: 'it returns false'. Refute it at one input. -/
def inboxHoldsWrong : ChangeSpec := { name := "inboxHolds", fn := fun _ => fun
  | [d1, d2, d3, d4, d5] => { results := [.lit (.bool false)], args := [d1, d2, d3, d4, d5] }
  | _ => none }
def InboxHoldsWrongFalsely : Prop := inboxHoldsRow.holds Try.pinned (OpenSpec.ofChange inboxHoldsWrong)

/-- 'lanyardlaw10.InboxTells': WHATEVER THE INPUT: true; the input reads as it did. -/
def inboxTellsSpec : ChangeSpec := { name := "inboxTells", fn := fun _ => fun
  | [d1, d2, d3, d4, d5, d6] => { results := [.lit (.bool true)], args := [d1, d2, d3, d4, d5, d6] }
  | _ => none }
def inboxTellsRow : OpenClaim := { program := "ytccbmmnkiihkaaa", sum := "3f889f1715b1aef224e6b5bd721cd9bf0ebbc31856edf35ef87e06ad4a87cc77", func := "lanyard/lanyardlaw10.InboxTells", spec := "inboxTells", unfollowed := true, recurses := true, plainKeys := false, apart := false }
def InboxTellsSaid : Prop := inboxTellsRow.holds Try.pinned (OpenSpec.ofChange inboxTellsSpec)

/-- ITS FALSE NEIGHBOUR: 'it returns false'. Refute it at one input. -/
def inboxTellsWrong : ChangeSpec := { name := "inboxTells", fn := fun _ => fun
  | [d1, d2, d3, d4, d5, d6] => { results := [.lit (.bool false)], args := [d1, d2, d3, d4, d5, d6] }
  | _ => none }
def InboxTellsWrongFalsely : Prop := inboxTellsRow.holds Try.pinned (OpenSpec.ofChange inboxTellsWrong)

/- THE SECOND FORM. 'bulk': how many values and letters a reading holds, each counted each time it is reached (what is shared counts as often as it is met; a slice's spare places count too). A statement '..UptoSaid' is the law's where the arguments, and the package variables that the reading takes, are together of bulk at most 1048576: NARROWER than '..Said'. Prove '..Said' where nothing that the law and all that it calls make is longer than what came in: it says more and counts as full. Else prove '..UptoSaid'. A law counts once. -/
mutual
def uptoBulk {H : Type} : DataW H → Nat
  | .lit (.string bytes) => bytes.length + 1
  | .lit _ => 1
  | .nil => 1
  | .ptr d => uptoBulk d + 1
  | .slice elems spare => uptoBulkAll elems + uptoBulkAll spare + 1
  | .agg parts => uptoBulkAll parts + 1
  | .iface _ d => uptoBulk d + 1
  | .map entries => uptoBulkEntries entries + 1
  | .held _ => 1
def uptoBulkAll {H : Type} : List (DataW H) → Nat
  | [] => 0
  | d :: r => uptoBulk d + uptoBulkAll r
def uptoBulkEntries {H : Type} : List (Lit × DataW H) → Nat
  | [] => 0
  | x :: r => uptoBulkEntry x + uptoBulkEntries r
def uptoBulkEntry {H : Type} : Lit × DataW H → Nat
  | (.string bytes, d) => bytes.length + uptoBulk d + 1
  | (_, d) => uptoBulk d + 1
 end
def uptoSmall : (H : Type) → List (DataW H) → Bool := fun _ ds => decide (uptoBulkAll ds ≤ 1048576)
def OpenSpec.upto (s : _root_.Go.ChangeSpec) : _root_.Go.OpenSpec := { _root_.Go.OpenSpec.ofChange s with cond := some uptoSmall }

/-- 'lanyardlaw10.InboxPlays', WHERE WHAT IT READS IS OF BULK AT MOST 1048576: true; the input reads as it did. -/
def inboxPlaysUptoRow : OpenClaim := { program := "ytccbmmnkiihkaaa", sum := "3f889f1715b1aef224e6b5bd721cd9bf0ebbc31856edf35ef87e06ad4a87cc77", func := "lanyard/lanyardlaw10.InboxPlays", spec := "inboxPlays", unfollowed := true, recurses := true, plainKeys := false, apart := false, narrowed := true }
def InboxPlaysUptoSaid : Prop := inboxPlaysUptoRow.holds Try.pinned (OpenSpec.upto inboxPlaysSpec)

/-- 'lanyardlaw10.InboxHolds', WHERE WHAT IT READS IS OF BULK AT MOST 1048576: true; the input reads as it did. -/
def inboxHoldsUptoRow : OpenClaim := { program := "ytccbmmnkiihkaaa", sum := "3f889f1715b1aef224e6b5bd721cd9bf0ebbc31856edf35ef87e06ad4a87cc77", func := "lanyard/lanyardlaw10.InboxHolds", spec := "inboxHolds", unfollowed := true, recurses := true, plainKeys := false, apart := false, narrowed := true }
def InboxHoldsUptoSaid : Prop := inboxHoldsUptoRow.holds Try.pinned (OpenSpec.upto inboxHoldsSpec)

/-- 'lanyardlaw10.InboxTells', WHERE WHAT IT READS IS OF BULK AT MOST 1048576: true; the input reads as it did. -/
def inboxTellsUptoRow : OpenClaim := { program := "ytccbmmnkiihkaaa", sum := "3f889f1715b1aef224e6b5bd721cd9bf0ebbc31856edf35ef87e06ad4a87cc77", func := "lanyard/lanyardlaw10.InboxTells", spec := "inboxTells", unfollowed := true, recurses := true, plainKeys := false, apart := false, narrowed := true }
def InboxTellsUptoSaid : Prop := inboxTellsUptoRow.holds Try.pinned (OpenSpec.upto inboxTellsSpec)

end Rows
end Go.Proofs.Ytccbmmnkiihkaaa
