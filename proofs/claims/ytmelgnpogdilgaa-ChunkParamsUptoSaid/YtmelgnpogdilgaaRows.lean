/-
  No cell of these rows narrows 'for every input' (looked for: loops, veiled, ifaces, maps, wideKeys, modest, calm, conditions, laid).
  DERIVED. THE GIVEN ROWS OF THIS SEAT. 11 by the template 'for every input the law returns true; each argument reads behind the call as it read before'; 0 by the template 'total and deterministic' (their statements: YtmelgnpogdilgaaTotals.lean).
  GIVEN WITH THE SEED: the statements are not yours to turn. If you find one false, say at which input.
  Laid BY PROGRAM, IN A SANDBOX (cutbox-rows.mjs): the forced cells as the released guide's own fill.sh prints them over the translation 5ffcd7e496235117… (all of the seat's roots in one cut). By AI agents, Wed Nov 11 2026. No macro, syntax, notation, axiom, sorry.
-/
import Derived.Test.YtmelgnpogdilgaaChecked
import GoSem.Claim
import GoSem.ClaimJoined
import GoSem.ClaimMapViews
import Derived.JoinedTies
import Derived.KernelRfl
namespace Go.Proofs.Ytmelgnpogdilgaa
/- THE CELL 'sum', in the pinned program and in every row, IS THE sha256 OF THE DUMP (.gsa) THAT YtmelgnpogdilgaaProg.lean LOADS. Nothing in Lean hashes anything: it is a label: what it is worth is what the hold of that sum in a sandbox is worth. -/
noncomputable def Try.pinned : Pinned := { name := "ytmelgnpogdilgaa", sum := "5ffcd7e4962351176e614f6bad98998232ed908cc5b6a0ff96485c47975fe434", checked := Try.checked }
namespace Rows
def none {H : Type} : Left H := { results := [], args := [] }

/-- 'lanyardlaw04.TlvPuts': WHATEVER THE INPUT: true; the input reads as it did. -/
def tlvPutsSpec : ChangeSpec := { name := "tlvPuts", fn := fun _ => fun
  | [d1, d2] => { results := [.lit (.bool true)], args := [d1, d2] }
  | _ => none }
def tlvPutsRow : OpenClaim := { program := "ytmelgnpogdilgaa", sum := "5ffcd7e4962351176e614f6bad98998232ed908cc5b6a0ff96485c47975fe434", func := "lanyard/lanyardlaw04.TlvPuts", spec := "tlvPuts", unfollowed := true, recurses := true, apart := false }
def TlvPutsSaid : Prop := tlvPutsRow.holds Try.pinned (OpenSpec.ofChange tlvPutsSpec)

/-- ITS FALSE NEIGHBOUR: 'it returns false'. Refute it at one input. -/
def tlvPutsWrong : ChangeSpec := { name := "tlvPuts", fn := fun _ => fun
  | [d1, d2] => { results := [.lit (.bool false)], args := [d1, d2] }
  | _ => none }
def TlvPutsWrongFalsely : Prop := tlvPutsRow.holds Try.pinned (OpenSpec.ofChange tlvPutsWrong)

/-- 'lanyardlaw04.TlvGoes': WHATEVER THE INPUT: true; the input reads as it did. -/
def tlvGoesSpec : ChangeSpec := { name := "tlvGoes", fn := fun _ => fun
  | [d1, d2, d3] => { results := [.lit (.bool true)], args := [d1, d2, d3] }
  | _ => none }
def tlvGoesRow : OpenClaim := { program := "ytmelgnpogdilgaa", sum := "5ffcd7e4962351176e614f6bad98998232ed908cc5b6a0ff96485c47975fe434", func := "lanyard/lanyardlaw04.TlvGoes", spec := "tlvGoes", unfollowed := true, recurses := true, apart := false }
def TlvGoesSaid : Prop := tlvGoesRow.holds Try.pinned (OpenSpec.ofChange tlvGoesSpec)

/-- ITS FALSE NEIGHBOUR: 'it returns false'. Refute it at one input. -/
def tlvGoesWrong : ChangeSpec := { name := "tlvGoes", fn := fun _ => fun
  | [d1, d2, d3] => { results := [.lit (.bool false)], args := [d1, d2, d3] }
  | _ => none }
def TlvGoesWrongFalsely : Prop := tlvGoesRow.holds Try.pinned (OpenSpec.ofChange tlvGoesWrong)

/-- 'lanyardlaw04.TlvBack': WHATEVER THE INPUT: true; the input reads as it did. -/
def tlvBackSpec : ChangeSpec := { name := "tlvBack", fn := fun _ => fun
  | [d1, d2, d3] => { results := [.lit (.bool true)], args := [d1, d2, d3] }
  | _ => none }
def tlvBackRow : OpenClaim := { program := "ytmelgnpogdilgaa", sum := "5ffcd7e4962351176e614f6bad98998232ed908cc5b6a0ff96485c47975fe434", func := "lanyard/lanyardlaw04.TlvBack", spec := "tlvBack", unfollowed := true, recurses := true, apart := false }
def TlvBackSaid : Prop := tlvBackRow.holds Try.pinned (OpenSpec.ofChange tlvBackSpec)

/-- ITS FALSE NEIGHBOUR: 'it returns false'. Refute it at one input. -/
def tlvBackWrong : ChangeSpec := { name := "tlvBack", fn := fun _ => fun
  | [d1, d2, d3] => { results := [.lit (.bool false)], args := [d1, d2, d3] }
  | _ => none }
def TlvBackWrongFalsely : Prop := tlvBackRow.holds Try.pinned (OpenSpec.ofChange tlvBackWrong)

/-- 'lanyardlaw03.HeadPuts': WHATEVER THE INPUT: true; the input reads as it did. -/
def headPutsSpec : ChangeSpec := { name := "headPuts", fn := fun _ => fun
  | [d1, d2] => { results := [.lit (.bool true)], args := [d1, d2] }
  | _ => none }
def headPutsRow : OpenClaim := { program := "ytmelgnpogdilgaa", sum := "5ffcd7e4962351176e614f6bad98998232ed908cc5b6a0ff96485c47975fe434", func := "lanyard/lanyardlaw03.HeadPuts", spec := "headPuts", apart := false }
def HeadPutsSaid : Prop := headPutsRow.holds Try.pinned (OpenSpec.ofChange headPutsSpec)

/-- ITS FALSE NEIGHBOUR: 'it returns false'. Refute it at one input. -/
def headPutsWrong : ChangeSpec := { name := "headPuts", fn := fun _ => fun
  | [d1, d2] => { results := [.lit (.bool false)], args := [d1, d2] }
  | _ => none }
def HeadPutsWrongFalsely : Prop := headPutsRow.holds Try.pinned (OpenSpec.ofChange headPutsWrong)

/-- 'lanyardlaw03.HeadTakes': WHATEVER THE INPUT: true; the input reads as it did. -/
def headTakesSpec : ChangeSpec := { name := "headTakes", fn := fun _ => fun
  | [d] => { results := [.lit (.bool true)], args := [d] }
  | _ => none }
def headTakesRow : OpenClaim := { program := "ytmelgnpogdilgaa", sum := "5ffcd7e4962351176e614f6bad98998232ed908cc5b6a0ff96485c47975fe434", func := "lanyard/lanyardlaw03.HeadTakes", spec := "headTakes", apart := false }
def HeadTakesSaid : Prop := headTakesRow.holds Try.pinned (OpenSpec.ofChange headTakesSpec)

/-- ITS FALSE NEIGHBOUR: 'it returns false'. Refute it at one input. -/
def headTakesWrong : ChangeSpec := { name := "headTakes", fn := fun _ => fun
  | [d] => { results := [.lit (.bool false)], args := [d] }
  | _ => none }
def HeadTakesWrongFalsely : Prop := headTakesRow.holds Try.pinned (OpenSpec.ofChange headTakesWrong)

/-- 'lanyardlaw03.HeadBack': WHATEVER THE INPUT: true; the input reads as it did. -/
def headBackSpec : ChangeSpec := { name := "headBack", fn := fun _ => fun
  | [d1, d2, d3, d4, d5] => { results := [.lit (.bool true)], args := [d1, d2, d3, d4, d5] }
  | _ => none }
def headBackRow : OpenClaim := { program := "ytmelgnpogdilgaa", sum := "5ffcd7e4962351176e614f6bad98998232ed908cc5b6a0ff96485c47975fe434", func := "lanyard/lanyardlaw03.HeadBack", spec := "headBack", apart := false }
def HeadBackSaid : Prop := headBackRow.holds Try.pinned (OpenSpec.ofChange headBackSpec)

/-- ITS FALSE NEIGHBOUR: 'it returns false'. Refute it at one input. -/
def headBackWrong : ChangeSpec := { name := "headBack", fn := fun _ => fun
  | [d1, d2, d3, d4, d5] => { results := [.lit (.bool false)], args := [d1, d2, d3, d4, d5] }
  | _ => none }
def HeadBackWrongFalsely : Prop := headBackRow.holds Try.pinned (OpenSpec.ofChange headBackWrong)

/-- 'lanyardlaw05.ChunkPuts': WHATEVER THE INPUT: true; the input reads as it did. -/
def chunkPutsSpec : ChangeSpec := { name := "chunkPuts", fn := fun _ => fun
  | [d] => { results := [.lit (.bool true)], args := [d] }
  | _ => none }
def chunkPutsRow : OpenClaim := { program := "ytmelgnpogdilgaa", sum := "5ffcd7e4962351176e614f6bad98998232ed908cc5b6a0ff96485c47975fe434", func := "lanyard/lanyardlaw05.ChunkPuts", spec := "chunkPuts", unfollowed := true, recurses := true, apart := false }
def ChunkPutsSaid : Prop := chunkPutsRow.holds Try.pinned (OpenSpec.ofChange chunkPutsSpec)

/-- ITS FALSE NEIGHBOUR: 'it returns false'. Refute it at one input. -/
def chunkPutsWrong : ChangeSpec := { name := "chunkPuts", fn := fun _ => fun
  | [d] => { results := [.lit (.bool false)], args := [d] }
  | _ => none }
def ChunkPutsWrongFalsely : Prop := chunkPutsRow.holds Try.pinned (OpenSpec.ofChange chunkPutsWrong)

/-- 'lanyardlaw05.ChunkTakes': WHATEVER THE INPUT: true; the input reads as it did. -/
def chunkTakesSpec : ChangeSpec := { name := "chunkTakes", fn := fun _ => fun
  | [d] => { results := [.lit (.bool true)], args := [d] }
  | _ => none }
def chunkTakesRow : OpenClaim := { program := "ytmelgnpogdilgaa", sum := "5ffcd7e4962351176e614f6bad98998232ed908cc5b6a0ff96485c47975fe434", func := "lanyard/lanyardlaw05.ChunkTakes", spec := "chunkTakes", unfollowed := true, recurses := true, apart := false }
def ChunkTakesSaid : Prop := chunkTakesRow.holds Try.pinned (OpenSpec.ofChange chunkTakesSpec)

/-- ITS FALSE NEIGHBOUR: 'it returns false'. Refute it at one input. -/
def chunkTakesWrong : ChangeSpec := { name := "chunkTakes", fn := fun _ => fun
  | [d] => { results := [.lit (.bool false)], args := [d] }
  | _ => none }
def ChunkTakesWrongFalsely : Prop := chunkTakesRow.holds Try.pinned (OpenSpec.ofChange chunkTakesWrong)

/-- 'lanyardlaw05.ChunkKinds': WHATEVER THE INPUT: true; the input reads as it did. -/
def chunkKindsSpec : ChangeSpec := { name := "chunkKinds", fn := fun _ => fun
  | [d] => { results := [.lit (.bool true)], args := [d] }
  | _ => none }
def chunkKindsRow : OpenClaim := { program := "ytmelgnpogdilgaa", sum := "5ffcd7e4962351176e614f6bad98998232ed908cc5b6a0ff96485c47975fe434", func := "lanyard/lanyardlaw05.ChunkKinds", spec := "chunkKinds", unfollowed := true, recurses := true, apart := false }
def ChunkKindsSaid : Prop := chunkKindsRow.holds Try.pinned (OpenSpec.ofChange chunkKindsSpec)

/-- ITS FALSE NEIGHBOUR: 'it returns false'. Refute it at one input. -/
def chunkKindsWrong : ChangeSpec := { name := "chunkKinds", fn := fun _ => fun
  | [d] => { results := [.lit (.bool false)], args := [d] }
  | _ => none }
def ChunkKindsWrongFalsely : Prop := chunkKindsRow.holds Try.pinned (OpenSpec.ofChange chunkKindsWrong)

/-- 'lanyardlaw05.ChunkBack': WHATEVER THE INPUT: true; the input reads as it did. -/
def chunkBackSpec : ChangeSpec := { name := "chunkBack", fn := fun _ => fun
  | [d1, d2] => { results := [.lit (.bool true)], args := [d1, d2] }
  | _ => none }
def chunkBackRow : OpenClaim := { program := "ytmelgnpogdilgaa", sum := "5ffcd7e4962351176e614f6bad98998232ed908cc5b6a0ff96485c47975fe434", func := "lanyard/lanyardlaw05.ChunkBack", spec := "chunkBack", unfollowed := true, recurses := true, apart := false }
def ChunkBackSaid : Prop := chunkBackRow.holds Try.pinned (OpenSpec.ofChange chunkBackSpec)

/-- ITS FALSE NEIGHBOUR: 'it returns false'. Refute it at one input. -/
def chunkBackWrong : ChangeSpec := { name := "chunkBack", fn := fun _ => fun
  | [d1, d2] => { results := [.lit (.bool false)], args := [d1, d2] }
  | _ => none }
def ChunkBackWrongFalsely : Prop := chunkBackRow.holds Try.pinned (OpenSpec.ofChange chunkBackWrong)

/-- 'lanyardlaw05.ChunkParams': WHATEVER THE INPUT: true; the input reads as it did. -/
def chunkParamsSpec : ChangeSpec := { name := "chunkParams", fn := fun _ => fun
  | [d1, d2, d3, d4] => { results := [.lit (.bool true)], args := [d1, d2, d3, d4] }
  | _ => none }
def chunkParamsRow : OpenClaim := { program := "ytmelgnpogdilgaa", sum := "5ffcd7e4962351176e614f6bad98998232ed908cc5b6a0ff96485c47975fe434", func := "lanyard/lanyardlaw05.ChunkParams", spec := "chunkParams", unfollowed := true, recurses := true, apart := false }
def ChunkParamsSaid : Prop := chunkParamsRow.holds Try.pinned (OpenSpec.ofChange chunkParamsSpec)

/-- ITS FALSE NEIGHBOUR: 'it returns false'. Refute it at one input. -/
def chunkParamsWrong : ChangeSpec := { name := "chunkParams", fn := fun _ => fun
  | [d1, d2, d3, d4] => { results := [.lit (.bool false)], args := [d1, d2, d3, d4] }
  | _ => none }
def ChunkParamsWrongFalsely : Prop := chunkParamsRow.holds Try.pinned (OpenSpec.ofChange chunkParamsWrong)

/- THE SECOND FORM. 'bulk': how many values and letters a reading holds, each counted each time it is reached (what is shared counts as often as it is met; a slice's spare places count too). A statement '..UptoSaid' is the law's where the arguments, and the package variables that the reading takes, are together of bulk at most 1048576: NARROWER than '..Said'. Prove '..Said' where nothing that the law and all that it calls make is longer than what came in: it says more and counts as full. Else prove '..UptoSaid'. A law counts once. -/
mutual
def uptoBulk {H : Type} : DataW H → Nat
  | .lit (.string bytes) => bytes.length + 1
  | .lit _ => 1
  | .nil => 1
  | .ptr d => uptoBulk d + 1
  | .slice elems spare => uptoBulkAll elems + uptoBulkAll spare + 1
  | .agg parts => uptoBulkAll parts + 1
  | .iface _ d => uptoBulk d + 1
  | .map entries => uptoBulkEntries entries + 1
  | .held _ => 1
def uptoBulkAll {H : Type} : List (DataW H) → Nat
  | [] => 0
  | d :: r => uptoBulk d + uptoBulkAll r
def uptoBulkEntries {H : Type} : List (Lit × DataW H) → Nat
  | [] => 0
  | x :: r => uptoBulkEntry x + uptoBulkEntries r
def uptoBulkEntry {H : Type} : Lit × DataW H → Nat
  | (.string bytes, d) => bytes.length + uptoBulk d + 1
  | (_, d) => uptoBulk d + 1
 end
def uptoSmall : (H : Type) → List (DataW H) → Bool := fun _ ds => decide (uptoBulkAll ds ≤ 1048576)
def OpenSpec.upto (s : _root_.Go.ChangeSpec) : _root_.Go.OpenSpec := { _root_.Go.OpenSpec.ofChange s with cond := some uptoSmall }

/-- 'lanyardlaw04.TlvPuts', WHERE WHAT IT READS IS OF BULK AT MOST 1048576: true; the input reads as it did. -/
def tlvPutsUptoRow : OpenClaim := { program := "ytmelgnpogdilgaa", sum := "5ffcd7e4962351176e614f6bad98998232ed908cc5b6a0ff96485c47975fe434", func := "lanyard/lanyardlaw04.TlvPuts", spec := "tlvPuts", unfollowed := true, recurses := true, apart := false, narrowed := true }
def TlvPutsUptoSaid : Prop := tlvPutsUptoRow.holds Try.pinned (OpenSpec.upto tlvPutsSpec)

/-- 'lanyardlaw04.TlvGoes', WHERE WHAT IT READS IS OF BULK AT MOST 1048576: true; the input reads as it did. -/
def tlvGoesUptoRow : OpenClaim := { program := "ytmelgnpogdilgaa", sum := "5ffcd7e4962351176e614f6bad98998232ed908cc5b6a0ff96485c47975fe434", func := "lanyard/lanyardlaw04.TlvGoes", spec := "tlvGoes", unfollowed := true, recurses := true, apart := false, narrowed := true }
def TlvGoesUptoSaid : Prop := tlvGoesUptoRow.holds Try.pinned (OpenSpec.upto tlvGoesSpec)

/-- 'lanyardlaw04.TlvBack', WHERE WHAT IT READS IS OF BULK AT MOST 1048576: true; the input reads as it did. -/
def tlvBackUptoRow : OpenClaim := { program := "ytmelgnpogdilgaa", sum := "5ffcd7e4962351176e614f6bad98998232ed908cc5b6a0ff96485c47975fe434", func := "lanyard/lanyardlaw04.TlvBack", spec := "tlvBack", unfollowed := true, recurses := true, apart := false, narrowed := true }
def TlvBackUptoSaid : Prop := tlvBackUptoRow.holds Try.pinned (OpenSpec.upto tlvBackSpec)

/-- 'lanyardlaw03.HeadPuts', WHERE WHAT IT READS IS OF BULK AT MOST 1048576: true; the input reads as it did. -/
def headPutsUptoRow : OpenClaim := { program := "ytmelgnpogdilgaa", sum := "5ffcd7e4962351176e614f6bad98998232ed908cc5b6a0ff96485c47975fe434", func := "lanyard/lanyardlaw03.HeadPuts", spec := "headPuts", apart := false, narrowed := true }
def HeadPutsUptoSaid : Prop := headPutsUptoRow.holds Try.pinned (OpenSpec.upto headPutsSpec)

/-- 'lanyardlaw03.HeadTakes', WHERE WHAT IT READS IS OF BULK AT MOST 1048576: true; the input reads as it did. -/
def headTakesUptoRow : OpenClaim := { program := "ytmelgnpogdilgaa", sum := "5ffcd7e4962351176e614f6bad98998232ed908cc5b6a0ff96485c47975fe434", func := "lanyard/lanyardlaw03.HeadTakes", spec := "headTakes", apart := false, narrowed := true }
def HeadTakesUptoSaid : Prop := headTakesUptoRow.holds Try.pinned (OpenSpec.upto headTakesSpec)

/-- 'lanyardlaw03.HeadBack', WHERE WHAT IT READS IS OF BULK AT MOST 1048576: true; the input reads as it did. -/
def headBackUptoRow : OpenClaim := { program := "ytmelgnpogdilgaa", sum := "5ffcd7e4962351176e614f6bad98998232ed908cc5b6a0ff96485c47975fe434", func := "lanyard/lanyardlaw03.HeadBack", spec := "headBack", apart := false, narrowed := true }
def HeadBackUptoSaid : Prop := headBackUptoRow.holds Try.pinned (OpenSpec.upto headBackSpec)

/-- 'lanyardlaw05.ChunkPuts', WHERE WHAT IT READS IS OF BULK AT MOST 1048576: true; the input reads as it did. -/
def chunkPutsUptoRow : OpenClaim := { program := "ytmelgnpogdilgaa", sum := "5ffcd7e4962351176e614f6bad98998232ed908cc5b6a0ff96485c47975fe434", func := "lanyard/lanyardlaw05.ChunkPuts", spec := "chunkPuts", unfollowed := true, recurses := true, apart := false, narrowed := true }
def ChunkPutsUptoSaid : Prop := chunkPutsUptoRow.holds Try.pinned (OpenSpec.upto chunkPutsSpec)

/-- 'lanyardlaw05.ChunkTakes', WHERE WHAT IT READS IS OF BULK AT MOST 1048576: true; the input reads as it did. -/
def chunkTakesUptoRow : OpenClaim := { program := "ytmelgnpogdilgaa", sum := "5ffcd7e4962351176e614f6bad98998232ed908cc5b6a0ff96485c47975fe434", func := "lanyard/lanyardlaw05.ChunkTakes", spec := "chunkTakes", unfollowed := true, recurses := true, apart := false, narrowed := true }
def ChunkTakesUptoSaid : Prop := chunkTakesUptoRow.holds Try.pinned (OpenSpec.upto chunkTakesSpec)

/-- 'lanyardlaw05.ChunkKinds', WHERE WHAT IT READS IS OF BULK AT MOST 1048576: true; the input reads as it did. -/
def chunkKindsUptoRow : OpenClaim := { program := "ytmelgnpogdilgaa", sum := "5ffcd7e4962351176e614f6bad98998232ed908cc5b6a0ff96485c47975fe434", func := "lanyard/lanyardlaw05.ChunkKinds", spec := "chunkKinds", unfollowed := true, recurses := true, apart := false, narrowed := true }
def ChunkKindsUptoSaid : Prop := chunkKindsUptoRow.holds Try.pinned (OpenSpec.upto chunkKindsSpec)

/-- 'lanyardlaw05.ChunkBack', WHERE WHAT IT READS IS OF BULK AT MOST 1048576: true; the input reads as it did. -/
def chunkBackUptoRow : OpenClaim := { program := "ytmelgnpogdilgaa", sum := "5ffcd7e4962351176e614f6bad98998232ed908cc5b6a0ff96485c47975fe434", func := "lanyard/lanyardlaw05.ChunkBack", spec := "chunkBack", unfollowed := true, recurses := true, apart := false, narrowed := true }
def ChunkBackUptoSaid : Prop := chunkBackUptoRow.holds Try.pinned (OpenSpec.upto chunkBackSpec)

/-- 'lanyardlaw05.ChunkParams', WHERE WHAT IT READS IS OF BULK AT MOST 1048576: true; the input reads as it did. -/
def chunkParamsUptoRow : OpenClaim := { program := "ytmelgnpogdilgaa", sum := "5ffcd7e4962351176e614f6bad98998232ed908cc5b6a0ff96485c47975fe434", func := "lanyard/lanyardlaw05.ChunkParams", spec := "chunkParams", unfollowed := true, recurses := true, apart := false, narrowed := true }
def ChunkParamsUptoSaid : Prop := chunkParamsUptoRow.holds Try.pinned (OpenSpec.upto chunkParamsSpec)

end Rows
end Go.Proofs.Ytmelgnpogdilgaa
