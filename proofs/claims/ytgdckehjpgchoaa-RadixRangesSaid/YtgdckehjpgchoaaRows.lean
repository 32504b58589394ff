/-
  No cell of these rows narrows 'for every input' (looked for: loops, veiled, ifaces, maps, wideKeys, modest, calm, conditions, laid).
  DERIVED. THE GIVEN ROWS OF THIS SEAT. 9 by the template 'for every input the law returns true; each argument reads behind the call as it read before'; 0 by the template 'total and deterministic' (their statements: YtgdckehjpgchoaaTotals.lean).
  GIVEN WITH THE SEED: the statements are not yours to turn. If you find one false, say at which input.
  Laid BY PROGRAM, IN A SANDBOX (cutbox-rows.mjs): the forced cells as the released guide's own fill.sh prints them over the translation 66db9d5dd731d926… (all of the seat's roots in one cut). By AI agents, Wed Nov 11 2026. No macro, syntax, notation, axiom, sorry.
-/
import Derived.Test.YtgdckehjpgchoaaChecked
import GoSem.Claim
import GoSem.ClaimJoined
import GoSem.ClaimMapViews
import Derived.JoinedTies
import Derived.KernelRfl
namespace Go.Proofs.Ytgdckehjpgchoaa
/- THE CELL 'sum', in the pinned program and in every row, IS THE sha256 OF THE DUMP (.gsa) THAT YtgdckehjpgchoaaProg.lean LOADS. Nothing in Lean hashes anything: it is a label: what it is worth is what the hold of that sum in a sandbox is worth. -/
noncomputable def Try.pinned : Pinned := { name := "ytgdckehjpgchoaa", sum := "66db9d5dd731d9263d740ee3d775c1e73226b3414e89f9ab74bb4ddb72a4c184", checked := Try.checked }
namespace Rows
def none {H : Type} : Left H := { results := [], args := [] }

/-- 'midrangelaw27.RadixTrees': WHATEVER THE INPUT: true; the input reads as it did. -/
def radixTreesSpec : ChangeSpec := { name := "radixTrees", fn := fun _ => fun
  | [d] => { results := [.lit (.bool true)], args := [d] }
  | _ => none }
def radixTreesRow : OpenClaim := { program := "ytgdckehjpgchoaa", sum := "66db9d5dd731d9263d740ee3d775c1e73226b3414e89f9ab74bb4ddb72a4c184", func := "midrange/midrangelaw27.RadixTrees", spec := "radixTrees", inPlace := ["internal/bytealg.abigen_runtime_cmpstring"], unfollowed := true, recurses := true, apart := false }
def RadixTreesSaid : Prop := radixTreesRow.holds Try.pinned (OpenSpec.ofChange radixTreesSpec)

/-- ITS FALSE NEIGHBOUR: 'it returns false'. Refute it at one input. -/
def radixTreesWrong : ChangeSpec := { name := "radixTrees", fn := fun _ => fun
  | [d] => { results := [.lit (.bool false)], args := [d] }
  | _ => none }
def RadixTreesWrongFalsely : Prop := radixTreesRow.holds Try.pinned (OpenSpec.ofChange radixTreesWrong)

/-- 'midrangelaw27.RadixChecks': WHATEVER THE INPUT: true; the input reads as it did. -/
def radixChecksSpec : ChangeSpec := { name := "radixChecks", fn := fun _ => fun
  | [d] => { results := [.lit (.bool true)], args := [d] }
  | _ => none }
def radixChecksRow : OpenClaim := { program := "ytgdckehjpgchoaa", sum := "66db9d5dd731d9263d740ee3d775c1e73226b3414e89f9ab74bb4ddb72a4c184", func := "midrange/midrangelaw27.RadixChecks", spec := "radixChecks", inPlace := ["internal/bytealg.abigen_runtime_cmpstring"], unfollowed := true, recurses := true, apart := false }
def RadixChecksSaid : Prop := radixChecksRow.holds Try.pinned (OpenSpec.ofChange radixChecksSpec)

/-- ITS FALSE NEIGHBOUR: 'it returns false'. Refute it at one input. -/
def radixChecksWrong : ChangeSpec := { name := "radixChecks", fn := fun _ => fun
  | [d] => { results := [.lit (.bool false)], args := [d] }
  | _ => none }
def RadixChecksWrongFalsely : Prop := radixChecksRow.holds Try.pinned (OpenSpec.ofChange radixChecksWrong)

/-- 'midrangelaw27.RadixPlaces': WHATEVER THE INPUT: true; the input reads as it did. -/
def radixPlacesSpec : ChangeSpec := { name := "radixPlaces", fn := fun _ => fun
  | [d1, d2] => { results := [.lit (.bool true)], args := [d1, d2] }
  | _ => none }
def radixPlacesRow : OpenClaim := { program := "ytgdckehjpgchoaa", sum := "66db9d5dd731d9263d740ee3d775c1e73226b3414e89f9ab74bb4ddb72a4c184", func := "midrange/midrangelaw27.RadixPlaces", spec := "radixPlaces", inPlace := ["internal/bytealg.abigen_runtime_cmpstring"], unfollowed := true, recurses := true, apart := false }
def RadixPlacesSaid : Prop := radixPlacesRow.holds Try.pinned (OpenSpec.ofChange radixPlacesSpec)

/-- ITS FALSE NEIGHBOUR: 'it returns false'. Refute it at one input. -/
def radixPlacesWrong : ChangeSpec := { name := "radixPlaces", fn := fun _ => fun
  | [d1, d2] => { results := [.lit (.bool false)], args := [d1, d2] }
  | _ => none }
def RadixPlacesWrongFalsely : Prop := radixPlacesRow.holds Try.pinned (OpenSpec.ofChange radixPlacesWrong)

/-- 'midrangelaw27.RadixRanges': WHATEVER THE INPUT: true; the input reads as it did. -/
def radixRangesSpec : ChangeSpec := { name := "radixRanges", fn := fun _ => fun
  | [d1, d2, d3] => { results := [.lit (.bool true)], args := [d1, d2, d3] }
  | _ => none }
def radixRangesRow : OpenClaim := { program := "ytgdckehjpgchoaa", sum := "66db9d5dd731d9263d740ee3d775c1e73226b3414e89f9ab74bb4ddb72a4c184", func := "midrange/midrangelaw27.RadixRanges", spec := "radixRanges", inPlace := ["internal/bytealg.abigen_runtime_cmpstring"], unfollowed := true, recurses := true, apart := false }
def RadixRangesSaid : Prop := radixRangesRow.holds Try.pinned (OpenSpec.ofChange radixRangesSpec)

/-- ITS FALSE NEIGHBOUR: 'it returns false'. Refute it at one input. -/
def radixRangesWrong : ChangeSpec := { name := "radixRanges", fn := fun _ => fun
  | [d1, d2, d3] => { results := [.lit (.bool false)], args := [d1, d2, d3] }
  | _ => none }
def RadixRangesWrongFalsely : Prop := radixRangesRow.holds Try.pinned (OpenSpec.ofChange radixRangesWrong)

/-- 'midrangelaw27.RadixDeep': WHATEVER THE INPUT: true; the input reads as it did. -/
def radixDeepSpec : ChangeSpec := { name := "radixDeep", fn := fun _ => fun
  | [d] => { results := [.lit (.bool true)], args := [d] }
  | _ => none }
def radixDeepRow : OpenClaim := { program := "ytgdckehjpgchoaa", sum := "66db9d5dd731d9263d740ee3d775c1e73226b3414e89f9ab74bb4ddb72a4c184", func := "midrange/midrangelaw27.RadixDeep", spec := "radixDeep", inPlace := ["internal/bytealg.abigen_runtime_cmpstring"], unfollowed := true, recurses := true, apart := false }
def RadixDeepSaid : Prop := radixDeepRow.holds Try.pinned (OpenSpec.ofChange radixDeepSpec)

/-- ITS FALSE NEIGHBOUR: 'it returns false'. Refute it at one input. -/
def radixDeepWrong : ChangeSpec := { name := "radixDeep", fn := fun _ => fun
  | [d] => { results := [.lit (.bool false)], args := [d] }
  | _ => none }
def RadixDeepWrongFalsely : Prop := radixDeepRow.holds Try.pinned (OpenSpec.ofChange radixDeepWrong)

/-- 'midrangelaw27.RadixFinds': WHATEVER THE INPUT: true; the input reads as it did. -/
def radixFindsSpec : ChangeSpec := { name := "radixFinds", fn := fun _ => fun
  | [d1, d2] => { results := [.lit (.bool true)], args := [d1, d2] }
  | _ => none }
def radixFindsRow : OpenClaim := { program := "ytgdckehjpgchoaa", sum := "66db9d5dd731d9263d740ee3d775c1e73226b3414e89f9ab74bb4ddb72a4c184", func := "midrange/midrangelaw27.RadixFinds", spec := "radixFinds", inPlace := ["internal/bytealg.abigen_runtime_cmpstring"], unfollowed := true, recurses := true, apart := false }
def RadixFindsSaid : Prop := radixFindsRow.holds Try.pinned (OpenSpec.ofChange radixFindsSpec)

/-- ITS FALSE NEIGHBOUR: 'it returns false'. Refute it at one input. -/
def radixFindsWrong : ChangeSpec := { name := "radixFinds", fn := fun _ => fun
  | [d1, d2] => { results := [.lit (.bool false)], args := [d1, d2] }
  | _ => none }
def RadixFindsWrongFalsely : Prop := radixFindsRow.holds Try.pinned (OpenSpec.ofChange radixFindsWrong)

/-- 'midrangelaw27.RadixChanges': WHATEVER THE INPUT: true; the input reads as it did. -/
def radixChangesSpec : ChangeSpec := { name := "radixChanges", fn := fun _ => fun
  | [d1, d2, d3] => { results := [.lit (.bool true)], args := [d1, d2, d3] }
  | _ => none }
def radixChangesRow : OpenClaim := { program := "ytgdckehjpgchoaa", sum := "66db9d5dd731d9263d740ee3d775c1e73226b3414e89f9ab74bb4ddb72a4c184", func := "midrange/midrangelaw27.RadixChanges", spec := "radixChanges", inPlace := ["internal/bytealg.abigen_runtime_cmpstring"], unfollowed := true, recurses := true, apart := false }
def RadixChangesSaid : Prop := radixChangesRow.holds Try.pinned (OpenSpec.ofChange radixChangesSpec)

/-- ITS FALSE NEIGHBOUR: 'it returns false'. Refute it at one input. -/
def radixChangesWrong : ChangeSpec := { name := "radixChanges", fn := fun _ => fun
  | [d1, d2, d3] => { results := [.lit (.bool false)], args := [d1, d2, d3] }
  | _ => none }
def RadixChangesWrongFalsely : Prop := radixChangesRow.holds Try.pinned (OpenSpec.ofChange radixChangesWrong)

/-- 'midrangelaw27.RadixOne': WHATEVER THE INPUT: true; the input reads as it did. -/
def radixOneSpec : ChangeSpec := { name := "radixOne", fn := fun _ => fun
  | [d1, d2] => { results := [.lit (.bool true)], args := [d1, d2] }
  | _ => none }
def radixOneRow : OpenClaim := { program := "ytgdckehjpgchoaa", sum := "66db9d5dd731d9263d740ee3d775c1e73226b3414e89f9ab74bb4ddb72a4c184", func := "midrange/midrangelaw27.RadixOne", spec := "radixOne", inPlace := ["internal/bytealg.abigen_runtime_cmpstring"], unfollowed := true, recurses := true, apart := false }
def RadixOneSaid : Prop := radixOneRow.holds Try.pinned (OpenSpec.ofChange radixOneSpec)

/-- ITS FALSE NEIGHBOUR: 'it returns false'. Refute it at one input. -/
def radixOneWrong : ChangeSpec := { name := "radixOne", fn := fun _ => fun
  | [d1, d2] => { results := [.lit (.bool false)], args := [d1, d2] }
  | _ => none }
def RadixOneWrongFalsely : Prop := radixOneRow.holds Try.pinned (OpenSpec.ofChange radixOneWrong)

/-- 'midrangelaw27.RadixOrder': WHATEVER THE INPUT: true; the input reads as it did. -/
def radixOrderSpec : ChangeSpec := { name := "radixOrder", fn := fun _ => fun
  | [d1, d2, d3] => { results := [.lit (.bool true)], args := [d1, d2, d3] }
  | _ => none }
def radixOrderRow : OpenClaim := { program := "ytgdckehjpgchoaa", sum := "66db9d5dd731d9263d740ee3d775c1e73226b3414e89f9ab74bb4ddb72a4c184", func := "midrange/midrangelaw27.RadixOrder", spec := "radixOrder", inPlace := ["internal/bytealg.abigen_runtime_cmpstring"], unfollowed := true, recurses := true, apart := false }
def RadixOrderSaid : Prop := radixOrderRow.holds Try.pinned (OpenSpec.ofChange radixOrderSpec)

/-- ITS FALSE NEIGHBOUR: 'it returns false'. Refute it at one input. -/
def radixOrderWrong : ChangeSpec := { name := "radixOrder", fn := fun _ => fun
  | [d1, d2, d3] => { results := [.lit (.bool false)], args := [d1, d2, d3] }
  | _ => none }
def RadixOrderWrongFalsely : Prop := radixOrderRow.holds Try.pinned (OpenSpec.ofChange radixOrderWrong)

/- THE SECOND FORM. 'bulk': how many values and letters a reading holds, each counted each time it is reached (what is shared counts as often as it is met; a slice's spare places count too). A statement '..UptoSaid' is the law's where the arguments, and the package variables that the reading takes, are together of bulk at most 1048576: NARROWER than '..Said'. Prove '..Said' where nothing that the law and all that it calls make is longer than what came in: it says more and counts as full. Else prove '..UptoSaid'. A law counts once. -/
mutual
def uptoBulk {H : Type} : DataW H → Nat
  | .lit (.string bytes) => bytes.length + 1
  | .lit _ => 1
  | .nil => 1
  | .ptr d => uptoBulk d + 1
  | .slice elems spare => uptoBulkAll elems + uptoBulkAll spare + 1
  | .agg parts => uptoBulkAll parts + 1
  | .iface _ d => uptoBulk d + 1
  | .map entries => uptoBulkEntries entries + 1
  | .held _ => 1
def uptoBulkAll {H : Type} : List (DataW H) → Nat
  | [] => 0
  | d :: r => uptoBulk d + uptoBulkAll r
def uptoBulkEntries {H : Type} : List (Lit × DataW H) → Nat
  | [] => 0
  | x :: r => uptoBulkEntry x + uptoBulkEntries r
def uptoBulkEntry {H : Type} : Lit × DataW H → Nat
  | (.string bytes, d) => bytes.length + uptoBulk d + 1
  | (_, d) => uptoBulk d + 1
 end
def uptoSmall : (H : Type) → List (DataW H) → Bool := fun _ ds => decide (uptoBulkAll ds ≤ 1048576)
def OpenSpec.upto (s : _root_.Go.ChangeSpec) : _root_.Go.OpenSpec := { _root_.Go.OpenSpec.ofChange s with cond := some uptoSmall }

/-- 'midrangelaw27.RadixTrees', WHERE WHAT IT READS IS OF BULK AT MOST 1048576: true; the input reads as it did. -/
def radixTreesUptoRow : OpenClaim := { program := "ytgdckehjpgchoaa", sum := "66db9d5dd731d9263d740ee3d775c1e73226b3414e89f9ab74bb4ddb72a4c184", func := "midrange/midrangelaw27.RadixTrees", spec := "radixTrees", inPlace := ["internal/bytealg.abigen_runtime_cmpstring"], unfollowed := true, recurses := true, apart := false, narrowed := true }
def RadixTreesUptoSaid : Prop := radixTreesUptoRow.holds Try.pinned (OpenSpec.upto radixTreesSpec)

/-- 'midrangelaw27.RadixChecks', WHERE WHAT IT READS IS OF BULK AT MOST 1048576: true; the input reads as it did. -/
def radixChecksUptoRow : OpenClaim := { program := "ytgdckehjpgchoaa", sum := "66db9d5dd731d9263d740ee3d775c1e73226b3414e89f9ab74bb4ddb72a4c184", func := "midrange/midrangelaw27.RadixChecks", spec := "radixChecks", inPlace := ["internal/bytealg.abigen_runtime_cmpstring"], unfollowed := true, recurses := true, apart := false, narrowed := true }
def RadixChecksUptoSaid : Prop := radixChecksUptoRow.holds Try.pinned (OpenSpec.upto radixChecksSpec)

/-- 'midrangelaw27.RadixPlaces', WHERE WHAT IT READS IS OF BULK AT MOST 1048576: true; the input reads as it did. -/
def radixPlacesUptoRow : OpenClaim := { program := "ytgdckehjpgchoaa", sum := "66db9d5dd731d9263d740ee3d775c1e73226b3414e89f9ab74bb4ddb72a4c184", func := "midrange/midrangelaw27.RadixPlaces", spec := "radixPlaces", inPlace := ["internal/bytealg.abigen_runtime_cmpstring"], unfollowed := true, recurses := true, apart := false, narrowed := true }
def RadixPlacesUptoSaid : Prop := radixPlacesUptoRow.holds Try.pinned (OpenSpec.upto radixPlacesSpec)

/-- 'midrangelaw27.RadixRanges', WHERE WHAT IT READS IS OF BULK AT MOST 1048576: true; the input reads as it did. -/
def radixRangesUptoRow : OpenClaim := { program := "ytgdckehjpgchoaa", sum := "66db9d5dd731d9263d740ee3d775c1e73226b3414e89f9ab74bb4ddb72a4c184", func := "midrange/midrangelaw27.RadixRanges", spec := "radixRanges", inPlace := ["internal/bytealg.abigen_runtime_cmpstring"], unfollowed := true, recurses := true, apart := false, narrowed := true }
def RadixRangesUptoSaid : Prop := radixRangesUptoRow.holds Try.pinned (OpenSpec.upto radixRangesSpec)

/-- 'midrangelaw27.RadixDeep', WHERE WHAT IT READS IS OF BULK AT MOST 1048576: true; the input reads as it did. -/
def radixDeepUptoRow : OpenClaim := { program := "ytgdckehjpgchoaa", sum := "66db9d5dd731d9263d740ee3d775c1e73226b3414e89f9ab74bb4ddb72a4c184", func := "midrange/midrangelaw27.RadixDeep", spec := "radixDeep", inPlace := ["internal/bytealg.abigen_runtime_cmpstring"], unfollowed := true, recurses := true, apart := false, narrowed := true }
def RadixDeepUptoSaid : Prop := radixDeepUptoRow.holds Try.pinned (OpenSpec.upto radixDeepSpec)

/-- 'midrangelaw27.RadixFinds', WHERE WHAT IT READS IS OF BULK AT MOST 1048576: true; the input reads as it did. -/
def radixFindsUptoRow : OpenClaim := { program := "ytgdckehjpgchoaa", sum := "66db9d5dd731d9263d740ee3d775c1e73226b3414e89f9ab74bb4ddb72a4c184", func := "midrange/midrangelaw27.RadixFinds", spec := "radixFinds", inPlace := ["internal/bytealg.abigen_runtime_cmpstring"], unfollowed := true, recurses := true, apart := false, narrowed := true }
def RadixFindsUptoSaid : Prop := radixFindsUptoRow.holds Try.pinned (OpenSpec.upto radixFindsSpec)

/-- 'midrangelaw27.RadixChanges', WHERE WHAT IT READS IS OF BULK AT MOST 1048576: true; the input reads as it did. -/
def radixChangesUptoRow : OpenClaim := { program := "ytgdckehjpgchoaa", sum := "66db9d5dd731d9263d740ee3d775c1e73226b3414e89f9ab74bb4ddb72a4c184", func := "midrange/midrangelaw27.RadixChanges", spec := "radixChanges", inPlace := ["internal/bytealg.abigen_runtime_cmpstring"], unfollowed := true, recurses := true, apart := false, narrowed := true }
def RadixChangesUptoSaid : Prop := radixChangesUptoRow.holds Try.pinned (OpenSpec.upto radixChangesSpec)

/-- 'midrangelaw27.RadixOne', WHERE WHAT IT READS IS OF BULK AT MOST 1048576: true; the input reads as it did. -/
def radixOneUptoRow : OpenClaim := { program := "ytgdckehjpgchoaa", sum := "66db9d5dd731d9263d740ee3d775c1e73226b3414e89f9ab74bb4ddb72a4c184", func := "midrange/midrangelaw27.RadixOne", spec := "radixOne", inPlace := ["internal/bytealg.abigen_runtime_cmpstring"], unfollowed := true, recurses := true, apart := false, narrowed := true }
def RadixOneUptoSaid : Prop := radixOneUptoRow.holds Try.pinned (OpenSpec.upto radixOneSpec)

/-- 'midrangelaw27.RadixOrder', WHERE WHAT IT READS IS OF BULK AT MOST 1048576: true; the input reads as it did. -/
def radixOrderUptoRow : OpenClaim := { program := "ytgdckehjpgchoaa", sum := "66db9d5dd731d9263d740ee3d775c1e73226b3414e89f9ab74bb4ddb72a4c184", func := "midrange/midrangelaw27.RadixOrder", spec := "radixOrder", inPlace := ["internal/bytealg.abigen_runtime_cmpstring"], unfollowed := true, recurses := true, apart := false, narrowed := true }
def RadixOrderUptoSaid : Prop := radixOrderUptoRow.holds Try.pinned (OpenSpec.upto radixOrderSpec)

end Rows
end Go.Proofs.Ytgdckehjpgchoaa
