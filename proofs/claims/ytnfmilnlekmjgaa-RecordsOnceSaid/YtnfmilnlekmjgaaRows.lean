/-
  No cell of these rows narrows 'for every input' (looked for: loops, veiled, ifaces, maps, wideKeys, modest, calm, conditions, laid).
  DERIVED. THE GIVEN ROWS OF THIS SEAT. 12 by the template 'for every input the law returns true; each argument reads behind the call as it read before'; 0 by the template 'total and deterministic' (their statements: YtnfmilnlekmjgaaTotals.lean).
  GIVEN WITH THE SEED: the statements are not yours to turn. If you find one false, say at which input.
  Laid BY PROGRAM, IN A SANDBOX (cutbox-rows.mjs): the forced cells as the released guide's own fill.sh prints them over the translation 4f52a6e3060506cd… (all of the seat's roots in one cut). By AI agents, Wed Nov 11 2026. No macro, syntax, notation, axiom, sorry.
-/
import Derived.Test.YtnfmilnlekmjgaaChecked
import GoSem.Claim
import GoSem.ClaimJoined
import GoSem.ClaimMapViews
import Derived.JoinedTies
import Derived.KernelRfl
namespace Go.Proofs.Ytnfmilnlekmjgaa
/- THE CELL 'sum', in the pinned program and in every row, IS THE sha256 OF THE DUMP (.gsa) THAT YtnfmilnlekmjgaaProg.lean LOADS. Nothing in Lean hashes anything: it is a label: what it is worth is what the hold of that sum in a sandbox is worth. -/
noncomputable def Try.pinned : Pinned := { name := "ytnfmilnlekmjgaa", sum := "4f52a6e3060506cd8cd6c669d171eea31a6197e681cc312dead0bf4563f252b5", checked := Try.checked }
namespace Rows
def none {H : Type} : Left H := { results := [], args := [] }

/-- 'midrangelaw26.RecordsBytes': WHATEVER THE INPUT: true; the input reads as it did. -/
def recordsBytesSpec : ChangeSpec := { name := "recordsBytes", fn := fun _ => fun
  | [d1, d2] => { results := [.lit (.bool true)], args := [d1, d2] }
  | _ => none }
def recordsBytesRow : OpenClaim := { program := "ytnfmilnlekmjgaa", sum := "4f52a6e3060506cd8cd6c669d171eea31a6197e681cc312dead0bf4563f252b5", func := "midrange/midrangelaw26.RecordsBytes", spec := "recordsBytes", inPlace := ["internal/abi.NoEscape"], apart := false }
def RecordsBytesSaid : Prop := recordsBytesRow.holds Try.pinned (OpenSpec.ofChange recordsBytesSpec)

/-- ITS FALSE NEIGHBOUR: 'it returns false'. Refute it at one input. -/
def recordsBytesWrong : ChangeSpec := { name := "recordsBytes", fn := fun _ => fun
  | [d1, d2] => { results := [.lit (.bool false)], args := [d1, d2] }
  | _ => none }
def RecordsBytesWrongFalsely : Prop := recordsBytesRow.holds Try.pinned (OpenSpec.ofChange recordsBytesWrong)

/-- 'midrangelaw26.RecordsValues': WHATEVER THE INPUT: true; the input reads as it did. -/
def recordsValuesSpec : ChangeSpec := { name := "recordsValues", fn := fun _ => fun
  | [d1, d2, d3] => { results := [.lit (.bool true)], args := [d1, d2, d3] }
  | _ => none }
def recordsValuesRow : OpenClaim := { program := "ytnfmilnlekmjgaa", sum := "4f52a6e3060506cd8cd6c669d171eea31a6197e681cc312dead0bf4563f252b5", func := "midrange/midrangelaw26.RecordsValues", spec := "recordsValues", inPlace := ["internal/abi.NoEscape"], apart := false }
def RecordsValuesSaid : Prop := recordsValuesRow.holds Try.pinned (OpenSpec.ofChange recordsValuesSpec)

/-- ITS FALSE NEIGHBOUR: 'it returns false'. Refute it at one input. -/
def recordsValuesWrong : ChangeSpec := { name := "recordsValues", fn := fun _ => fun
  | [d1, d2, d3] => { results := [.lit (.bool false)], args := [d1, d2, d3] }
  | _ => none }
def RecordsValuesWrongFalsely : Prop := recordsValuesRow.holds Try.pinned (OpenSpec.ofChange recordsValuesWrong)

/-- 'midrangelaw26.RecordsFormats': WHATEVER THE INPUT: true; the input reads as it did. -/
def recordsFormatsSpec : ChangeSpec := { name := "recordsFormats", fn := fun _ => fun
  | [d1, d2] => { results := [.lit (.bool true)], args := [d1, d2] }
  | _ => none }
def recordsFormatsRow : OpenClaim := { program := "ytnfmilnlekmjgaa", sum := "4f52a6e3060506cd8cd6c669d171eea31a6197e681cc312dead0bf4563f252b5", func := "midrange/midrangelaw26.RecordsFormats", spec := "recordsFormats", inPlace := ["internal/abi.NoEscape"], apart := false }
def RecordsFormatsSaid : Prop := recordsFormatsRow.holds Try.pinned (OpenSpec.ofChange recordsFormatsSpec)

/-- ITS FALSE NEIGHBOUR: 'it returns false'. Refute it at one input. -/
def recordsFormatsWrong : ChangeSpec := { name := "recordsFormats", fn := fun _ => fun
  | [d1, d2] => { results := [.lit (.bool false)], args := [d1, d2] }
  | _ => none }
def RecordsFormatsWrongFalsely : Prop := recordsFormatsRow.holds Try.pinned (OpenSpec.ofChange recordsFormatsWrong)

/-- 'midrangelaw26.RecordsTables': WHATEVER THE INPUT: true; the input reads as it did. -/
def recordsTablesSpec : ChangeSpec := { name := "recordsTables", fn := fun _ => fun
  | [d] => { results := [.lit (.bool true)], args := [d] }
  | _ => none }
def recordsTablesRow : OpenClaim := { program := "ytnfmilnlekmjgaa", sum := "4f52a6e3060506cd8cd6c669d171eea31a6197e681cc312dead0bf4563f252b5", func := "midrange/midrangelaw26.RecordsTables", spec := "recordsTables", inPlace := ["internal/abi.NoEscape"], apart := false }
def RecordsTablesSaid : Prop := recordsTablesRow.holds Try.pinned (OpenSpec.ofChange recordsTablesSpec)

/-- ITS FALSE NEIGHBOUR: 'it returns false'. Refute it at one input. -/
def recordsTablesWrong : ChangeSpec := { name := "recordsTables", fn := fun _ => fun
  | [d] => { results := [.lit (.bool false)], args := [d] }
  | _ => none }
def RecordsTablesWrongFalsely : Prop := recordsTablesRow.holds Try.pinned (OpenSpec.ofChange recordsTablesWrong)

/-- 'midrangelaw26.RecordsOnce': WHATEVER THE INPUT: true; the input reads as it did. -/
def recordsOnceSpec : ChangeSpec := { name := "recordsOnce", fn := fun _ => fun
  | [d] => { results := [.lit (.bool true)], args := [d] }
  | _ => none }
def recordsOnceRow : OpenClaim := { program := "ytnfmilnlekmjgaa", sum := "4f52a6e3060506cd8cd6c669d171eea31a6197e681cc312dead0bf4563f252b5", func := "midrange/midrangelaw26.RecordsOnce", spec := "recordsOnce", inPlace := ["internal/abi.NoEscape"], apart := false }
def RecordsOnceSaid : Prop := recordsOnceRow.holds Try.pinned (OpenSpec.ofChange recordsOnceSpec)

/-- ITS FALSE NEIGHBOUR: 'it returns false'. Refute it at one input. -/
def recordsOnceWrong : ChangeSpec := { name := "recordsOnce", fn := fun _ => fun
  | [d] => { results := [.lit (.bool false)], args := [d] }
  | _ => none }
def RecordsOnceWrongFalsely : Prop := recordsOnceRow.holds Try.pinned (OpenSpec.ofChange recordsOnceWrong)

/-- 'midrangelaw26.RecordsAdds': WHATEVER THE INPUT: true; the input reads as it did. -/
def recordsAddsSpec : ChangeSpec := { name := "recordsAdds", fn := fun _ => fun
  | [d1, d2, d3] => { results := [.lit (.bool true)], args := [d1, d2, d3] }
  | _ => none }
def recordsAddsRow : OpenClaim := { program := "ytnfmilnlekmjgaa", sum := "4f52a6e3060506cd8cd6c669d171eea31a6197e681cc312dead0bf4563f252b5", func := "midrange/midrangelaw26.RecordsAdds", spec := "recordsAdds", inPlace := ["internal/abi.NoEscape"], unfollowed := true, recurses := true, apart := false }
def RecordsAddsSaid : Prop := recordsAddsRow.holds Try.pinned (OpenSpec.ofChange recordsAddsSpec)

/-- ITS FALSE NEIGHBOUR: 'it returns false'. Refute it at one input. -/
def recordsAddsWrong : ChangeSpec := { name := "recordsAdds", fn := fun _ => fun
  | [d1, d2, d3] => { results := [.lit (.bool false)], args := [d1, d2, d3] }
  | _ => none }
def RecordsAddsWrongFalsely : Prop := recordsAddsRow.holds Try.pinned (OpenSpec.ofChange recordsAddsWrong)

/-- 'midrangelaw26.RecordsChanges': WHATEVER THE INPUT: true; the input reads as it did. -/
def recordsChangesSpec : ChangeSpec := { name := "recordsChanges", fn := fun _ => fun
  | [d1, d2, d3] => { results := [.lit (.bool true)], args := [d1, d2, d3] }
  | _ => none }
def recordsChangesRow : OpenClaim := { program := "ytnfmilnlekmjgaa", sum := "4f52a6e3060506cd8cd6c669d171eea31a6197e681cc312dead0bf4563f252b5", func := "midrange/midrangelaw26.RecordsChanges", spec := "recordsChanges", inPlace := ["internal/abi.NoEscape"], apart := false }
def RecordsChangesSaid : Prop := recordsChangesRow.holds Try.pinned (OpenSpec.ofChange recordsChangesSpec)

/-- ITS FALSE NEIGHBOUR: 'it returns false'. Refute it at one input. -/
def recordsChangesWrong : ChangeSpec := { name := "recordsChanges", fn := fun _ => fun
  | [d1, d2, d3] => { results := [.lit (.bool false)], args := [d1, d2, d3] }
  | _ => none }
def RecordsChangesWrongFalsely : Prop := recordsChangesRow.holds Try.pinned (OpenSpec.ofChange recordsChangesWrong)

/-- 'midrangelaw26.RecordsApart': WHATEVER THE INPUT: true; the input reads as it did. -/
def recordsApartSpec : ChangeSpec := { name := "recordsApart", fn := fun _ => fun
  | [d1, d2, d3] => { results := [.lit (.bool true)], args := [d1, d2, d3] }
  | _ => none }
def recordsApartRow : OpenClaim := { program := "ytnfmilnlekmjgaa", sum := "4f52a6e3060506cd8cd6c669d171eea31a6197e681cc312dead0bf4563f252b5", func := "midrange/midrangelaw26.RecordsApart", spec := "recordsApart", inPlace := ["internal/abi.NoEscape"], apart := false }
def RecordsApartSaid : Prop := recordsApartRow.holds Try.pinned (OpenSpec.ofChange recordsApartSpec)

/-- ITS FALSE NEIGHBOUR: 'it returns false'. Refute it at one input. -/
def recordsApartWrong : ChangeSpec := { name := "recordsApart", fn := fun _ => fun
  | [d1, d2, d3] => { results := [.lit (.bool false)], args := [d1, d2, d3] }
  | _ => none }
def RecordsApartWrongFalsely : Prop := recordsApartRow.holds Try.pinned (OpenSpec.ofChange recordsApartWrong)

/-- 'midrangelaw26.RecordsFits': WHATEVER THE INPUT: true; the input reads as it did. -/
def recordsFitsSpec : ChangeSpec := { name := "recordsFits", fn := fun _ => fun
  | [d1, d2] => { results := [.lit (.bool true)], args := [d1, d2] }
  | _ => none }
def recordsFitsRow : OpenClaim := { program := "ytnfmilnlekmjgaa", sum := "4f52a6e3060506cd8cd6c669d171eea31a6197e681cc312dead0bf4563f252b5", func := "midrange/midrangelaw26.RecordsFits", spec := "recordsFits", inPlace := ["internal/abi.NoEscape"], apart := false }
def RecordsFitsSaid : Prop := recordsFitsRow.holds Try.pinned (OpenSpec.ofChange recordsFitsSpec)

/-- ITS FALSE NEIGHBOUR: 'it returns false'. Refute it at one input. -/
def recordsFitsWrong : ChangeSpec := { name := "recordsFits", fn := fun _ => fun
  | [d1, d2] => { results := [.lit (.bool false)], args := [d1, d2] }
  | _ => none }
def RecordsFitsWrongFalsely : Prop := recordsFitsRow.holds Try.pinned (OpenSpec.ofChange recordsFitsWrong)

/-- 'midrangelaw26.RecordsReverse': WHATEVER THE INPUT: true; the input reads as it did. -/
def recordsReverseSpec : ChangeSpec := { name := "recordsReverse", fn := fun _ => fun
  | [d1, d2] => { results := [.lit (.bool true)], args := [d1, d2] }
  | _ => none }
def recordsReverseRow : OpenClaim := { program := "ytnfmilnlekmjgaa", sum := "4f52a6e3060506cd8cd6c669d171eea31a6197e681cc312dead0bf4563f252b5", func := "midrange/midrangelaw26.RecordsReverse", spec := "recordsReverse", inPlace := ["internal/abi.NoEscape"], apart := false }
def RecordsReverseSaid : Prop := recordsReverseRow.holds Try.pinned (OpenSpec.ofChange recordsReverseSpec)

/-- ITS FALSE NEIGHBOUR: 'it returns false'. Refute it at one input. -/
def recordsReverseWrong : ChangeSpec := { name := "recordsReverse", fn := fun _ => fun
  | [d1, d2] => { results := [.lit (.bool false)], args := [d1, d2] }
  | _ => none }
def RecordsReverseWrongFalsely : Prop := recordsReverseRow.holds Try.pinned (OpenSpec.ofChange recordsReverseWrong)

/-- 'midrangelaw26.RecordsSteps': WHATEVER THE INPUT: true; the input reads as it did. -/
def recordsStepsSpec : ChangeSpec := { name := "recordsSteps", fn := fun _ => fun
  | [d] => { results := [.lit (.bool true)], args := [d] }
  | _ => none }
def recordsStepsRow : OpenClaim := { program := "ytnfmilnlekmjgaa", sum := "4f52a6e3060506cd8cd6c669d171eea31a6197e681cc312dead0bf4563f252b5", func := "midrange/midrangelaw26.RecordsSteps", spec := "recordsSteps", inPlace := ["internal/abi.NoEscape"], apart := false }
def RecordsStepsSaid : Prop := recordsStepsRow.holds Try.pinned (OpenSpec.ofChange recordsStepsSpec)

/-- ITS FALSE NEIGHBOUR: 'it returns false'. Refute it at one input. -/
def recordsStepsWrong : ChangeSpec := { name := "recordsSteps", fn := fun _ => fun
  | [d] => { results := [.lit (.bool false)], args := [d] }
  | _ => none }
def RecordsStepsWrongFalsely : Prop := recordsStepsRow.holds Try.pinned (OpenSpec.ofChange recordsStepsWrong)

/-- 'midrangelaw26.RecordsMakes': WHATEVER THE INPUT: true; the input reads as it did. -/
def recordsMakesSpec : ChangeSpec := { name := "recordsMakes", fn := fun _ => fun
  | [d] => { results := [.lit (.bool true)], args := [d] }
  | _ => none }
def recordsMakesRow : OpenClaim := { program := "ytnfmilnlekmjgaa", sum := "4f52a6e3060506cd8cd6c669d171eea31a6197e681cc312dead0bf4563f252b5", func := "midrange/midrangelaw26.RecordsMakes", spec := "recordsMakes", inPlace := ["internal/abi.NoEscape", "internal/bytealg.MakeNoZero"], apart := false }
def RecordsMakesSaid : Prop := recordsMakesRow.holds Try.pinned (OpenSpec.ofChange recordsMakesSpec)

/-- ITS FALSE NEIGHBOUR: 'it returns false'. Refute it at one input. -/
def recordsMakesWrong : ChangeSpec := { name := "recordsMakes", fn := fun _ => fun
  | [d] => { results := [.lit (.bool false)], args := [d] }
  | _ => none }
def RecordsMakesWrongFalsely : Prop := recordsMakesRow.holds Try.pinned (OpenSpec.ofChange recordsMakesWrong)

/- THE SECOND FORM. 'bulk': how many values and letters a reading holds, each counted each time it is reached (what is shared counts as often as it is met; a slice's spare places count too). A statement '..UptoSaid' is the law's where the arguments, and the package variables that the reading takes, are together of bulk at most 1048576: NARROWER than '..Said'. Prove '..Said' where nothing that the law and all that it calls make is longer than what came in: it says more and counts as full. Else prove '..UptoSaid'. A law counts once. -/
mutual
def uptoBulk {H : Type} : DataW H → Nat
  | .lit (.string bytes) => bytes.length + 1
  | .lit _ => 1
  | .nil => 1
  | .ptr d => uptoBulk d + 1
  | .slice elems spare => uptoBulkAll elems + uptoBulkAll spare + 1
  | .agg parts => uptoBulkAll parts + 1
  | .iface _ d => uptoBulk d + 1
  | .map entries => uptoBulkEntries entries + 1
  | .held _ => 1
def uptoBulkAll {H : Type} : List (DataW H) → Nat
  | [] => 0
  | d :: r => uptoBulk d + uptoBulkAll r
def uptoBulkEntries {H : Type} : List (Lit × DataW H) → Nat
  | [] => 0
  | x :: r => uptoBulkEntry x + uptoBulkEntries r
def uptoBulkEntry {H : Type} : Lit × DataW H → Nat
  | (.string bytes, d) => bytes.length + uptoBulk d + 1
  | (_, d) => uptoBulk d + 1
 end
def uptoSmall : (H : Type) → List (DataW H) → Bool := fun _ ds => decide (uptoBulkAll ds ≤ 1048576)
def OpenSpec.upto (s : _root_.Go.ChangeSpec) : _root_.Go.OpenSpec := { _root_.Go.OpenSpec.ofChange s with cond := some uptoSmall }

/-- 'midrangelaw26.RecordsBytes', WHERE WHAT IT READS IS OF BULK AT MOST 1048576: true; the input reads as it did. -/
def recordsBytesUptoRow : OpenClaim := { program := "ytnfmilnlekmjgaa", sum := "4f52a6e3060506cd8cd6c669d171eea31a6197e681cc312dead0bf4563f252b5", func := "midrange/midrangelaw26.RecordsBytes", spec := "recordsBytes", inPlace := ["internal/abi.NoEscape"], apart := false, narrowed := true }
def RecordsBytesUptoSaid : Prop := recordsBytesUptoRow.holds Try.pinned (OpenSpec.upto recordsBytesSpec)

/-- 'midrangelaw26.RecordsValues', WHERE WHAT IT READS IS OF BULK AT MOST 1048576: true; the input reads as it did. -/
def recordsValuesUptoRow : OpenClaim := { program := "ytnfmilnlekmjgaa", sum := "4f52a6e3060506cd8cd6c669d171eea31a6197e681cc312dead0bf4563f252b5", func := "midrange/midrangelaw26.RecordsValues", spec := "recordsValues", inPlace := ["internal/abi.NoEscape"], apart := false, narrowed := true }
def RecordsValuesUptoSaid : Prop := recordsValuesUptoRow.holds Try.pinned (OpenSpec.upto recordsValuesSpec)

/-- 'midrangelaw26.RecordsFormats', WHERE WHAT IT READS IS OF BULK AT MOST 1048576: true; the input reads as it did. -/
def recordsFormatsUptoRow : OpenClaim := { program := "ytnfmilnlekmjgaa", sum := "4f52a6e3060506cd8cd6c669d171eea31a6197e681cc312dead0bf4563f252b5", func := "midrange/midrangelaw26.RecordsFormats", spec := "recordsFormats", inPlace := ["internal/abi.NoEscape"], apart := false, narrowed := true }
def RecordsFormatsUptoSaid : Prop := recordsFormatsUptoRow.holds Try.pinned (OpenSpec.upto recordsFormatsSpec)

/-- 'midrangelaw26.RecordsTables', WHERE WHAT IT READS IS OF BULK AT MOST 1048576: true; the input reads as it did. -/
def recordsTablesUptoRow : OpenClaim := { program := "ytnfmilnlekmjgaa", sum := "4f52a6e3060506cd8cd6c669d171eea31a6197e681cc312dead0bf4563f252b5", func := "midrange/midrangelaw26.RecordsTables", spec := "recordsTables", inPlace := ["internal/abi.NoEscape"], apart := false, narrowed := true }
def RecordsTablesUptoSaid : Prop := recordsTablesUptoRow.holds Try.pinned (OpenSpec.upto recordsTablesSpec)

/-- 'midrangelaw26.RecordsOnce', WHERE WHAT IT READS IS OF BULK AT MOST 1048576: true; the input reads as it did. -/
def recordsOnceUptoRow : OpenClaim := { program := "ytnfmilnlekmjgaa", sum := "4f52a6e3060506cd8cd6c669d171eea31a6197e681cc312dead0bf4563f252b5", func := "midrange/midrangelaw26.RecordsOnce", spec := "recordsOnce", inPlace := ["internal/abi.NoEscape"], apart := false, narrowed := true }
def RecordsOnceUptoSaid : Prop := recordsOnceUptoRow.holds Try.pinned (OpenSpec.upto recordsOnceSpec)

/-- 'midrangelaw26.RecordsAdds', WHERE WHAT IT READS IS OF BULK AT MOST 1048576: true; the input reads as it did. -/
def recordsAddsUptoRow : OpenClaim := { program := "ytnfmilnlekmjgaa", sum := "4f52a6e3060506cd8cd6c669d171eea31a6197e681cc312dead0bf4563f252b5", func := "midrange/midrangelaw26.RecordsAdds", spec := "recordsAdds", inPlace := ["internal/abi.NoEscape"], unfollowed := true, recurses := true, apart := false, narrowed := true }
def RecordsAddsUptoSaid : Prop := recordsAddsUptoRow.holds Try.pinned (OpenSpec.upto recordsAddsSpec)

/-- 'midrangelaw26.RecordsChanges', WHERE WHAT IT READS IS OF BULK AT MOST 1048576: true; the input reads as it did. -/
def recordsChangesUptoRow : OpenClaim := { program := "ytnfmilnlekmjgaa", sum := "4f52a6e3060506cd8cd6c669d171eea31a6197e681cc312dead0bf4563f252b5", func := "midrange/midrangelaw26.RecordsChanges", spec := "recordsChanges", inPlace := ["internal/abi.NoEscape"], apart := false, narrowed := true }
def RecordsChangesUptoSaid : Prop := recordsChangesUptoRow.holds Try.pinned (OpenSpec.upto recordsChangesSpec)

/-- 'midrangelaw26.RecordsApart', WHERE WHAT IT READS IS OF BULK AT MOST 1048576: true; the input reads as it did. -/
def recordsApartUptoRow : OpenClaim := { program := "ytnfmilnlekmjgaa", sum := "4f52a6e3060506cd8cd6c669d171eea31a6197e681cc312dead0bf4563f252b5", func := "midrange/midrangelaw26.RecordsApart", spec := "recordsApart", inPlace := ["internal/abi.NoEscape"], apart := false, narrowed := true }
def RecordsApartUptoSaid : Prop := recordsApartUptoRow.holds Try.pinned (OpenSpec.upto recordsApartSpec)

/-- 'midrangelaw26.RecordsFits', WHERE WHAT IT READS IS OF BULK AT MOST 1048576: true; the input reads as it did. -/
def recordsFitsUptoRow : OpenClaim := { program := "ytnfmilnlekmjgaa", sum := "4f52a6e3060506cd8cd6c669d171eea31a6197e681cc312dead0bf4563f252b5", func := "midrange/midrangelaw26.RecordsFits", spec := "recordsFits", inPlace := ["internal/abi.NoEscape"], apart := false, narrowed := true }
def RecordsFitsUptoSaid : Prop := recordsFitsUptoRow.holds Try.pinned (OpenSpec.upto recordsFitsSpec)

/-- 'midrangelaw26.RecordsReverse', WHERE WHAT IT READS IS OF BULK AT MOST 1048576: true; the input reads as it did. -/
def recordsReverseUptoRow : OpenClaim := { program := "ytnfmilnlekmjgaa", sum := "4f52a6e3060506cd8cd6c669d171eea31a6197e681cc312dead0bf4563f252b5", func := "midrange/midrangelaw26.RecordsReverse", spec := "recordsReverse", inPlace := ["internal/abi.NoEscape"], apart := false, narrowed := true }
def RecordsReverseUptoSaid : Prop := recordsReverseUptoRow.holds Try.pinned (OpenSpec.upto recordsReverseSpec)

/-- 'midrangelaw26.RecordsSteps', WHERE WHAT IT READS IS OF BULK AT MOST 1048576: true; the input reads as it did. -/
def recordsStepsUptoRow : OpenClaim := { program := "ytnfmilnlekmjgaa", sum := "4f52a6e3060506cd8cd6c669d171eea31a6197e681cc312dead0bf4563f252b5", func := "midrange/midrangelaw26.RecordsSteps", spec := "recordsSteps", inPlace := ["internal/abi.NoEscape"], apart := false, narrowed := true }
def RecordsStepsUptoSaid : Prop := recordsStepsUptoRow.holds Try.pinned (OpenSpec.upto recordsStepsSpec)

/-- 'midrangelaw26.RecordsMakes', WHERE WHAT IT READS IS OF BULK AT MOST 1048576: true; the input reads as it did. -/
def recordsMakesUptoRow : OpenClaim := { program := "ytnfmilnlekmjgaa", sum := "4f52a6e3060506cd8cd6c669d171eea31a6197e681cc312dead0bf4563f252b5", func := "midrange/midrangelaw26.RecordsMakes", spec := "recordsMakes", inPlace := ["internal/abi.NoEscape", "internal/bytealg.MakeNoZero"], apart := false, narrowed := true }
def RecordsMakesUptoSaid : Prop := recordsMakesUptoRow.holds Try.pinned (OpenSpec.upto recordsMakesSpec)

end Rows
end Go.Proofs.Ytnfmilnlekmjgaa
