/-
  No cell of these rows narrows 'for every input' (looked for: loops, veiled, ifaces, maps, wideKeys, modest, calm, conditions, laid).
  DERIVED. THE GIVEN ROWS OF THIS SEAT. 12 by the template 'for every input the law returns true; each argument reads behind the call as it read before'; 0 by the template 'total and deterministic' (their statements: YtjipebedibjoiaaTotals.lean).
  GIVEN WITH THE SEED: the statements are not yours to turn. If you find one false, say at which input.
  Laid BY PROGRAM, IN A SANDBOX (cutbox-rows.mjs): the forced cells as the released guide's own fill.sh prints them over the translation 971f1dd1fa152298… (all of the seat's roots in one cut). By AI agents, Wed Nov 11 2026. No macro, syntax, notation, axiom, sorry.
-/
import Derived.Test.YtjipebedibjoiaaChecked
import GoSem.Claim
import GoSem.ClaimJoined
import GoSem.ClaimMapViews
import Derived.JoinedTies
import Derived.KernelRfl
namespace Go.Proofs.Ytjipebedibjoiaa
/- THE CELL 'sum', in the pinned program and in every row, IS THE sha256 OF THE DUMP (.gsa) THAT YtjipebedibjoiaaProg.lean LOADS. Nothing in Lean hashes anything: it is a label: what it is worth is what the hold of that sum in a sandbox is worth. -/
noncomputable def Try.pinned : Pinned := { name := "ytjipebedibjoiaa", sum := "971f1dd1fa152298430b1bed2212f6cca67c26e932c6e83bb5535bd3c2a4dfb9", checked := Try.checked }
namespace Rows
def none {H : Type} : Left H := { results := [], args := [] }

/-- 'chroniclelaw4.RecordCompacts': WHATEVER THE INPUT: true; the input reads as it did. -/
def recordCompactsSpec : ChangeSpec := { name := "recordCompacts", fn := fun _ => fun
  | [d1, d2, d3] => { results := [.lit (.bool true)], args := [d1, d2, d3] }
  | _ => none }
def recordCompactsRow : OpenClaim := { program := "ytjipebedibjoiaa", sum := "971f1dd1fa152298430b1bed2212f6cca67c26e932c6e83bb5535bd3c2a4dfb9", func := "chronicle/chroniclelaw4.RecordCompacts", spec := "recordCompacts", apart := false }
def RecordCompactsSaid : Prop := recordCompactsRow.holds Try.pinned (OpenSpec.ofChange recordCompactsSpec)

/-- ITS FALSE NEIGHBOUR: 'it returns false'. Refute it at one input. -/
def recordCompactsWrong : ChangeSpec := { name := "recordCompacts", fn := fun _ => fun
  | [d1, d2, d3] => { results := [.lit (.bool false)], args := [d1, d2, d3] }
  | _ => none }
def RecordCompactsWrongFalsely : Prop := recordCompactsRow.holds Try.pinned (OpenSpec.ofChange recordCompactsWrong)

/-- 'chroniclelaw4.RecordEncodes': WHATEVER THE INPUT: true; the input reads as it did. -/
def recordEncodesSpec : ChangeSpec := { name := "recordEncodes", fn := fun _ => fun
  | [d] => { results := [.lit (.bool true)], args := [d] }
  | _ => none }
def recordEncodesRow : OpenClaim := { program := "ytjipebedibjoiaa", sum := "971f1dd1fa152298430b1bed2212f6cca67c26e932c6e83bb5535bd3c2a4dfb9", func := "chronicle/chroniclelaw4.RecordEncodes", spec := "recordEncodes", apart := false }
def RecordEncodesSaid : Prop := recordEncodesRow.holds Try.pinned (OpenSpec.ofChange recordEncodesSpec)

/-- ITS FALSE NEIGHBOUR: 'it returns false'. Refute it at one input. -/
def recordEncodesWrong : ChangeSpec := { name := "recordEncodes", fn := fun _ => fun
  | [d] => { results := [.lit (.bool false)], args := [d] }
  | _ => none }
def RecordEncodesWrongFalsely : Prop := recordEncodesRow.holds Try.pinned (OpenSpec.ofChange recordEncodesWrong)

/-- 'chroniclelaw4.RecordDecodes': WHATEVER THE INPUT: true; the input reads as it did. -/
def recordDecodesSpec : ChangeSpec := { name := "recordDecodes", fn := fun _ => fun
  | [d] => { results := [.lit (.bool true)], args := [d] }
  | _ => none }
def recordDecodesRow : OpenClaim := { program := "ytjipebedibjoiaa", sum := "971f1dd1fa152298430b1bed2212f6cca67c26e932c6e83bb5535bd3c2a4dfb9", func := "chronicle/chroniclelaw4.RecordDecodes", spec := "recordDecodes", apart := false }
def RecordDecodesSaid : Prop := recordDecodesRow.holds Try.pinned (OpenSpec.ofChange recordDecodesSpec)

/-- ITS FALSE NEIGHBOUR: 'it returns false'. Refute it at one input. -/
def recordDecodesWrong : ChangeSpec := { name := "recordDecodes", fn := fun _ => fun
  | [d] => { results := [.lit (.bool false)], args := [d] }
  | _ => none }
def RecordDecodesWrongFalsely : Prop := recordDecodesRow.holds Try.pinned (OpenSpec.ofChange recordDecodesWrong)

/-- 'chroniclelaw4.RecordSalvages': WHATEVER THE INPUT: true; the input reads as it did. -/
def recordSalvagesSpec : ChangeSpec := { name := "recordSalvages", fn := fun _ => fun
  | [d] => { results := [.lit (.bool true)], args := [d] }
  | _ => none }
def recordSalvagesRow : OpenClaim := { program := "ytjipebedibjoiaa", sum := "971f1dd1fa152298430b1bed2212f6cca67c26e932c6e83bb5535bd3c2a4dfb9", func := "chronicle/chroniclelaw4.RecordSalvages", spec := "recordSalvages", apart := false }
def RecordSalvagesSaid : Prop := recordSalvagesRow.holds Try.pinned (OpenSpec.ofChange recordSalvagesSpec)

/-- ITS FALSE NEIGHBOUR: 'it returns false'. Refute it at one input. -/
def recordSalvagesWrong : ChangeSpec := { name := "recordSalvages", fn := fun _ => fun
  | [d] => { results := [.lit (.bool false)], args := [d] }
  | _ => none }
def RecordSalvagesWrongFalsely : Prop := recordSalvagesRow.holds Try.pinned (OpenSpec.ofChange recordSalvagesWrong)

/-- 'chroniclelaw4.RecordScans': WHATEVER THE INPUT: true; the input reads as it did. -/
def recordScansSpec : ChangeSpec := { name := "recordScans", fn := fun _ => fun
  | [d] => { results := [.lit (.bool true)], args := [d] }
  | _ => none }
def recordScansRow : OpenClaim := { program := "ytjipebedibjoiaa", sum := "971f1dd1fa152298430b1bed2212f6cca67c26e932c6e83bb5535bd3c2a4dfb9", func := "chronicle/chroniclelaw4.RecordScans", spec := "recordScans", apart := false }
def RecordScansSaid : Prop := recordScansRow.holds Try.pinned (OpenSpec.ofChange recordScansSpec)

/-- ITS FALSE NEIGHBOUR: 'it returns false'. Refute it at one input. -/
def recordScansWrong : ChangeSpec := { name := "recordScans", fn := fun _ => fun
  | [d] => { results := [.lit (.bool false)], args := [d] }
  | _ => none }
def RecordScansWrongFalsely : Prop := recordScansRow.holds Try.pinned (OpenSpec.ofChange recordScansWrong)

/-- 'chroniclelaw4.RecordFolds': WHATEVER THE INPUT: true; the input reads as it did. -/
def recordFoldsSpec : ChangeSpec := { name := "recordFolds", fn := fun _ => fun
  | [d] => { results := [.lit (.bool true)], args := [d] }
  | _ => none }
def recordFoldsRow : OpenClaim := { program := "ytjipebedibjoiaa", sum := "971f1dd1fa152298430b1bed2212f6cca67c26e932c6e83bb5535bd3c2a4dfb9", func := "chronicle/chroniclelaw4.RecordFolds", spec := "recordFolds", inPlace := ["internal/reflectlite.ValueOf", "internal/reflectlite.Swapper", "(internal/reflectlite.Value).Len"], unfollowed := true, recurses := true, apart := false }
def RecordFoldsSaid : Prop := recordFoldsRow.holds Try.pinned (OpenSpec.ofChange recordFoldsSpec)

/-- ITS FALSE NEIGHBOUR: 'it returns false'. Refute it at one input. -/
def recordFoldsWrong : ChangeSpec := { name := "recordFolds", fn := fun _ => fun
  | [d] => { results := [.lit (.bool false)], args := [d] }
  | _ => none }
def RecordFoldsWrongFalsely : Prop := recordFoldsRow.holds Try.pinned (OpenSpec.ofChange recordFoldsWrong)

/-- 'chroniclelaw4.RecordDamage': WHATEVER THE INPUT: true; the input reads as it did. -/
def recordDamageSpec : ChangeSpec := { name := "recordDamage", fn := fun _ => fun
  | [d1, d2, d3] => { results := [.lit (.bool true)], args := [d1, d2, d3] }
  | _ => none }
def recordDamageRow : OpenClaim := { program := "ytjipebedibjoiaa", sum := "971f1dd1fa152298430b1bed2212f6cca67c26e932c6e83bb5535bd3c2a4dfb9", func := "chronicle/chroniclelaw4.RecordDamage", spec := "recordDamage", apart := false }
def RecordDamageSaid : Prop := recordDamageRow.holds Try.pinned (OpenSpec.ofChange recordDamageSpec)

/-- ITS FALSE NEIGHBOUR: 'it returns false'. Refute it at one input. -/
def recordDamageWrong : ChangeSpec := { name := "recordDamage", fn := fun _ => fun
  | [d1, d2, d3] => { results := [.lit (.bool false)], args := [d1, d2, d3] }
  | _ => none }
def RecordDamageWrongFalsely : Prop := recordDamageRow.holds Try.pinned (OpenSpec.ofChange recordDamageWrong)

/-- 'chroniclelaw4.RecordRound': WHATEVER THE INPUT: true; the input reads as it did. -/
def recordRoundSpec : ChangeSpec := { name := "recordRound", fn := fun _ => fun
  | [d1, d2, d3] => { results := [.lit (.bool true)], args := [d1, d2, d3] }
  | _ => none }
def recordRoundRow : OpenClaim := { program := "ytjipebedibjoiaa", sum := "971f1dd1fa152298430b1bed2212f6cca67c26e932c6e83bb5535bd3c2a4dfb9", func := "chronicle/chroniclelaw4.RecordRound", spec := "recordRound", apart := false }
def RecordRoundSaid : Prop := recordRoundRow.holds Try.pinned (OpenSpec.ofChange recordRoundSpec)

/-- ITS FALSE NEIGHBOUR: 'it returns false'. Refute it at one input. -/
def recordRoundWrong : ChangeSpec := { name := "recordRound", fn := fun _ => fun
  | [d1, d2, d3] => { results := [.lit (.bool false)], args := [d1, d2, d3] }
  | _ => none }
def RecordRoundWrongFalsely : Prop := recordRoundRow.holds Try.pinned (OpenSpec.ofChange recordRoundWrong)

/-- 'chroniclelaw4.RecordFinds': WHATEVER THE INPUT: true; the input reads as it did. -/
def recordFindsSpec : ChangeSpec := { name := "recordFinds", fn := fun _ => fun
  | [d1, d2] => { results := [.lit (.bool true)], args := [d1, d2] }
  | _ => none }
def recordFindsRow : OpenClaim := { program := "ytjipebedibjoiaa", sum := "971f1dd1fa152298430b1bed2212f6cca67c26e932c6e83bb5535bd3c2a4dfb9", func := "chronicle/chroniclelaw4.RecordFinds", spec := "recordFinds", apart := false }
def RecordFindsSaid : Prop := recordFindsRow.holds Try.pinned (OpenSpec.ofChange recordFindsSpec)

/-- ITS FALSE NEIGHBOUR: 'it returns false'. Refute it at one input. -/
def recordFindsWrong : ChangeSpec := { name := "recordFinds", fn := fun _ => fun
  | [d1, d2] => { results := [.lit (.bool false)], args := [d1, d2] }
  | _ => none }
def RecordFindsWrongFalsely : Prop := recordFindsRow.holds Try.pinned (OpenSpec.ofChange recordFindsWrong)

/-- 'chroniclelaw4.RecordCut': WHATEVER THE INPUT: true; the input reads as it did. -/
def recordCutSpec : ChangeSpec := { name := "recordCut", fn := fun _ => fun
  | [d1, d2] => { results := [.lit (.bool true)], args := [d1, d2] }
  | _ => none }
def recordCutRow : OpenClaim := { program := "ytjipebedibjoiaa", sum := "971f1dd1fa152298430b1bed2212f6cca67c26e932c6e83bb5535bd3c2a4dfb9", func := "chronicle/chroniclelaw4.RecordCut", spec := "recordCut", apart := false }
def RecordCutSaid : Prop := recordCutRow.holds Try.pinned (OpenSpec.ofChange recordCutSpec)

/-- ITS FALSE NEIGHBOUR: 'it returns false'. Refute it at one input. -/
def recordCutWrong : ChangeSpec := { name := "recordCut", fn := fun _ => fun
  | [d1, d2] => { results := [.lit (.bool false)], args := [d1, d2] }
  | _ => none }
def RecordCutWrongFalsely : Prop := recordCutRow.holds Try.pinned (OpenSpec.ofChange recordCutWrong)

/-- 'chroniclelaw4.RecordKeeps': WHATEVER THE INPUT: true; the input reads as it did. -/
def recordKeepsSpec : ChangeSpec := { name := "recordKeeps", fn := fun _ => fun
  | [d1, d2, d3] => { results := [.lit (.bool true)], args := [d1, d2, d3] }
  | _ => none }
def recordKeepsRow : OpenClaim := { program := "ytjipebedibjoiaa", sum := "971f1dd1fa152298430b1bed2212f6cca67c26e932c6e83bb5535bd3c2a4dfb9", func := "chronicle/chroniclelaw4.RecordKeeps", spec := "recordKeeps", inPlace := ["internal/reflectlite.ValueOf", "internal/reflectlite.Swapper", "(internal/reflectlite.Value).Len"], unfollowed := true, recurses := true, apart := false }
def RecordKeepsSaid : Prop := recordKeepsRow.holds Try.pinned (OpenSpec.ofChange recordKeepsSpec)

/-- ITS FALSE NEIGHBOUR: 'it returns false'. Refute it at one input. -/
def recordKeepsWrong : ChangeSpec := { name := "recordKeeps", fn := fun _ => fun
  | [d1, d2, d3] => { results := [.lit (.bool false)], args := [d1, d2, d3] }
  | _ => none }
def RecordKeepsWrongFalsely : Prop := recordKeepsRow.holds Try.pinned (OpenSpec.ofChange recordKeepsWrong)

/-- 'chroniclelaw4.RecordSteps': WHATEVER THE INPUT: true; the input reads as it did. -/
def recordStepsSpec : ChangeSpec := { name := "recordSteps", fn := fun _ => fun
  | [d1, d2, d3, d4, d5] => { results := [.lit (.bool true)], args := [d1, d2, d3, d4, d5] }
  | _ => none }
def recordStepsRow : OpenClaim := { program := "ytjipebedibjoiaa", sum := "971f1dd1fa152298430b1bed2212f6cca67c26e932c6e83bb5535bd3c2a4dfb9", func := "chronicle/chroniclelaw4.RecordSteps", spec := "recordSteps", inPlace := ["internal/reflectlite.ValueOf", "internal/reflectlite.Swapper", "(internal/reflectlite.Value).Len"], unfollowed := true, recurses := true, apart := false }
def RecordStepsSaid : Prop := recordStepsRow.holds Try.pinned (OpenSpec.ofChange recordStepsSpec)

/-- ITS FALSE NEIGHBOUR: 'it returns false'. Refute it at one input. -/
def recordStepsWrong : ChangeSpec := { name := "recordSteps", fn := fun _ => fun
  | [d1, d2, d3, d4, d5] => { results := [.lit (.bool false)], args := [d1, d2, d3, d4, d5] }
  | _ => none }
def RecordStepsWrongFalsely : Prop := recordStepsRow.holds Try.pinned (OpenSpec.ofChange recordStepsWrong)

/- THE SECOND FORM. 'bulk': how many values and letters a reading holds, each counted each time it is reached (what is shared counts as often as it is met; a slice's spare places count too). A statement '..UptoSaid' is the law's where the arguments, and the package variables that the reading takes, are together of bulk at most 1048576: NARROWER than '..Said'. Prove '..Said' where nothing that the law and all that it calls make is longer than what came in: it says more and counts as full. Else prove '..UptoSaid'. A law counts once. -/
mutual
def uptoBulk {H : Type} : DataW H → Nat
  | .lit (.string bytes) => bytes.length + 1
  | .lit _ => 1
  | .nil => 1
  | .ptr d => uptoBulk d + 1
  | .slice elems spare => uptoBulkAll elems + uptoBulkAll spare + 1
  | .agg parts => uptoBulkAll parts + 1
  | .iface _ d => uptoBulk d + 1
  | .map entries => uptoBulkEntries entries + 1
  | .held _ => 1
def uptoBulkAll {H : Type} : List (DataW H) → Nat
  | [] => 0
  | d :: r => uptoBulk d + uptoBulkAll r
def uptoBulkEntries {H : Type} : List (Lit × DataW H) → Nat
  | [] => 0
  | x :: r => uptoBulkEntry x + uptoBulkEntries r
def uptoBulkEntry {H : Type} : Lit × DataW H → Nat
  | (.string bytes, d) => bytes.length + uptoBulk d + 1
  | (_, d) => uptoBulk d + 1
 end
def uptoSmall : (H : Type) → List (DataW H) → Bool := fun _ ds => decide (uptoBulkAll ds ≤ 1048576)
def OpenSpec.upto (s : _root_.Go.ChangeSpec) : _root_.Go.OpenSpec := { _root_.Go.OpenSpec.ofChange s with cond := some uptoSmall }

/-- 'chroniclelaw4.RecordCompacts', WHERE WHAT IT READS IS OF BULK AT MOST 1048576: true; the input reads as it did. -/
def recordCompactsUptoRow : OpenClaim := { program := "ytjipebedibjoiaa", sum := "971f1dd1fa152298430b1bed2212f6cca67c26e932c6e83bb5535bd3c2a4dfb9", func := "chronicle/chroniclelaw4.RecordCompacts", spec := "recordCompacts", apart := false, narrowed := true }
def RecordCompactsUptoSaid : Prop := recordCompactsUptoRow.holds Try.pinned (OpenSpec.upto recordCompactsSpec)

/-- 'chroniclelaw4.RecordEncodes', WHERE WHAT IT READS IS OF BULK AT MOST 1048576: true; the input reads as it did. -/
def recordEncodesUptoRow : OpenClaim := { program := "ytjipebedibjoiaa", sum := "971f1dd1fa152298430b1bed2212f6cca67c26e932c6e83bb5535bd3c2a4dfb9", func := "chronicle/chroniclelaw4.RecordEncodes", spec := "recordEncodes", apart := false, narrowed := true }
def RecordEncodesUptoSaid : Prop := recordEncodesUptoRow.holds Try.pinned (OpenSpec.upto recordEncodesSpec)

/-- 'chroniclelaw4.RecordDecodes', WHERE WHAT IT READS IS OF BULK AT MOST 1048576: true; the input reads as it did. -/
def recordDecodesUptoRow : OpenClaim := { program := "ytjipebedibjoiaa", sum := "971f1dd1fa152298430b1bed2212f6cca67c26e932c6e83bb5535bd3c2a4dfb9", func := "chronicle/chroniclelaw4.RecordDecodes", spec := "recordDecodes", apart := false, narrowed := true }
def RecordDecodesUptoSaid : Prop := recordDecodesUptoRow.holds Try.pinned (OpenSpec.upto recordDecodesSpec)

/-- 'chroniclelaw4.RecordSalvages', WHERE WHAT IT READS IS OF BULK AT MOST 1048576: true; the input reads as it did. -/
def recordSalvagesUptoRow : OpenClaim := { program := "ytjipebedibjoiaa", sum := "971f1dd1fa152298430b1bed2212f6cca67c26e932c6e83bb5535bd3c2a4dfb9", func := "chronicle/chroniclelaw4.RecordSalvages", spec := "recordSalvages", apart := false, narrowed := true }
def RecordSalvagesUptoSaid : Prop := recordSalvagesUptoRow.holds Try.pinned (OpenSpec.upto recordSalvagesSpec)

/-- 'chroniclelaw4.RecordScans', WHERE WHAT IT READS IS OF BULK AT MOST 1048576: true; the input reads as it did. -/
def recordScansUptoRow : OpenClaim := { program := "ytjipebedibjoiaa", sum := "971f1dd1fa152298430b1bed2212f6cca67c26e932c6e83bb5535bd3c2a4dfb9", func := "chronicle/chroniclelaw4.RecordScans", spec := "recordScans", apart := false, narrowed := true }
def RecordScansUptoSaid : Prop := recordScansUptoRow.holds Try.pinned (OpenSpec.upto recordScansSpec)

/-- 'chroniclelaw4.RecordFolds', WHERE WHAT IT READS IS OF BULK AT MOST 1048576: true; the input reads as it did. -/
def recordFoldsUptoRow : OpenClaim := { program := "ytjipebedibjoiaa", sum := "971f1dd1fa152298430b1bed2212f6cca67c26e932c6e83bb5535bd3c2a4dfb9", func := "chronicle/chroniclelaw4.RecordFolds", spec := "recordFolds", inPlace := ["internal/reflectlite.ValueOf", "internal/reflectlite.Swapper", "(internal/reflectlite.Value).Len"], unfollowed := true, recurses := true, apart := false, narrowed := true }
def RecordFoldsUptoSaid : Prop := recordFoldsUptoRow.holds Try.pinned (OpenSpec.upto recordFoldsSpec)

/-- 'chroniclelaw4.RecordDamage', WHERE WHAT IT READS IS OF BULK AT MOST 1048576: true; the input reads as it did. -/
def recordDamageUptoRow : OpenClaim := { program := "ytjipebedibjoiaa", sum := "971f1dd1fa152298430b1bed2212f6cca67c26e932c6e83bb5535bd3c2a4dfb9", func := "chronicle/chroniclelaw4.RecordDamage", spec := "recordDamage", apart := false, narrowed := true }
def RecordDamageUptoSaid : Prop := recordDamageUptoRow.holds Try.pinned (OpenSpec.upto recordDamageSpec)

/-- 'chroniclelaw4.RecordRound', WHERE WHAT IT READS IS OF BULK AT MOST 1048576: true; the input reads as it did. -/
def recordRoundUptoRow : OpenClaim := { program := "ytjipebedibjoiaa", sum := "971f1dd1fa152298430b1bed2212f6cca67c26e932c6e83bb5535bd3c2a4dfb9", func := "chronicle/chroniclelaw4.RecordRound", spec := "recordRound", apart := false, narrowed := true }
def RecordRoundUptoSaid : Prop := recordRoundUptoRow.holds Try.pinned (OpenSpec.upto recordRoundSpec)

/-- 'chroniclelaw4.RecordFinds', WHERE WHAT IT READS IS OF BULK AT MOST 1048576: true; the input reads as it did. -/
def recordFindsUptoRow : OpenClaim := { program := "ytjipebedibjoiaa", sum := "971f1dd1fa152298430b1bed2212f6cca67c26e932c6e83bb5535bd3c2a4dfb9", func := "chronicle/chroniclelaw4.RecordFinds", spec := "recordFinds", apart := false, narrowed := true }
def RecordFindsUptoSaid : Prop := recordFindsUptoRow.holds Try.pinned (OpenSpec.upto recordFindsSpec)

/-- 'chroniclelaw4.RecordCut', WHERE WHAT IT READS IS OF BULK AT MOST 1048576: true; the input reads as it did. -/
def recordCutUptoRow : OpenClaim := { program := "ytjipebedibjoiaa", sum := "971f1dd1fa152298430b1bed2212f6cca67c26e932c6e83bb5535bd3c2a4dfb9", func := "chronicle/chroniclelaw4.RecordCut", spec := "recordCut", apart := false, narrowed := true }
def RecordCutUptoSaid : Prop := recordCutUptoRow.holds Try.pinned (OpenSpec.upto recordCutSpec)

/-- 'chroniclelaw4.RecordKeeps', WHERE WHAT IT READS IS OF BULK AT MOST 1048576: true; the input reads as it did. -/
def recordKeepsUptoRow : OpenClaim := { program := "ytjipebedibjoiaa", sum := "971f1dd1fa152298430b1bed2212f6cca67c26e932c6e83bb5535bd3c2a4dfb9", func := "chronicle/chroniclelaw4.RecordKeeps", spec := "recordKeeps", inPlace := ["internal/reflectlite.ValueOf", "internal/reflectlite.Swapper", "(internal/reflectlite.Value).Len"], unfollowed := true, recurses := true, apart := false, narrowed := true }
def RecordKeepsUptoSaid : Prop := recordKeepsUptoRow.holds Try.pinned (OpenSpec.upto recordKeepsSpec)

/-- 'chroniclelaw4.RecordSteps', WHERE WHAT IT READS IS OF BULK AT MOST 1048576: true; the input reads as it did. -/
def recordStepsUptoRow : OpenClaim := { program := "ytjipebedibjoiaa", sum := "971f1dd1fa152298430b1bed2212f6cca67c26e932c6e83bb5535bd3c2a4dfb9", func := "chronicle/chroniclelaw4.RecordSteps", spec := "recordSteps", inPlace := ["internal/reflectlite.ValueOf", "internal/reflectlite.Swapper", "(internal/reflectlite.Value).Len"], unfollowed := true, recurses := true, apart := false, narrowed := true }
def RecordStepsUptoSaid : Prop := recordStepsUptoRow.holds Try.pinned (OpenSpec.upto recordStepsSpec)

end Rows
end Go.Proofs.Ytjipebedibjoiaa
