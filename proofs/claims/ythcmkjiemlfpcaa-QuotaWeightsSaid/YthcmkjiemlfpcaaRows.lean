/-
  No cell of these rows narrows 'for every input' (looked for: loops, veiled, ifaces, maps, wideKeys, modest, calm, conditions, laid).
  DERIVED. THE GIVEN ROWS OF THIS SEAT. 10 by the template 'for every input the law returns true; each argument reads behind the call as it read before'; 0 by the template 'total and deterministic' (their statements: YthcmkjiemlfpcaaTotals.lean).
  GIVEN WITH THE SEED: the statements are not yours to turn. If you find one false, say at which input.
  Laid BY PROGRAM, IN A SANDBOX (cutbox-rows.mjs): the forced cells as the released guide's own fill.sh prints them over the translation 931fa8ef1c1334fe… (all of the seat's roots in one cut). By AI agents, Wed Nov 11 2026. No macro, syntax, notation, axiom, sorry.
-/
import Derived.Test.YthcmkjiemlfpcaaChecked
import GoSem.Claim
import GoSem.ClaimJoined
import GoSem.ClaimMapViews
import Derived.JoinedTies
import Derived.KernelRfl
namespace Go.Proofs.Ythcmkjiemlfpcaa
/- THE CELL 'sum', in the pinned program and in every row, IS THE sha256 OF THE DUMP (.gsa) THAT YthcmkjiemlfpcaaProg.lean LOADS. Nothing in Lean hashes anything: it is a label: what it is worth is what the hold of that sum in a sandbox is worth. -/
noncomputable def Try.pinned : Pinned := { name := "ythcmkjiemlfpcaa", sum := "931fa8ef1c1334feab5d0ffa26a3f2f7f7446671ba8f921d5a93a1578bc1c241", checked := Try.checked }
namespace Rows
def none {H : Type} : Left H := { results := [], args := [] }

/-- 'chroniclelaw13.QuotaNew': WHATEVER THE INPUT: true; the input reads as it did. -/
def quotaNewSpec : ChangeSpec := { name := "quotaNew", fn := fun _ => fun
  | [d1, d2, d3, d4, d5] => { results := [.lit (.bool true)], args := [d1, d2, d3, d4, d5] }
  | _ => none }
def quotaNewRow : OpenClaim := { program := "ythcmkjiemlfpcaa", sum := "931fa8ef1c1334feab5d0ffa26a3f2f7f7446671ba8f921d5a93a1578bc1c241", func := "chronicle/chroniclelaw13.QuotaNew", spec := "quotaNew", apart := false }
def QuotaNewSaid : Prop := quotaNewRow.holds Try.pinned (OpenSpec.ofChange quotaNewSpec)

/-- ITS FALSE NEIGHBOUR: 'it returns false'. Refute it at one input. -/
def quotaNewWrong : ChangeSpec := { name := "quotaNew", fn := fun _ => fun
  | [d1, d2, d3, d4, d5] => { results := [.lit (.bool false)], args := [d1, d2, d3, d4, d5] }
  | _ => none }
def QuotaNewWrongFalsely : Prop := quotaNewRow.holds Try.pinned (OpenSpec.ofChange quotaNewWrong)

/-- 'chroniclelaw13.QuotaFill': WHATEVER THE INPUT: true; the input reads as it did. -/
def quotaFillSpec : ChangeSpec := { name := "quotaFill", fn := fun _ => fun
  | [d1, d2] => { results := [.lit (.bool true)], args := [d1, d2] }
  | _ => none }
def quotaFillRow : OpenClaim := { program := "ythcmkjiemlfpcaa", sum := "931fa8ef1c1334feab5d0ffa26a3f2f7f7446671ba8f921d5a93a1578bc1c241", func := "chronicle/chroniclelaw13.QuotaFill", spec := "quotaFill", apart := false }
def QuotaFillSaid : Prop := quotaFillRow.holds Try.pinned (OpenSpec.ofChange quotaFillSpec)

/-- ITS FALSE NEIGHBOUR: 'it returns false'. Refute it at one input. -/
def quotaFillWrong : ChangeSpec := { name := "quotaFill", fn := fun _ => fun
  | [d1, d2] => { results := [.lit (.bool false)], args := [d1, d2] }
  | _ => none }
def QuotaFillWrongFalsely : Prop := quotaFillRow.holds Try.pinned (OpenSpec.ofChange quotaFillWrong)

/-- 'chroniclelaw13.QuotaTake': WHATEVER THE INPUT: true; the input reads as it did. -/
def quotaTakeSpec : ChangeSpec := { name := "quotaTake", fn := fun _ => fun
  | [d1, d2, d3] => { results := [.lit (.bool true)], args := [d1, d2, d3] }
  | _ => none }
def quotaTakeRow : OpenClaim := { program := "ythcmkjiemlfpcaa", sum := "931fa8ef1c1334feab5d0ffa26a3f2f7f7446671ba8f921d5a93a1578bc1c241", func := "chronicle/chroniclelaw13.QuotaTake", spec := "quotaTake", apart := false }
def QuotaTakeSaid : Prop := quotaTakeRow.holds Try.pinned (OpenSpec.ofChange quotaTakeSpec)

/-- ITS FALSE NEIGHBOUR: 'it returns false'. Refute it at one input. -/
def quotaTakeWrong : ChangeSpec := { name := "quotaTake", fn := fun _ => fun
  | [d1, d2, d3] => { results := [.lit (.bool false)], args := [d1, d2, d3] }
  | _ => none }
def QuotaTakeWrongFalsely : Prop := quotaTakeRow.holds Try.pinned (OpenSpec.ofChange quotaTakeWrong)

/-- 'chroniclelaw13.QuotaBound': WHATEVER THE INPUT: true; the input reads as it did. -/
def quotaBoundSpec : ChangeSpec := { name := "quotaBound", fn := fun _ => fun
  | [d1, d2, d3, d4, d5] => { results := [.lit (.bool true)], args := [d1, d2, d3, d4, d5] }
  | _ => none }
def quotaBoundRow : OpenClaim := { program := "ythcmkjiemlfpcaa", sum := "931fa8ef1c1334feab5d0ffa26a3f2f7f7446671ba8f921d5a93a1578bc1c241", func := "chronicle/chroniclelaw13.QuotaBound", spec := "quotaBound", apart := false }
def QuotaBoundSaid : Prop := quotaBoundRow.holds Try.pinned (OpenSpec.ofChange quotaBoundSpec)

/-- ITS FALSE NEIGHBOUR: 'it returns false'. Refute it at one input. -/
def quotaBoundWrong : ChangeSpec := { name := "quotaBound", fn := fun _ => fun
  | [d1, d2, d3, d4, d5] => { results := [.lit (.bool false)], args := [d1, d2, d3, d4, d5] }
  | _ => none }
def QuotaBoundWrongFalsely : Prop := quotaBoundRow.holds Try.pinned (OpenSpec.ofChange quotaBoundWrong)

/-- 'chroniclelaw13.QuotaSteps': WHATEVER THE INPUT: true; the input reads as it did. -/
def quotaStepsSpec : ChangeSpec := { name := "quotaSteps", fn := fun _ => fun
  | [d1, d2, d3] => { results := [.lit (.bool true)], args := [d1, d2, d3] }
  | _ => none }
def quotaStepsRow : OpenClaim := { program := "ythcmkjiemlfpcaa", sum := "931fa8ef1c1334feab5d0ffa26a3f2f7f7446671ba8f921d5a93a1578bc1c241", func := "chronicle/chroniclelaw13.QuotaSteps", spec := "quotaSteps", apart := false }
def QuotaStepsSaid : Prop := quotaStepsRow.holds Try.pinned (OpenSpec.ofChange quotaStepsSpec)

/-- ITS FALSE NEIGHBOUR: 'it returns false'. Refute it at one input. -/
def quotaStepsWrong : ChangeSpec := { name := "quotaSteps", fn := fun _ => fun
  | [d1, d2, d3] => { results := [.lit (.bool false)], args := [d1, d2, d3] }
  | _ => none }
def QuotaStepsWrongFalsely : Prop := quotaStepsRow.holds Try.pinned (OpenSpec.ofChange quotaStepsWrong)

/-- 'chroniclelaw13.QuotaWait': WHATEVER THE INPUT: true; the input reads as it did. -/
def quotaWaitSpec : ChangeSpec := { name := "quotaWait", fn := fun _ => fun
  | [d1, d2, d3] => { results := [.lit (.bool true)], args := [d1, d2, d3] }
  | _ => none }
def quotaWaitRow : OpenClaim := { program := "ythcmkjiemlfpcaa", sum := "931fa8ef1c1334feab5d0ffa26a3f2f7f7446671ba8f921d5a93a1578bc1c241", func := "chronicle/chroniclelaw13.QuotaWait", spec := "quotaWait", apart := false }
def QuotaWaitSaid : Prop := quotaWaitRow.holds Try.pinned (OpenSpec.ofChange quotaWaitSpec)

/-- ITS FALSE NEIGHBOUR: 'it returns false'. Refute it at one input. -/
def quotaWaitWrong : ChangeSpec := { name := "quotaWait", fn := fun _ => fun
  | [d1, d2, d3] => { results := [.lit (.bool false)], args := [d1, d2, d3] }
  | _ => none }
def QuotaWaitWrongFalsely : Prop := quotaWaitRow.holds Try.pinned (OpenSpec.ofChange quotaWaitWrong)

/-- 'chroniclelaw13.QuotaShares': WHATEVER THE INPUT: true; the input reads as it did. -/
def quotaSharesSpec : ChangeSpec := { name := "quotaShares", fn := fun _ => fun
  | [d1, d2] => { results := [.lit (.bool true)], args := [d1, d2] }
  | _ => none }
def quotaSharesRow : OpenClaim := { program := "ythcmkjiemlfpcaa", sum := "931fa8ef1c1334feab5d0ffa26a3f2f7f7446671ba8f921d5a93a1578bc1c241", func := "chronicle/chroniclelaw13.QuotaShares", spec := "quotaShares", unfollowed := true, recurses := true, apart := false }
def QuotaSharesSaid : Prop := quotaSharesRow.holds Try.pinned (OpenSpec.ofChange quotaSharesSpec)

/-- ITS FALSE NEIGHBOUR: 'it returns false'. Refute it at one input. -/
def quotaSharesWrong : ChangeSpec := { name := "quotaShares", fn := fun _ => fun
  | [d1, d2] => { results := [.lit (.bool false)], args := [d1, d2] }
  | _ => none }
def QuotaSharesWrongFalsely : Prop := quotaSharesRow.holds Try.pinned (OpenSpec.ofChange quotaSharesWrong)

/-- 'chroniclelaw13.QuotaFair': WHATEVER THE INPUT: true; the input reads as it did. -/
def quotaFairSpec : ChangeSpec := { name := "quotaFair", fn := fun _ => fun
  | [d1, d2] => { results := [.lit (.bool true)], args := [d1, d2] }
  | _ => none }
def quotaFairRow : OpenClaim := { program := "ythcmkjiemlfpcaa", sum := "931fa8ef1c1334feab5d0ffa26a3f2f7f7446671ba8f921d5a93a1578bc1c241", func := "chronicle/chroniclelaw13.QuotaFair", spec := "quotaFair", unfollowed := true, recurses := true, apart := false }
def QuotaFairSaid : Prop := quotaFairRow.holds Try.pinned (OpenSpec.ofChange quotaFairSpec)

/-- ITS FALSE NEIGHBOUR: 'it returns false'. Refute it at one input. -/
def quotaFairWrong : ChangeSpec := { name := "quotaFair", fn := fun _ => fun
  | [d1, d2] => { results := [.lit (.bool false)], args := [d1, d2] }
  | _ => none }
def QuotaFairWrongFalsely : Prop := quotaFairRow.holds Try.pinned (OpenSpec.ofChange quotaFairWrong)

/-- 'chroniclelaw13.QuotaSpread': WHATEVER THE INPUT: true; the input reads as it did. -/
def quotaSpreadSpec : ChangeSpec := { name := "quotaSpread", fn := fun _ => fun
  | [d1, d2] => { results := [.lit (.bool true)], args := [d1, d2] }
  | _ => none }
def quotaSpreadRow : OpenClaim := { program := "ythcmkjiemlfpcaa", sum := "931fa8ef1c1334feab5d0ffa26a3f2f7f7446671ba8f921d5a93a1578bc1c241", func := "chronicle/chroniclelaw13.QuotaSpread", spec := "quotaSpread", inPlace := ["internal/reflectlite.ValueOf", "internal/reflectlite.Swapper", "(internal/reflectlite.Value).Len"], unfollowed := true, recurses := true, apart := false }
def QuotaSpreadSaid : Prop := quotaSpreadRow.holds Try.pinned (OpenSpec.ofChange quotaSpreadSpec)

/-- ITS FALSE NEIGHBOUR: 'it returns false'. Refute it at one input. -/
def quotaSpreadWrong : ChangeSpec := { name := "quotaSpread", fn := fun _ => fun
  | [d1, d2] => { results := [.lit (.bool false)], args := [d1, d2] }
  | _ => none }
def QuotaSpreadWrongFalsely : Prop := quotaSpreadRow.holds Try.pinned (OpenSpec.ofChange quotaSpreadWrong)

/-- 'chroniclelaw13.QuotaWeights': WHATEVER THE INPUT: true; the input reads as it did. -/
def quotaWeightsSpec : ChangeSpec := { name := "quotaWeights", fn := fun _ => fun
  | [d1, d2] => { results := [.lit (.bool true)], args := [d1, d2] }
  | _ => none }
def quotaWeightsRow : OpenClaim := { program := "ythcmkjiemlfpcaa", sum := "931fa8ef1c1334feab5d0ffa26a3f2f7f7446671ba8f921d5a93a1578bc1c241", func := "chronicle/chroniclelaw13.QuotaWeights", spec := "quotaWeights", inPlace := ["internal/reflectlite.ValueOf", "internal/reflectlite.Swapper", "(internal/reflectlite.Value).Len"], unfollowed := true, recurses := true, apart := false }
def QuotaWeightsSaid : Prop := quotaWeightsRow.holds Try.pinned (OpenSpec.ofChange quotaWeightsSpec)

/-- ITS FALSE NEIGHBOUR: 'it returns false'. Refute it at one input. -/
def quotaWeightsWrong : ChangeSpec := { name := "quotaWeights", fn := fun _ => fun
  | [d1, d2] => { results := [.lit (.bool false)], args := [d1, d2] }
  | _ => none }
def QuotaWeightsWrongFalsely : Prop := quotaWeightsRow.holds Try.pinned (OpenSpec.ofChange quotaWeightsWrong)

/- THE SECOND FORM. 'bulk': how many values and letters a reading holds, each counted each time it is reached (what is shared counts as often as it is met; a slice's spare places count too). A statement '..UptoSaid' is the law's where the arguments, and the package variables that the reading takes, are together of bulk at most 1048576: NARROWER than '..Said'. Prove '..Said' where nothing that the law and all that it calls make is longer than what came in: it says more and counts as full. Else prove '..UptoSaid'. A law counts once. -/
mutual
def uptoBulk {H : Type} : DataW H → Nat
  | .lit (.string bytes) => bytes.length + 1
  | .lit _ => 1
  | .nil => 1
  | .ptr d => uptoBulk d + 1
  | .slice elems spare => uptoBulkAll elems + uptoBulkAll spare + 1
  | .agg parts => uptoBulkAll parts + 1
  | .iface _ d => uptoBulk d + 1
  | .map entries => uptoBulkEntries entries + 1
  | .held _ => 1
def uptoBulkAll {H : Type} : List (DataW H) → Nat
  | [] => 0
  | d :: r => uptoBulk d + uptoBulkAll r
def uptoBulkEntries {H : Type} : List (Lit × DataW H) → Nat
  | [] => 0
  | x :: r => uptoBulkEntry x + uptoBulkEntries r
def uptoBulkEntry {H : Type} : Lit × DataW H → Nat
  | (.string bytes, d) => bytes.length + uptoBulk d + 1
  | (_, d) => uptoBulk d + 1
 end
def uptoSmall : (H : Type) → List (DataW H) → Bool := fun _ ds => decide (uptoBulkAll ds ≤ 1048576)
def OpenSpec.upto (s : _root_.Go.ChangeSpec) : _root_.Go.OpenSpec := { _root_.Go.OpenSpec.ofChange s with cond := some uptoSmall }

/-- 'chroniclelaw13.QuotaNew', WHERE WHAT IT READS IS OF BULK AT MOST 1048576: true; the input reads as it did. -/
def quotaNewUptoRow : OpenClaim := { program := "ythcmkjiemlfpcaa", sum := "931fa8ef1c1334feab5d0ffa26a3f2f7f7446671ba8f921d5a93a1578bc1c241", func := "chronicle/chroniclelaw13.QuotaNew", spec := "quotaNew", apart := false, narrowed := true }
def QuotaNewUptoSaid : Prop := quotaNewUptoRow.holds Try.pinned (OpenSpec.upto quotaNewSpec)

/-- 'chroniclelaw13.QuotaFill', WHERE WHAT IT READS IS OF BULK AT MOST 1048576: true; the input reads as it did. -/
def quotaFillUptoRow : OpenClaim := { program := "ythcmkjiemlfpcaa", sum := "931fa8ef1c1334feab5d0ffa26a3f2f7f7446671ba8f921d5a93a1578bc1c241", func := "chronicle/chroniclelaw13.QuotaFill", spec := "quotaFill", apart := false, narrowed := true }
def QuotaFillUptoSaid : Prop := quotaFillUptoRow.holds Try.pinned (OpenSpec.upto quotaFillSpec)

/-- 'chroniclelaw13.QuotaTake', WHERE WHAT IT READS IS OF BULK AT MOST 1048576: true; the input reads as it did. -/
def quotaTakeUptoRow : OpenClaim := { program := "ythcmkjiemlfpcaa", sum := "931fa8ef1c1334feab5d0ffa26a3f2f7f7446671ba8f921d5a93a1578bc1c241", func := "chronicle/chroniclelaw13.QuotaTake", spec := "quotaTake", apart := false, narrowed := true }
def QuotaTakeUptoSaid : Prop := quotaTakeUptoRow.holds Try.pinned (OpenSpec.upto quotaTakeSpec)

/-- 'chroniclelaw13.QuotaBound', WHERE WHAT IT READS IS OF BULK AT MOST 1048576: true; the input reads as it did. -/
def quotaBoundUptoRow : OpenClaim := { program := "ythcmkjiemlfpcaa", sum := "931fa8ef1c1334feab5d0ffa26a3f2f7f7446671ba8f921d5a93a1578bc1c241", func := "chronicle/chroniclelaw13.QuotaBound", spec := "quotaBound", apart := false, narrowed := true }
def QuotaBoundUptoSaid : Prop := quotaBoundUptoRow.holds Try.pinned (OpenSpec.upto quotaBoundSpec)

/-- 'chroniclelaw13.QuotaSteps', WHERE WHAT IT READS IS OF BULK AT MOST 1048576: true; the input reads as it did. -/
def quotaStepsUptoRow : OpenClaim := { program := "ythcmkjiemlfpcaa", sum := "931fa8ef1c1334feab5d0ffa26a3f2f7f7446671ba8f921d5a93a1578bc1c241", func := "chronicle/chroniclelaw13.QuotaSteps", spec := "quotaSteps", apart := false, narrowed := true }
def QuotaStepsUptoSaid : Prop := quotaStepsUptoRow.holds Try.pinned (OpenSpec.upto quotaStepsSpec)

/-- 'chroniclelaw13.QuotaWait', WHERE WHAT IT READS IS OF BULK AT MOST 1048576: true; the input reads as it did. -/
def quotaWaitUptoRow : OpenClaim := { program := "ythcmkjiemlfpcaa", sum := "931fa8ef1c1334feab5d0ffa26a3f2f7f7446671ba8f921d5a93a1578bc1c241", func := "chronicle/chroniclelaw13.QuotaWait", spec := "quotaWait", apart := false, narrowed := true }
def QuotaWaitUptoSaid : Prop := quotaWaitUptoRow.holds Try.pinned (OpenSpec.upto quotaWaitSpec)

/-- 'chroniclelaw13.QuotaShares', WHERE WHAT IT READS IS OF BULK AT MOST 1048576: true; the input reads as it did. -/
def quotaSharesUptoRow : OpenClaim := { program := "ythcmkjiemlfpcaa", sum := "931fa8ef1c1334feab5d0ffa26a3f2f7f7446671ba8f921d5a93a1578bc1c241", func := "chronicle/chroniclelaw13.QuotaShares", spec := "quotaShares", unfollowed := true, recurses := true, apart := false, narrowed := true }
def QuotaSharesUptoSaid : Prop := quotaSharesUptoRow.holds Try.pinned (OpenSpec.upto quotaSharesSpec)

/-- 'chroniclelaw13.QuotaFair', WHERE WHAT IT READS IS OF BULK AT MOST 1048576: true; the input reads as it did. -/
def quotaFairUptoRow : OpenClaim := { program := "ythcmkjiemlfpcaa", sum := "931fa8ef1c1334feab5d0ffa26a3f2f7f7446671ba8f921d5a93a1578bc1c241", func := "chronicle/chroniclelaw13.QuotaFair", spec := "quotaFair", unfollowed := true, recurses := true, apart := false, narrowed := true }
def QuotaFairUptoSaid : Prop := quotaFairUptoRow.holds Try.pinned (OpenSpec.upto quotaFairSpec)

/-- 'chroniclelaw13.QuotaSpread', WHERE WHAT IT READS IS OF BULK AT MOST 1048576: true; the input reads as it did. -/
def quotaSpreadUptoRow : OpenClaim := { program := "ythcmkjiemlfpcaa", sum := "931fa8ef1c1334feab5d0ffa26a3f2f7f7446671ba8f921d5a93a1578bc1c241", func := "chronicle/chroniclelaw13.QuotaSpread", spec := "quotaSpread", inPlace := ["internal/reflectlite.ValueOf", "internal/reflectlite.Swapper", "(internal/reflectlite.Value).Len"], unfollowed := true, recurses := true, apart := false, narrowed := true }
def QuotaSpreadUptoSaid : Prop := quotaSpreadUptoRow.holds Try.pinned (OpenSpec.upto quotaSpreadSpec)

/-- 'chroniclelaw13.QuotaWeights', WHERE WHAT IT READS IS OF BULK AT MOST 1048576: true; the input reads as it did. -/
def quotaWeightsUptoRow : OpenClaim := { program := "ythcmkjiemlfpcaa", sum := "931fa8ef1c1334feab5d0ffa26a3f2f7f7446671ba8f921d5a93a1578bc1c241", func := "chronicle/chroniclelaw13.QuotaWeights", spec := "quotaWeights", inPlace := ["internal/reflectlite.ValueOf", "internal/reflectlite.Swapper", "(internal/reflectlite.Value).Len"], unfollowed := true, recurses := true, apart := false, narrowed := true }
def QuotaWeightsUptoSaid : Prop := quotaWeightsUptoRow.holds Try.pinned (OpenSpec.upto quotaWeightsSpec)

end Rows
end Go.Proofs.Ythcmkjiemlfpcaa
