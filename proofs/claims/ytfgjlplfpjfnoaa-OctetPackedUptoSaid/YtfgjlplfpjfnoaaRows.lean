/-
  No cell of these rows narrows 'for every input' (looked for: loops, veiled, ifaces, maps, wideKeys, modest, calm, conditions, laid).
  DERIVED. THE GIVEN ROWS OF THIS SEAT. 15 by the template 'for every input the law returns true; each argument reads behind the call as it read before'; 0 by the template 'total and deterministic' (their statements: YtfgjlplfpjfnoaaTotals.lean).
  GIVEN WITH THE SEED: the statements are not yours to turn. If you find one false, say at which input.
  Laid BY PROGRAM, IN A SANDBOX (cutbox-rows.mjs): the forced cells as the released guide's own fill.sh prints them over the translation ab4ccc9dc9a94fb9… (all of the seat's roots in one cut). By AI agents, Wed Nov 11 2026. No macro, syntax, notation, axiom, sorry.
-/
import Derived.Test.YtfgjlplfpjfnoaaChecked
import GoSem.Claim
import GoSem.ClaimJoined
import GoSem.ClaimMapViews
import Derived.JoinedTies
import Derived.KernelRfl
namespace Go.Proofs.Ytfgjlplfpjfnoaa
/- THE CELL 'sum', in the pinned program and in every row, IS THE sha256 OF THE DUMP (.gsa) THAT YtfgjlplfpjfnoaaProg.lean LOADS. Nothing in Lean hashes anything: it is a label: what it is worth is what the hold of that sum in a sandbox is worth. -/
noncomputable def Try.pinned : Pinned := { name := "ytfgjlplfpjfnoaa", sum := "ab4ccc9dc9a94fb9f115366747c6c805b63642294b5c84674f905ce668c2c84a", checked := Try.checked }
namespace Rows
def none {H : Type} : Left H := { results := [], args := [] }

/-- 'chroniclelaw1.OctetTaken': WHATEVER THE INPUT: true; the input reads as it did. -/
def octetTakenSpec : ChangeSpec := { name := "octetTaken", fn := fun _ => fun
  | [d] => { results := [.lit (.bool true)], args := [d] }
  | _ => none }
def octetTakenRow : OpenClaim := { program := "ytfgjlplfpjfnoaa", sum := "ab4ccc9dc9a94fb9f115366747c6c805b63642294b5c84674f905ce668c2c84a", func := "chronicle/chroniclelaw1.OctetTaken", spec := "octetTaken", apart := false }
def OctetTakenSaid : Prop := octetTakenRow.holds Try.pinned (OpenSpec.ofChange octetTakenSpec)

/-- ITS FALSE NEIGHBOUR: 'it returns false'. Refute it at one input. -/
def octetTakenWrong : ChangeSpec := { name := "octetTaken", fn := fun _ => fun
  | [d] => { results := [.lit (.bool false)], args := [d] }
  | _ => none }
def OctetTakenWrongFalsely : Prop := octetTakenRow.holds Try.pinned (OpenSpec.ofChange octetTakenWrong)

/-- 'chroniclelaw1.OctetNumbers': WHATEVER THE INPUT: true; the input reads as it did. -/
def octetNumbersSpec : ChangeSpec := { name := "octetNumbers", fn := fun _ => fun
  | [d1, d2, d3] => { results := [.lit (.bool true)], args := [d1, d2, d3] }
  | _ => none }
def octetNumbersRow : OpenClaim := { program := "ytfgjlplfpjfnoaa", sum := "ab4ccc9dc9a94fb9f115366747c6c805b63642294b5c84674f905ce668c2c84a", func := "chronicle/chroniclelaw1.OctetNumbers", spec := "octetNumbers", apart := false }
def OctetNumbersSaid : Prop := octetNumbersRow.holds Try.pinned (OpenSpec.ofChange octetNumbersSpec)

/-- ITS FALSE NEIGHBOUR: 'it returns false'. Refute it at one input. -/
def octetNumbersWrong : ChangeSpec := { name := "octetNumbers", fn := fun _ => fun
  | [d1, d2, d3] => { results := [.lit (.bool false)], args := [d1, d2, d3] }
  | _ => none }
def OctetNumbersWrongFalsely : Prop := octetNumbersRow.holds Try.pinned (OpenSpec.ofChange octetNumbersWrong)

/-- 'chroniclelaw1.OctetRound': WHATEVER THE INPUT: true; the input reads as it did. -/
def octetRoundSpec : ChangeSpec := { name := "octetRound", fn := fun _ => fun
  | [d1, d2, d3, d4] => { results := [.lit (.bool true)], args := [d1, d2, d3, d4] }
  | _ => none }
def octetRoundRow : OpenClaim := { program := "ytfgjlplfpjfnoaa", sum := "ab4ccc9dc9a94fb9f115366747c6c805b63642294b5c84674f905ce668c2c84a", func := "chronicle/chroniclelaw1.OctetRound", spec := "octetRound", apart := false }
def OctetRoundSaid : Prop := octetRoundRow.holds Try.pinned (OpenSpec.ofChange octetRoundSpec)

/-- ITS FALSE NEIGHBOUR: 'it returns false'. Refute it at one input. -/
def octetRoundWrong : ChangeSpec := { name := "octetRound", fn := fun _ => fun
  | [d1, d2, d3, d4] => { results := [.lit (.bool false)], args := [d1, d2, d3, d4] }
  | _ => none }
def OctetRoundWrongFalsely : Prop := octetRoundRow.holds Try.pinned (OpenSpec.ofChange octetRoundWrong)

/-- 'chroniclelaw1.OctetCompares': WHATEVER THE INPUT: true; the input reads as it did. -/
def octetComparesSpec : ChangeSpec := { name := "octetCompares", fn := fun _ => fun
  | [d1, d2] => { results := [.lit (.bool true)], args := [d1, d2] }
  | _ => none }
def octetComparesRow : OpenClaim := { program := "ytfgjlplfpjfnoaa", sum := "ab4ccc9dc9a94fb9f115366747c6c805b63642294b5c84674f905ce668c2c84a", func := "chronicle/chroniclelaw1.OctetCompares", spec := "octetCompares", apart := false }
def OctetComparesSaid : Prop := octetComparesRow.holds Try.pinned (OpenSpec.ofChange octetComparesSpec)

/-- ITS FALSE NEIGHBOUR: 'it returns false'. Refute it at one input. -/
def octetComparesWrong : ChangeSpec := { name := "octetCompares", fn := fun _ => fun
  | [d1, d2] => { results := [.lit (.bool false)], args := [d1, d2] }
  | _ => none }
def OctetComparesWrongFalsely : Prop := octetComparesRow.holds Try.pinned (OpenSpec.ofChange octetComparesWrong)

/-- 'chroniclelaw1.OctetBurst': WHATEVER THE INPUT: true; the input reads as it did. -/
def octetBurstSpec : ChangeSpec := { name := "octetBurst", fn := fun _ => fun
  | [d1, d2, d3] => { results := [.lit (.bool true)], args := [d1, d2, d3] }
  | _ => none }
def octetBurstRow : OpenClaim := { program := "ytfgjlplfpjfnoaa", sum := "ab4ccc9dc9a94fb9f115366747c6c805b63642294b5c84674f905ce668c2c84a", func := "chronicle/chroniclelaw1.OctetBurst", spec := "octetBurst", apart := false }
def OctetBurstSaid : Prop := octetBurstRow.holds Try.pinned (OpenSpec.ofChange octetBurstSpec)

/-- ITS FALSE NEIGHBOUR: 'it returns false'. Refute it at one input. -/
def octetBurstWrong : ChangeSpec := { name := "octetBurst", fn := fun _ => fun
  | [d1, d2, d3] => { results := [.lit (.bool false)], args := [d1, d2, d3] }
  | _ => none }
def OctetBurstWrongFalsely : Prop := octetBurstRow.holds Try.pinned (OpenSpec.ofChange octetBurstWrong)

/-- 'chroniclelaw1.OctetLinear': WHATEVER THE INPUT: true; the input reads as it did. -/
def octetLinearSpec : ChangeSpec := { name := "octetLinear", fn := fun _ => fun
  | [d1, d2, d3] => { results := [.lit (.bool true)], args := [d1, d2, d3] }
  | _ => none }
def octetLinearRow : OpenClaim := { program := "ytfgjlplfpjfnoaa", sum := "ab4ccc9dc9a94fb9f115366747c6c805b63642294b5c84674f905ce668c2c84a", func := "chronicle/chroniclelaw1.OctetLinear", spec := "octetLinear", apart := false }
def OctetLinearSaid : Prop := octetLinearRow.holds Try.pinned (OpenSpec.ofChange octetLinearSpec)

/-- ITS FALSE NEIGHBOUR: 'it returns false'. Refute it at one input. -/
def octetLinearWrong : ChangeSpec := { name := "octetLinear", fn := fun _ => fun
  | [d1, d2, d3] => { results := [.lit (.bool false)], args := [d1, d2, d3] }
  | _ => none }
def OctetLinearWrongFalsely : Prop := octetLinearRow.holds Try.pinned (OpenSpec.ofChange octetLinearWrong)

/-- 'chroniclelaw1.OctetOrder': WHATEVER THE INPUT: true; the input reads as it did. -/
def octetOrderSpec : ChangeSpec := { name := "octetOrder", fn := fun _ => fun
  | [d1, d2, d3, d4] => { results := [.lit (.bool true)], args := [d1, d2, d3, d4] }
  | _ => none }
def octetOrderRow : OpenClaim := { program := "ytfgjlplfpjfnoaa", sum := "ab4ccc9dc9a94fb9f115366747c6c805b63642294b5c84674f905ce668c2c84a", func := "chronicle/chroniclelaw1.OctetOrder", spec := "octetOrder", apart := false }
def OctetOrderSaid : Prop := octetOrderRow.holds Try.pinned (OpenSpec.ofChange octetOrderSpec)

/-- ITS FALSE NEIGHBOUR: 'it returns false'. Refute it at one input. -/
def octetOrderWrong : ChangeSpec := { name := "octetOrder", fn := fun _ => fun
  | [d1, d2, d3, d4] => { results := [.lit (.bool false)], args := [d1, d2, d3, d4] }
  | _ => none }
def OctetOrderWrongFalsely : Prop := octetOrderRow.holds Try.pinned (OpenSpec.ofChange octetOrderWrong)

/-- 'chroniclelaw1.OctetWriter': WHATEVER THE INPUT: true; the input reads as it did. -/
def octetWriterSpec : ChangeSpec := { name := "octetWriter", fn := fun _ => fun
  | [d] => { results := [.lit (.bool true)], args := [d] }
  | _ => none }
def octetWriterRow : OpenClaim := { program := "ytfgjlplfpjfnoaa", sum := "ab4ccc9dc9a94fb9f115366747c6c805b63642294b5c84674f905ce668c2c84a", func := "chronicle/chroniclelaw1.OctetWriter", spec := "octetWriter", apart := false }
def OctetWriterSaid : Prop := octetWriterRow.holds Try.pinned (OpenSpec.ofChange octetWriterSpec)

/-- ITS FALSE NEIGHBOUR: 'it returns false'. Refute it at one input. -/
def octetWriterWrong : ChangeSpec := { name := "octetWriter", fn := fun _ => fun
  | [d] => { results := [.lit (.bool false)], args := [d] }
  | _ => none }
def OctetWriterWrongFalsely : Prop := octetWriterRow.holds Try.pinned (OpenSpec.ofChange octetWriterWrong)

/-- 'chroniclelaw1.OctetPatch': WHATEVER THE INPUT: true; the input reads as it did. -/
def octetPatchSpec : ChangeSpec := { name := "octetPatch", fn := fun _ => fun
  | [d1, d2, d3] => { results := [.lit (.bool true)], args := [d1, d2, d3] }
  | _ => none }
def octetPatchRow : OpenClaim := { program := "ytfgjlplfpjfnoaa", sum := "ab4ccc9dc9a94fb9f115366747c6c805b63642294b5c84674f905ce668c2c84a", func := "chronicle/chroniclelaw1.OctetPatch", spec := "octetPatch", apart := false }
def OctetPatchSaid : Prop := octetPatchRow.holds Try.pinned (OpenSpec.ofChange octetPatchSpec)

/-- ITS FALSE NEIGHBOUR: 'it returns false'. Refute it at one input. -/
def octetPatchWrong : ChangeSpec := { name := "octetPatch", fn := fun _ => fun
  | [d1, d2, d3] => { results := [.lit (.bool false)], args := [d1, d2, d3] }
  | _ => none }
def OctetPatchWrongFalsely : Prop := octetPatchRow.holds Try.pinned (OpenSpec.ofChange octetPatchWrong)

/-- 'chroniclelaw1.OctetJoins': WHATEVER THE INPUT: true; the input reads as it did. -/
def octetJoinsSpec : ChangeSpec := { name := "octetJoins", fn := fun _ => fun
  | [d1, d2, d3, d4, d5, d6, d7] => { results := [.lit (.bool true)], args := [d1, d2, d3, d4, d5, d6, d7] }
  | _ => none }
def octetJoinsRow : OpenClaim := { program := "ytfgjlplfpjfnoaa", sum := "ab4ccc9dc9a94fb9f115366747c6c805b63642294b5c84674f905ce668c2c84a", func := "chronicle/chroniclelaw1.OctetJoins", spec := "octetJoins", apart := false }
def OctetJoinsSaid : Prop := octetJoinsRow.holds Try.pinned (OpenSpec.ofChange octetJoinsSpec)

/-- ITS FALSE NEIGHBOUR: 'it returns false'. Refute it at one input. -/
def octetJoinsWrong : ChangeSpec := { name := "octetJoins", fn := fun _ => fun
  | [d1, d2, d3, d4, d5, d6, d7] => { results := [.lit (.bool false)], args := [d1, d2, d3, d4, d5, d6, d7] }
  | _ => none }
def OctetJoinsWrongFalsely : Prop := octetJoinsRow.holds Try.pinned (OpenSpec.ofChange octetJoinsWrong)

/-- 'chroniclelaw1.OctetPacks': WHATEVER THE INPUT: true; the input reads as it did. -/
def octetPacksSpec : ChangeSpec := { name := "octetPacks", fn := fun _ => fun
  | [d] => { results := [.lit (.bool true)], args := [d] }
  | _ => none }
def octetPacksRow : OpenClaim := { program := "ytfgjlplfpjfnoaa", sum := "ab4ccc9dc9a94fb9f115366747c6c805b63642294b5c84674f905ce668c2c84a", func := "chronicle/chroniclelaw1.OctetPacks", spec := "octetPacks", apart := false }
def OctetPacksSaid : Prop := octetPacksRow.holds Try.pinned (OpenSpec.ofChange octetPacksSpec)

/-- ITS FALSE NEIGHBOUR: 'it returns false'. Refute it at one input. -/
def octetPacksWrong : ChangeSpec := { name := "octetPacks", fn := fun _ => fun
  | [d] => { results := [.lit (.bool false)], args := [d] }
  | _ => none }
def OctetPacksWrongFalsely : Prop := octetPacksRow.holds Try.pinned (OpenSpec.ofChange octetPacksWrong)

/-- 'chroniclelaw1.OctetSums': WHATEVER THE INPUT: true; the input reads as it did. -/
def octetSumsSpec : ChangeSpec := { name := "octetSums", fn := fun _ => fun
  | [d1, d2, d3, d4] => { results := [.lit (.bool true)], args := [d1, d2, d3, d4] }
  | _ => none }
def octetSumsRow : OpenClaim := { program := "ytfgjlplfpjfnoaa", sum := "ab4ccc9dc9a94fb9f115366747c6c805b63642294b5c84674f905ce668c2c84a", func := "chronicle/chroniclelaw1.OctetSums", spec := "octetSums", apart := false }
def OctetSumsSaid : Prop := octetSumsRow.holds Try.pinned (OpenSpec.ofChange octetSumsSpec)

/-- ITS FALSE NEIGHBOUR: 'it returns false'. Refute it at one input. -/
def octetSumsWrong : ChangeSpec := { name := "octetSums", fn := fun _ => fun
  | [d1, d2, d3, d4] => { results := [.lit (.bool false)], args := [d1, d2, d3, d4] }
  | _ => none }
def OctetSumsWrongFalsely : Prop := octetSumsRow.holds Try.pinned (OpenSpec.ofChange octetSumsWrong)

/-- 'chroniclelaw1.OctetReader': WHATEVER THE INPUT: true; the input reads as it did. -/
def octetReaderSpec : ChangeSpec := { name := "octetReader", fn := fun _ => fun
  | [d1, d2] => { results := [.lit (.bool true)], args := [d1, d2] }
  | _ => none }
def octetReaderRow : OpenClaim := { program := "ytfgjlplfpjfnoaa", sum := "ab4ccc9dc9a94fb9f115366747c6c805b63642294b5c84674f905ce668c2c84a", func := "chronicle/chroniclelaw1.OctetReader", spec := "octetReader", apart := false }
def OctetReaderSaid : Prop := octetReaderRow.holds Try.pinned (OpenSpec.ofChange octetReaderSpec)

/-- ITS FALSE NEIGHBOUR: 'it returns false'. Refute it at one input. -/
def octetReaderWrong : ChangeSpec := { name := "octetReader", fn := fun _ => fun
  | [d1, d2] => { results := [.lit (.bool false)], args := [d1, d2] }
  | _ => none }
def OctetReaderWrongFalsely : Prop := octetReaderRow.holds Try.pinned (OpenSpec.ofChange octetReaderWrong)

/-- 'chroniclelaw1.OctetUnpacks': WHATEVER THE INPUT: true; the input reads as it did. -/
def octetUnpacksSpec : ChangeSpec := { name := "octetUnpacks", fn := fun _ => fun
  | [d1, d2, d3] => { results := [.lit (.bool true)], args := [d1, d2, d3] }
  | _ => none }
def octetUnpacksRow : OpenClaim := { program := "ytfgjlplfpjfnoaa", sum := "ab4ccc9dc9a94fb9f115366747c6c805b63642294b5c84674f905ce668c2c84a", func := "chronicle/chroniclelaw1.OctetUnpacks", spec := "octetUnpacks", apart := false }
def OctetUnpacksSaid : Prop := octetUnpacksRow.holds Try.pinned (OpenSpec.ofChange octetUnpacksSpec)

/-- ITS FALSE NEIGHBOUR: 'it returns false'. Refute it at one input. -/
def octetUnpacksWrong : ChangeSpec := { name := "octetUnpacks", fn := fun _ => fun
  | [d1, d2, d3] => { results := [.lit (.bool false)], args := [d1, d2, d3] }
  | _ => none }
def OctetUnpacksWrongFalsely : Prop := octetUnpacksRow.holds Try.pinned (OpenSpec.ofChange octetUnpacksWrong)

/-- 'chroniclelaw1.OctetPacked': WHATEVER THE INPUT: true; the input reads as it did. -/
def octetPackedSpec : ChangeSpec := { name := "octetPacked", fn := fun _ => fun
  | [d1, d2, d3, d4] => { results := [.lit (.bool true)], args := [d1, d2, d3, d4] }
  | _ => none }
def octetPackedRow : OpenClaim := { program := "ytfgjlplfpjfnoaa", sum := "ab4ccc9dc9a94fb9f115366747c6c805b63642294b5c84674f905ce668c2c84a", func := "chronicle/chroniclelaw1.OctetPacked", spec := "octetPacked", apart := false }
def OctetPackedSaid : Prop := octetPackedRow.holds Try.pinned (OpenSpec.ofChange octetPackedSpec)

/-- ITS FALSE NEIGHBOUR: 'it returns false'. Refute it at one input. -/
def octetPackedWrong : ChangeSpec := { name := "octetPacked", fn := fun _ => fun
  | [d1, d2, d3, d4] => { results := [.lit (.bool false)], args := [d1, d2, d3, d4] }
  | _ => none }
def OctetPackedWrongFalsely : Prop := octetPackedRow.holds Try.pinned (OpenSpec.ofChange octetPackedWrong)

/- THE SECOND FORM. 'bulk': how many values and letters a reading holds, each counted each time it is reached (what is shared counts as often as it is met; a slice's spare places count too). A statement '..UptoSaid' is the law's where the arguments, and the package variables that the reading takes, are together of bulk at most 1048576: NARROWER than '..Said'. Prove '..Said' where nothing that the law and all that it calls make is longer than what came in: it says more and counts as full. Else prove '..UptoSaid'. A law counts once. -/
mutual
def uptoBulk {H : Type} : DataW H → Nat
  | .lit (.string bytes) => bytes.length + 1
  | .lit _ => 1
  | .nil => 1
  | .ptr d => uptoBulk d + 1
  | .slice elems spare => uptoBulkAll elems + uptoBulkAll spare + 1
  | .agg parts => uptoBulkAll parts + 1
  | .iface _ d => uptoBulk d + 1
  | .map entries => uptoBulkEntries entries + 1
  | .held _ => 1
def uptoBulkAll {H : Type} : List (DataW H) → Nat
  | [] => 0
  | d :: r => uptoBulk d + uptoBulkAll r
def uptoBulkEntries {H : Type} : List (Lit × DataW H) → Nat
  | [] => 0
  | x :: r => uptoBulkEntry x + uptoBulkEntries r
def uptoBulkEntry {H : Type} : Lit × DataW H → Nat
  | (.string bytes, d) => bytes.length + uptoBulk d + 1
  | (_, d) => uptoBulk d + 1
 end
def uptoSmall : (H : Type) → List (DataW H) → Bool := fun _ ds => decide (uptoBulkAll ds ≤ 1048576)
def OpenSpec.upto (s : _root_.Go.ChangeSpec) : _root_.Go.OpenSpec := { _root_.Go.OpenSpec.ofChange s with cond := some uptoSmall }

/-- 'chroniclelaw1.OctetTaken', WHERE WHAT IT READS IS OF BULK AT MOST 1048576: true; the input reads as it did. -/
def octetTakenUptoRow : OpenClaim := { program := "ytfgjlplfpjfnoaa", sum := "ab4ccc9dc9a94fb9f115366747c6c805b63642294b5c84674f905ce668c2c84a", func := "chronicle/chroniclelaw1.OctetTaken", spec := "octetTaken", apart := false, narrowed := true }
def OctetTakenUptoSaid : Prop := octetTakenUptoRow.holds Try.pinned (OpenSpec.upto octetTakenSpec)

/-- 'chroniclelaw1.OctetNumbers', WHERE WHAT IT READS IS OF BULK AT MOST 1048576: true; the input reads as it did. -/
def octetNumbersUptoRow : OpenClaim := { program := "ytfgjlplfpjfnoaa", sum := "ab4ccc9dc9a94fb9f115366747c6c805b63642294b5c84674f905ce668c2c84a", func := "chronicle/chroniclelaw1.OctetNumbers", spec := "octetNumbers", apart := false, narrowed := true }
def OctetNumbersUptoSaid : Prop := octetNumbersUptoRow.holds Try.pinned (OpenSpec.upto octetNumbersSpec)

/-- 'chroniclelaw1.OctetRound', WHERE WHAT IT READS IS OF BULK AT MOST 1048576: true; the input reads as it did. -/
def octetRoundUptoRow : OpenClaim := { program := "ytfgjlplfpjfnoaa", sum := "ab4ccc9dc9a94fb9f115366747c6c805b63642294b5c84674f905ce668c2c84a", func := "chronicle/chroniclelaw1.OctetRound", spec := "octetRound", apart := false, narrowed := true }
def OctetRoundUptoSaid : Prop := octetRoundUptoRow.holds Try.pinned (OpenSpec.upto octetRoundSpec)

/-- 'chroniclelaw1.OctetCompares', WHERE WHAT IT READS IS OF BULK AT MOST 1048576: true; the input reads as it did. -/
def octetComparesUptoRow : OpenClaim := { program := "ytfgjlplfpjfnoaa", sum := "ab4ccc9dc9a94fb9f115366747c6c805b63642294b5c84674f905ce668c2c84a", func := "chronicle/chroniclelaw1.OctetCompares", spec := "octetCompares", apart := false, narrowed := true }
def OctetComparesUptoSaid : Prop := octetComparesUptoRow.holds Try.pinned (OpenSpec.upto octetComparesSpec)

/-- 'chroniclelaw1.OctetBurst', WHERE WHAT IT READS IS OF BULK AT MOST 1048576: true; the input reads as it did. -/
def octetBurstUptoRow : OpenClaim := { program := "ytfgjlplfpjfnoaa", sum := "ab4ccc9dc9a94fb9f115366747c6c805b63642294b5c84674f905ce668c2c84a", func := "chronicle/chroniclelaw1.OctetBurst", spec := "octetBurst", apart := false, narrowed := true }
def OctetBurstUptoSaid : Prop := octetBurstUptoRow.holds Try.pinned (OpenSpec.upto octetBurstSpec)

/-- 'chroniclelaw1.OctetLinear', WHERE WHAT IT READS IS OF BULK AT MOST 1048576: true; the input reads as it did. -/
def octetLinearUptoRow : OpenClaim := { program := "ytfgjlplfpjfnoaa", sum := "ab4ccc9dc9a94fb9f115366747c6c805b63642294b5c84674f905ce668c2c84a", func := "chronicle/chroniclelaw1.OctetLinear", spec := "octetLinear", apart := false, narrowed := true }
def OctetLinearUptoSaid : Prop := octetLinearUptoRow.holds Try.pinned (OpenSpec.upto octetLinearSpec)

/-- 'chroniclelaw1.OctetOrder', WHERE WHAT IT READS IS OF BULK AT MOST 1048576: true; the input reads as it did. -/
def octetOrderUptoRow : OpenClaim := { program := "ytfgjlplfpjfnoaa", sum := "ab4ccc9dc9a94fb9f115366747c6c805b63642294b5c84674f905ce668c2c84a", func := "chronicle/chroniclelaw1.OctetOrder", spec := "octetOrder", apart := false, narrowed := true }
def OctetOrderUptoSaid : Prop := octetOrderUptoRow.holds Try.pinned (OpenSpec.upto octetOrderSpec)

/-- 'chroniclelaw1.OctetWriter', WHERE WHAT IT READS IS OF BULK AT MOST 1048576: true; the input reads as it did. -/
def octetWriterUptoRow : OpenClaim := { program := "ytfgjlplfpjfnoaa", sum := "ab4ccc9dc9a94fb9f115366747c6c805b63642294b5c84674f905ce668c2c84a", func := "chronicle/chroniclelaw1.OctetWriter", spec := "octetWriter", apart := false, narrowed := true }
def OctetWriterUptoSaid : Prop := octetWriterUptoRow.holds Try.pinned (OpenSpec.upto octetWriterSpec)

/-- 'chroniclelaw1.OctetPatch', WHERE WHAT IT READS IS OF BULK AT MOST 1048576: true; the input reads as it did. -/
def octetPatchUptoRow : OpenClaim := { program := "ytfgjlplfpjfnoaa", sum := "ab4ccc9dc9a94fb9f115366747c6c805b63642294b5c84674f905ce668c2c84a", func := "chronicle/chroniclelaw1.OctetPatch", spec := "octetPatch", apart := false, narrowed := true }
def OctetPatchUptoSaid : Prop := octetPatchUptoRow.holds Try.pinned (OpenSpec.upto octetPatchSpec)

/-- 'chroniclelaw1.OctetJoins', WHERE WHAT IT READS IS OF BULK AT MOST 1048576: true; the input reads as it did. -/
def octetJoinsUptoRow : OpenClaim := { program := "ytfgjlplfpjfnoaa", sum := "ab4ccc9dc9a94fb9f115366747c6c805b63642294b5c84674f905ce668c2c84a", func := "chronicle/chroniclelaw1.OctetJoins", spec := "octetJoins", apart := false, narrowed := true }
def OctetJoinsUptoSaid : Prop := octetJoinsUptoRow.holds Try.pinned (OpenSpec.upto octetJoinsSpec)

/-- 'chroniclelaw1.OctetPacks', WHERE WHAT IT READS IS OF BULK AT MOST 1048576: true; the input reads as it did. -/
def octetPacksUptoRow : OpenClaim := { program := "ytfgjlplfpjfnoaa", sum := "ab4ccc9dc9a94fb9f115366747c6c805b63642294b5c84674f905ce668c2c84a", func := "chronicle/chroniclelaw1.OctetPacks", spec := "octetPacks", apart := false, narrowed := true }
def OctetPacksUptoSaid : Prop := octetPacksUptoRow.holds Try.pinned (OpenSpec.upto octetPacksSpec)

/-- 'chroniclelaw1.OctetSums', WHERE WHAT IT READS IS OF BULK AT MOST 1048576: true; the input reads as it did. -/
def octetSumsUptoRow : OpenClaim := { program := "ytfgjlplfpjfnoaa", sum := "ab4ccc9dc9a94fb9f115366747c6c805b63642294b5c84674f905ce668c2c84a", func := "chronicle/chroniclelaw1.OctetSums", spec := "octetSums", apart := false, narrowed := true }
def OctetSumsUptoSaid : Prop := octetSumsUptoRow.holds Try.pinned (OpenSpec.upto octetSumsSpec)

/-- 'chroniclelaw1.OctetReader', WHERE WHAT IT READS IS OF BULK AT MOST 1048576: true; the input reads as it did. -/
def octetReaderUptoRow : OpenClaim := { program := "ytfgjlplfpjfnoaa", sum := "ab4ccc9dc9a94fb9f115366747c6c805b63642294b5c84674f905ce668c2c84a", func := "chronicle/chroniclelaw1.OctetReader", spec := "octetReader", apart := false, narrowed := true }
def OctetReaderUptoSaid : Prop := octetReaderUptoRow.holds Try.pinned (OpenSpec.upto octetReaderSpec)

/-- 'chroniclelaw1.OctetUnpacks', WHERE WHAT IT READS IS OF BULK AT MOST 1048576: true; the input reads as it did. -/
def octetUnpacksUptoRow : OpenClaim := { program := "ytfgjlplfpjfnoaa", sum := "ab4ccc9dc9a94fb9f115366747c6c805b63642294b5c84674f905ce668c2c84a", func := "chronicle/chroniclelaw1.OctetUnpacks", spec := "octetUnpacks", apart := false, narrowed := true }
def OctetUnpacksUptoSaid : Prop := octetUnpacksUptoRow.holds Try.pinned (OpenSpec.upto octetUnpacksSpec)

/-- 'chroniclelaw1.OctetPacked', WHERE WHAT IT READS IS OF BULK AT MOST 1048576: true; the input reads as it did. -/
def octetPackedUptoRow : OpenClaim := { program := "ytfgjlplfpjfnoaa", sum := "ab4ccc9dc9a94fb9f115366747c6c805b63642294b5c84674f905ce668c2c84a", func := "chronicle/chroniclelaw1.OctetPacked", spec := "octetPacked", apart := false, narrowed := true }
def OctetPackedUptoSaid : Prop := octetPackedUptoRow.holds Try.pinned (OpenSpec.upto octetPackedSpec)

end Rows
end Go.Proofs.Ytfgjlplfpjfnoaa
