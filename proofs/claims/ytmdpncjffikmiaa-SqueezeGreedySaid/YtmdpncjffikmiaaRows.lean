/-
  No cell of these rows narrows 'for every input' (looked for: loops, veiled, ifaces, maps, wideKeys, modest, calm, conditions, laid).
  DERIVED. THE GIVEN ROWS OF THIS SEAT. 13 by the template 'for every input the law returns true; each argument reads behind the call as it read before'; 0 by the template 'total and deterministic' (their statements: YtmdpncjffikmiaaTotals.lean).
  GIVEN WITH THE SEED: the statements are not yours to turn. If you find one false, say at which input.
  Laid BY PROGRAM, IN A SANDBOX (cutbox-rows.mjs): the forced cells as the released guide's own fill.sh prints them over the translation cd17ac5febfc1642… (all of the seat's roots in one cut). By AI agents, Wed Nov 11 2026. No macro, syntax, notation, axiom, sorry.
-/
import Derived.Test.YtmdpncjffikmiaaChecked
import GoSem.Claim
import GoSem.ClaimJoined
import GoSem.ClaimMapViews
import Derived.JoinedTies
import Derived.KernelRfl
namespace Go.Proofs.Ytmdpncjffikmiaa
/- THE CELL 'sum', in the pinned program and in every row, IS THE sha256 OF THE DUMP (.gsa) THAT YtmdpncjffikmiaaProg.lean LOADS. Nothing in Lean hashes anything: it is a label: what it is worth is what the hold of that sum in a sandbox is worth. -/
noncomputable def Try.pinned : Pinned := { name := "ytmdpncjffikmiaa", sum := "cd17ac5febfc16422d2fd1e39633a7043d7a0dcb992ee5f83f308bbba70d62b8", checked := Try.checked }
namespace Rows
def none {H : Type} : Left H := { results := [], args := [] }

/-- 'chroniclelaw2.SqueezeExpand': WHATEVER THE INPUT: true; the input reads as it did. -/
def squeezeExpandSpec : ChangeSpec := { name := "squeezeExpand", fn := fun _ => fun
  | [d] => { results := [.lit (.bool true)], args := [d] }
  | _ => none }
def squeezeExpandRow : OpenClaim := { program := "ytmdpncjffikmiaa", sum := "cd17ac5febfc16422d2fd1e39633a7043d7a0dcb992ee5f83f308bbba70d62b8", func := "chronicle/chroniclelaw2.SqueezeExpand", spec := "squeezeExpand", apart := false }
def SqueezeExpandSaid : Prop := squeezeExpandRow.holds Try.pinned (OpenSpec.ofChange squeezeExpandSpec)

/-- ITS FALSE NEIGHBOUR: 'it returns false'. Refute it at one input. -/
def squeezeExpandWrong : ChangeSpec := { name := "squeezeExpand", fn := fun _ => fun
  | [d] => { results := [.lit (.bool false)], args := [d] }
  | _ => none }
def SqueezeExpandWrongFalsely : Prop := squeezeExpandRow.holds Try.pinned (OpenSpec.ofChange squeezeExpandWrong)

/-- 'chroniclelaw2.SqueezeWrite': WHATEVER THE INPUT: true; the input reads as it did. -/
def squeezeWriteSpec : ChangeSpec := { name := "squeezeWrite", fn := fun _ => fun
  | [d] => { results := [.lit (.bool true)], args := [d] }
  | _ => none }
def squeezeWriteRow : OpenClaim := { program := "ytmdpncjffikmiaa", sum := "cd17ac5febfc16422d2fd1e39633a7043d7a0dcb992ee5f83f308bbba70d62b8", func := "chronicle/chroniclelaw2.SqueezeWrite", spec := "squeezeWrite", apart := false }
def SqueezeWriteSaid : Prop := squeezeWriteRow.holds Try.pinned (OpenSpec.ofChange squeezeWriteSpec)

/-- ITS FALSE NEIGHBOUR: 'it returns false'. Refute it at one input. -/
def squeezeWriteWrong : ChangeSpec := { name := "squeezeWrite", fn := fun _ => fun
  | [d] => { results := [.lit (.bool false)], args := [d] }
  | _ => none }
def SqueezeWriteWrongFalsely : Prop := squeezeWriteRow.holds Try.pinned (OpenSpec.ofChange squeezeWriteWrong)

/-- 'chroniclelaw2.SqueezeTokens': WHATEVER THE INPUT: true; the input reads as it did. -/
def squeezeTokensSpec : ChangeSpec := { name := "squeezeTokens", fn := fun _ => fun
  | [d] => { results := [.lit (.bool true)], args := [d] }
  | _ => none }
def squeezeTokensRow : OpenClaim := { program := "ytmdpncjffikmiaa", sum := "cd17ac5febfc16422d2fd1e39633a7043d7a0dcb992ee5f83f308bbba70d62b8", func := "chronicle/chroniclelaw2.SqueezeTokens", spec := "squeezeTokens", apart := false }
def SqueezeTokensSaid : Prop := squeezeTokensRow.holds Try.pinned (OpenSpec.ofChange squeezeTokensSpec)

/-- ITS FALSE NEIGHBOUR: 'it returns false'. Refute it at one input. -/
def squeezeTokensWrong : ChangeSpec := { name := "squeezeTokens", fn := fun _ => fun
  | [d] => { results := [.lit (.bool false)], args := [d] }
  | _ => none }
def SqueezeTokensWrongFalsely : Prop := squeezeTokensRow.holds Try.pinned (OpenSpec.ofChange squeezeTokensWrong)

/-- 'chroniclelaw2.SqueezeGreedy': WHATEVER THE INPUT: true; the input reads as it did. -/
def squeezeGreedySpec : ChangeSpec := { name := "squeezeGreedy", fn := fun _ => fun
  | [d] => { results := [.lit (.bool true)], args := [d] }
  | _ => none }
def squeezeGreedyRow : OpenClaim := { program := "ytmdpncjffikmiaa", sum := "cd17ac5febfc16422d2fd1e39633a7043d7a0dcb992ee5f83f308bbba70d62b8", func := "chronicle/chroniclelaw2.SqueezeGreedy", spec := "squeezeGreedy", apart := false }
def SqueezeGreedySaid : Prop := squeezeGreedyRow.holds Try.pinned (OpenSpec.ofChange squeezeGreedySpec)

/-- ITS FALSE NEIGHBOUR: 'it returns false'. Refute it at one input. -/
def squeezeGreedyWrong : ChangeSpec := { name := "squeezeGreedy", fn := fun _ => fun
  | [d] => { results := [.lit (.bool false)], args := [d] }
  | _ => none }
def SqueezeGreedyWrongFalsely : Prop := squeezeGreedyRow.holds Try.pinned (OpenSpec.ofChange squeezeGreedyWrong)

/-- 'chroniclelaw2.SqueezeRead': WHATEVER THE INPUT: true; the input reads as it did. -/
def squeezeReadSpec : ChangeSpec := { name := "squeezeRead", fn := fun _ => fun
  | [d] => { results := [.lit (.bool true)], args := [d] }
  | _ => none }
def squeezeReadRow : OpenClaim := { program := "ytmdpncjffikmiaa", sum := "cd17ac5febfc16422d2fd1e39633a7043d7a0dcb992ee5f83f308bbba70d62b8", func := "chronicle/chroniclelaw2.SqueezeRead", spec := "squeezeRead", apart := false }
def SqueezeReadSaid : Prop := squeezeReadRow.holds Try.pinned (OpenSpec.ofChange squeezeReadSpec)

/-- ITS FALSE NEIGHBOUR: 'it returns false'. Refute it at one input. -/
def squeezeReadWrong : ChangeSpec := { name := "squeezeRead", fn := fun _ => fun
  | [d] => { results := [.lit (.bool false)], args := [d] }
  | _ => none }
def SqueezeReadWrongFalsely : Prop := squeezeReadRow.holds Try.pinned (OpenSpec.ofChange squeezeReadWrong)

/-- 'chroniclelaw2.SqueezeEncode': WHATEVER THE INPUT: true; the input reads as it did. -/
def squeezeEncodeSpec : ChangeSpec := { name := "squeezeEncode", fn := fun _ => fun
  | [d] => { results := [.lit (.bool true)], args := [d] }
  | _ => none }
def squeezeEncodeRow : OpenClaim := { program := "ytmdpncjffikmiaa", sum := "cd17ac5febfc16422d2fd1e39633a7043d7a0dcb992ee5f83f308bbba70d62b8", func := "chronicle/chroniclelaw2.SqueezeEncode", spec := "squeezeEncode", apart := false }
def SqueezeEncodeSaid : Prop := squeezeEncodeRow.holds Try.pinned (OpenSpec.ofChange squeezeEncodeSpec)

/-- ITS FALSE NEIGHBOUR: 'it returns false'. Refute it at one input. -/
def squeezeEncodeWrong : ChangeSpec := { name := "squeezeEncode", fn := fun _ => fun
  | [d] => { results := [.lit (.bool false)], args := [d] }
  | _ => none }
def SqueezeEncodeWrongFalsely : Prop := squeezeEncodeRow.holds Try.pinned (OpenSpec.ofChange squeezeEncodeWrong)

/-- 'chroniclelaw2.SqueezeBound': WHATEVER THE INPUT: true; the input reads as it did. -/
def squeezeBoundSpec : ChangeSpec := { name := "squeezeBound", fn := fun _ => fun
  | [d] => { results := [.lit (.bool true)], args := [d] }
  | _ => none }
def squeezeBoundRow : OpenClaim := { program := "ytmdpncjffikmiaa", sum := "cd17ac5febfc16422d2fd1e39633a7043d7a0dcb992ee5f83f308bbba70d62b8", func := "chronicle/chroniclelaw2.SqueezeBound", spec := "squeezeBound", apart := false }
def SqueezeBoundSaid : Prop := squeezeBoundRow.holds Try.pinned (OpenSpec.ofChange squeezeBoundSpec)

/-- ITS FALSE NEIGHBOUR: 'it returns false'. Refute it at one input. -/
def squeezeBoundWrong : ChangeSpec := { name := "squeezeBound", fn := fun _ => fun
  | [d] => { results := [.lit (.bool false)], args := [d] }
  | _ => none }
def SqueezeBoundWrongFalsely : Prop := squeezeBoundRow.holds Try.pinned (OpenSpec.ofChange squeezeBoundWrong)

/-- 'chroniclelaw2.SqueezeDecode': WHATEVER THE INPUT: true; the input reads as it did. -/
def squeezeDecodeSpec : ChangeSpec := { name := "squeezeDecode", fn := fun _ => fun
  | [d] => { results := [.lit (.bool true)], args := [d] }
  | _ => none }
def squeezeDecodeRow : OpenClaim := { program := "ytmdpncjffikmiaa", sum := "cd17ac5febfc16422d2fd1e39633a7043d7a0dcb992ee5f83f308bbba70d62b8", func := "chronicle/chroniclelaw2.SqueezeDecode", spec := "squeezeDecode", apart := false }
def SqueezeDecodeSaid : Prop := squeezeDecodeRow.holds Try.pinned (OpenSpec.ofChange squeezeDecodeSpec)

/-- ITS FALSE NEIGHBOUR: 'it returns false'. Refute it at one input. -/
def squeezeDecodeWrong : ChangeSpec := { name := "squeezeDecode", fn := fun _ => fun
  | [d] => { results := [.lit (.bool false)], args := [d] }
  | _ => none }
def SqueezeDecodeWrongFalsely : Prop := squeezeDecodeRow.holds Try.pinned (OpenSpec.ofChange squeezeDecodeWrong)

/-- 'chroniclelaw2.SqueezeUnlike': WHATEVER THE INPUT: true; the input reads as it did. -/
def squeezeUnlikeSpec : ChangeSpec := { name := "squeezeUnlike", fn := fun _ => fun
  | [d1, d2, d3] => { results := [.lit (.bool true)], args := [d1, d2, d3] }
  | _ => none }
def squeezeUnlikeRow : OpenClaim := { program := "ytmdpncjffikmiaa", sum := "cd17ac5febfc16422d2fd1e39633a7043d7a0dcb992ee5f83f308bbba70d62b8", func := "chronicle/chroniclelaw2.SqueezeUnlike", spec := "squeezeUnlike", apart := false }
def SqueezeUnlikeSaid : Prop := squeezeUnlikeRow.holds Try.pinned (OpenSpec.ofChange squeezeUnlikeSpec)

/-- ITS FALSE NEIGHBOUR: 'it returns false'. Refute it at one input. -/
def squeezeUnlikeWrong : ChangeSpec := { name := "squeezeUnlike", fn := fun _ => fun
  | [d1, d2, d3] => { results := [.lit (.bool false)], args := [d1, d2, d3] }
  | _ => none }
def SqueezeUnlikeWrongFalsely : Prop := squeezeUnlikeRow.holds Try.pinned (OpenSpec.ofChange squeezeUnlikeWrong)

/-- 'chroniclelaw2.SqueezeRuns': WHATEVER THE INPUT: true; the input reads as it did. -/
def squeezeRunsSpec : ChangeSpec := { name := "squeezeRuns", fn := fun _ => fun
  | [d1, d2] => { results := [.lit (.bool true)], args := [d1, d2] }
  | _ => none }
def squeezeRunsRow : OpenClaim := { program := "ytmdpncjffikmiaa", sum := "cd17ac5febfc16422d2fd1e39633a7043d7a0dcb992ee5f83f308bbba70d62b8", func := "chronicle/chroniclelaw2.SqueezeRuns", spec := "squeezeRuns", apart := false }
def SqueezeRunsSaid : Prop := squeezeRunsRow.holds Try.pinned (OpenSpec.ofChange squeezeRunsSpec)

/-- ITS FALSE NEIGHBOUR: 'it returns false'. Refute it at one input. -/
def squeezeRunsWrong : ChangeSpec := { name := "squeezeRuns", fn := fun _ => fun
  | [d1, d2] => { results := [.lit (.bool false)], args := [d1, d2] }
  | _ => none }
def SqueezeRunsWrongFalsely : Prop := squeezeRunsRow.holds Try.pinned (OpenSpec.ofChange squeezeRunsWrong)

/-- 'chroniclelaw2.SqueezeFar': WHATEVER THE INPUT: true; the input reads as it did. -/
def squeezeFarSpec : ChangeSpec := { name := "squeezeFar", fn := fun _ => fun
  | [d] => { results := [.lit (.bool true)], args := [d] }
  | _ => none }
def squeezeFarRow : OpenClaim := { program := "ytmdpncjffikmiaa", sum := "cd17ac5febfc16422d2fd1e39633a7043d7a0dcb992ee5f83f308bbba70d62b8", func := "chronicle/chroniclelaw2.SqueezeFar", spec := "squeezeFar", apart := false }
def SqueezeFarSaid : Prop := squeezeFarRow.holds Try.pinned (OpenSpec.ofChange squeezeFarSpec)

/-- ITS FALSE NEIGHBOUR: 'it returns false'. Refute it at one input. -/
def squeezeFarWrong : ChangeSpec := { name := "squeezeFar", fn := fun _ => fun
  | [d] => { results := [.lit (.bool false)], args := [d] }
  | _ => none }
def SqueezeFarWrongFalsely : Prop := squeezeFarRow.holds Try.pinned (OpenSpec.ofChange squeezeFarWrong)

/-- 'chroniclelaw2.SqueezeOnly': WHATEVER THE INPUT: true; the input reads as it did. -/
def squeezeOnlySpec : ChangeSpec := { name := "squeezeOnly", fn := fun _ => fun
  | [d] => { results := [.lit (.bool true)], args := [d] }
  | _ => none }
def squeezeOnlyRow : OpenClaim := { program := "ytmdpncjffikmiaa", sum := "cd17ac5febfc16422d2fd1e39633a7043d7a0dcb992ee5f83f308bbba70d62b8", func := "chronicle/chroniclelaw2.SqueezeOnly", spec := "squeezeOnly", apart := false }
def SqueezeOnlySaid : Prop := squeezeOnlyRow.holds Try.pinned (OpenSpec.ofChange squeezeOnlySpec)

/-- ITS FALSE NEIGHBOUR: 'it returns false'. Refute it at one input. -/
def squeezeOnlyWrong : ChangeSpec := { name := "squeezeOnly", fn := fun _ => fun
  | [d] => { results := [.lit (.bool false)], args := [d] }
  | _ => none }
def SqueezeOnlyWrongFalsely : Prop := squeezeOnlyRow.holds Try.pinned (OpenSpec.ofChange squeezeOnlyWrong)

/-- 'chroniclelaw2.SqueezeBack': WHATEVER THE INPUT: true; the input reads as it did. -/
def squeezeBackSpec : ChangeSpec := { name := "squeezeBack", fn := fun _ => fun
  | [d] => { results := [.lit (.bool true)], args := [d] }
  | _ => none }
def squeezeBackRow : OpenClaim := { program := "ytmdpncjffikmiaa", sum := "cd17ac5febfc16422d2fd1e39633a7043d7a0dcb992ee5f83f308bbba70d62b8", func := "chronicle/chroniclelaw2.SqueezeBack", spec := "squeezeBack", apart := false }
def SqueezeBackSaid : Prop := squeezeBackRow.holds Try.pinned (OpenSpec.ofChange squeezeBackSpec)

/-- ITS FALSE NEIGHBOUR: 'it returns false'. Refute it at one input. -/
def squeezeBackWrong : ChangeSpec := { name := "squeezeBack", fn := fun _ => fun
  | [d] => { results := [.lit (.bool false)], args := [d] }
  | _ => none }
def SqueezeBackWrongFalsely : Prop := squeezeBackRow.holds Try.pinned (OpenSpec.ofChange squeezeBackWrong)

/- THE SECOND FORM. 'bulk': how many values and letters a reading holds, each counted each time it is reached (what is shared counts as often as it is met; a slice's spare places count too). A statement '..UptoSaid' is the law's where the arguments, and the package variables that the reading takes, are together of bulk at most 1048576: NARROWER than '..Said'. Prove '..Said' where nothing that the law and all that it calls make is longer than what came in: it says more and counts as full. Else prove '..UptoSaid'. A law counts once. -/
mutual
def uptoBulk {H : Type} : DataW H → Nat
  | .lit (.string bytes) => bytes.length + 1
  | .lit _ => 1
  | .nil => 1
  | .ptr d => uptoBulk d + 1
  | .slice elems spare => uptoBulkAll elems + uptoBulkAll spare + 1
  | .agg parts => uptoBulkAll parts + 1
  | .iface _ d => uptoBulk d + 1
  | .map entries => uptoBulkEntries entries + 1
  | .held _ => 1
def uptoBulkAll {H : Type} : List (DataW H) → Nat
  | [] => 0
  | d :: r => uptoBulk d + uptoBulkAll r
def uptoBulkEntries {H : Type} : List (Lit × DataW H) → Nat
  | [] => 0
  | x :: r => uptoBulkEntry x + uptoBulkEntries r
def uptoBulkEntry {H : Type} : Lit × DataW H → Nat
  | (.string bytes, d) => bytes.length + uptoBulk d + 1
  | (_, d) => uptoBulk d + 1
 end
def uptoSmall : (H : Type) → List (DataW H) → Bool := fun _ ds => decide (uptoBulkAll ds ≤ 1048576)
def OpenSpec.upto (s : _root_.Go.ChangeSpec) : _root_.Go.OpenSpec := { _root_.Go.OpenSpec.ofChange s with cond := some uptoSmall }

/-- 'chroniclelaw2.SqueezeExpand', WHERE WHAT IT READS IS OF BULK AT MOST 1048576: true; the input reads as it did. -/
def squeezeExpandUptoRow : OpenClaim := { program := "ytmdpncjffikmiaa", sum := "cd17ac5febfc16422d2fd1e39633a7043d7a0dcb992ee5f83f308bbba70d62b8", func := "chronicle/chroniclelaw2.SqueezeExpand", spec := "squeezeExpand", apart := false, narrowed := true }
def SqueezeExpandUptoSaid : Prop := squeezeExpandUptoRow.holds Try.pinned (OpenSpec.upto squeezeExpandSpec)

/-- 'chroniclelaw2.SqueezeWrite', WHERE WHAT IT READS IS OF BULK AT MOST 1048576: true; the input reads as it did. -/
def squeezeWriteUptoRow : OpenClaim := { program := "ytmdpncjffikmiaa", sum := "cd17ac5febfc16422d2fd1e39633a7043d7a0dcb992ee5f83f308bbba70d62b8", func := "chronicle/chroniclelaw2.SqueezeWrite", spec := "squeezeWrite", apart := false, narrowed := true }
def SqueezeWriteUptoSaid : Prop := squeezeWriteUptoRow.holds Try.pinned (OpenSpec.upto squeezeWriteSpec)

/-- 'chroniclelaw2.SqueezeTokens', WHERE WHAT IT READS IS OF BULK AT MOST 1048576: true; the input reads as it did. -/
def squeezeTokensUptoRow : OpenClaim := { program := "ytmdpncjffikmiaa", sum := "cd17ac5febfc16422d2fd1e39633a7043d7a0dcb992ee5f83f308bbba70d62b8", func := "chronicle/chroniclelaw2.SqueezeTokens", spec := "squeezeTokens", apart := false, narrowed := true }
def SqueezeTokensUptoSaid : Prop := squeezeTokensUptoRow.holds Try.pinned (OpenSpec.upto squeezeTokensSpec)

/-- 'chroniclelaw2.SqueezeGreedy', WHERE WHAT IT READS IS OF BULK AT MOST 1048576: true; the input reads as it did. -/
def squeezeGreedyUptoRow : OpenClaim := { program := "ytmdpncjffikmiaa", sum := "cd17ac5febfc16422d2fd1e39633a7043d7a0dcb992ee5f83f308bbba70d62b8", func := "chronicle/chroniclelaw2.SqueezeGreedy", spec := "squeezeGreedy", apart := false, narrowed := true }
def SqueezeGreedyUptoSaid : Prop := squeezeGreedyUptoRow.holds Try.pinned (OpenSpec.upto squeezeGreedySpec)

/-- 'chroniclelaw2.SqueezeRead', WHERE WHAT IT READS IS OF BULK AT MOST 1048576: true; the input reads as it did. -/
def squeezeReadUptoRow : OpenClaim := { program := "ytmdpncjffikmiaa", sum := "cd17ac5febfc16422d2fd1e39633a7043d7a0dcb992ee5f83f308bbba70d62b8", func := "chronicle/chroniclelaw2.SqueezeRead", spec := "squeezeRead", apart := false, narrowed := true }
def SqueezeReadUptoSaid : Prop := squeezeReadUptoRow.holds Try.pinned (OpenSpec.upto squeezeReadSpec)

/-- 'chroniclelaw2.SqueezeEncode', WHERE WHAT IT READS IS OF BULK AT MOST 1048576: true; the input reads as it did. -/
def squeezeEncodeUptoRow : OpenClaim := { program := "ytmdpncjffikmiaa", sum := "cd17ac5febfc16422d2fd1e39633a7043d7a0dcb992ee5f83f308bbba70d62b8", func := "chronicle/chroniclelaw2.SqueezeEncode", spec := "squeezeEncode", apart := false, narrowed := true }
def SqueezeEncodeUptoSaid : Prop := squeezeEncodeUptoRow.holds Try.pinned (OpenSpec.upto squeezeEncodeSpec)

/-- 'chroniclelaw2.SqueezeBound', WHERE WHAT IT READS IS OF BULK AT MOST 1048576: true; the input reads as it did. -/
def squeezeBoundUptoRow : OpenClaim := { program := "ytmdpncjffikmiaa", sum := "cd17ac5febfc16422d2fd1e39633a7043d7a0dcb992ee5f83f308bbba70d62b8", func := "chronicle/chroniclelaw2.SqueezeBound", spec := "squeezeBound", apart := false, narrowed := true }
def SqueezeBoundUptoSaid : Prop := squeezeBoundUptoRow.holds Try.pinned (OpenSpec.upto squeezeBoundSpec)

/-- 'chroniclelaw2.SqueezeDecode', WHERE WHAT IT READS IS OF BULK AT MOST 1048576: true; the input reads as it did. -/
def squeezeDecodeUptoRow : OpenClaim := { program := "ytmdpncjffikmiaa", sum := "cd17ac5febfc16422d2fd1e39633a7043d7a0dcb992ee5f83f308bbba70d62b8", func := "chronicle/chroniclelaw2.SqueezeDecode", spec := "squeezeDecode", apart := false, narrowed := true }
def SqueezeDecodeUptoSaid : Prop := squeezeDecodeUptoRow.holds Try.pinned (OpenSpec.upto squeezeDecodeSpec)

/-- 'chroniclelaw2.SqueezeUnlike', WHERE WHAT IT READS IS OF BULK AT MOST 1048576: true; the input reads as it did. -/
def squeezeUnlikeUptoRow : OpenClaim := { program := "ytmdpncjffikmiaa", sum := "cd17ac5febfc16422d2fd1e39633a7043d7a0dcb992ee5f83f308bbba70d62b8", func := "chronicle/chroniclelaw2.SqueezeUnlike", spec := "squeezeUnlike", apart := false, narrowed := true }
def SqueezeUnlikeUptoSaid : Prop := squeezeUnlikeUptoRow.holds Try.pinned (OpenSpec.upto squeezeUnlikeSpec)

/-- 'chroniclelaw2.SqueezeRuns', WHERE WHAT IT READS IS OF BULK AT MOST 1048576: true; the input reads as it did. -/
def squeezeRunsUptoRow : OpenClaim := { program := "ytmdpncjffikmiaa", sum := "cd17ac5febfc16422d2fd1e39633a7043d7a0dcb992ee5f83f308bbba70d62b8", func := "chronicle/chroniclelaw2.SqueezeRuns", spec := "squeezeRuns", apart := false, narrowed := true }
def SqueezeRunsUptoSaid : Prop := squeezeRunsUptoRow.holds Try.pinned (OpenSpec.upto squeezeRunsSpec)

/-- 'chroniclelaw2.SqueezeFar', WHERE WHAT IT READS IS OF BULK AT MOST 1048576: true; the input reads as it did. -/
def squeezeFarUptoRow : OpenClaim := { program := "ytmdpncjffikmiaa", sum := "cd17ac5febfc16422d2fd1e39633a7043d7a0dcb992ee5f83f308bbba70d62b8", func := "chronicle/chroniclelaw2.SqueezeFar", spec := "squeezeFar", apart := false, narrowed := true }
def SqueezeFarUptoSaid : Prop := squeezeFarUptoRow.holds Try.pinned (OpenSpec.upto squeezeFarSpec)

/-- 'chroniclelaw2.SqueezeOnly', WHERE WHAT IT READS IS OF BULK AT MOST 1048576: true; the input reads as it did. -/
def squeezeOnlyUptoRow : OpenClaim := { program := "ytmdpncjffikmiaa", sum := "cd17ac5febfc16422d2fd1e39633a7043d7a0dcb992ee5f83f308bbba70d62b8", func := "chronicle/chroniclelaw2.SqueezeOnly", spec := "squeezeOnly", apart := false, narrowed := true }
def SqueezeOnlyUptoSaid : Prop := squeezeOnlyUptoRow.holds Try.pinned (OpenSpec.upto squeezeOnlySpec)

/-- 'chroniclelaw2.SqueezeBack', WHERE WHAT IT READS IS OF BULK AT MOST 1048576: true; the input reads as it did. -/
def squeezeBackUptoRow : OpenClaim := { program := "ytmdpncjffikmiaa", sum := "cd17ac5febfc16422d2fd1e39633a7043d7a0dcb992ee5f83f308bbba70d62b8", func := "chronicle/chroniclelaw2.SqueezeBack", spec := "squeezeBack", apart := false, narrowed := true }
def SqueezeBackUptoSaid : Prop := squeezeBackUptoRow.holds Try.pinned (OpenSpec.upto squeezeBackSpec)

end Rows
end Go.Proofs.Ytmdpncjffikmiaa
