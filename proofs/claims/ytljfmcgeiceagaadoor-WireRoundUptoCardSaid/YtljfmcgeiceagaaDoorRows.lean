/-
  NARROWER THAN 'FOR EVERY INPUT', by the rows' own cells (each row's printed sentence says how): WireRequests: laid · WireRound: laid · WireDamage: laid · WireHeads: laid · WireRoom: laid.
  DERIVED. THE GIVEN ROWS OF THIS SEAT. 5 by the template 'for every input the law returns true; each argument reads behind the call as it read before'; 0 by the template 'total and deterministic' (their statements: YtljfmcgeiceagaaDoorTotals.lean).
  GIVEN WITH THE SEED: the statements are not yours to turn. If you find one false, say at which input.
  Laid BY PROGRAM, IN A SANDBOX (cutbox-rows.mjs): the forced cells as the released guide's own fill.sh prints them over the translation 030311473caec8fe… (all of the seat's roots in one cut). By AI agents, Wed Nov 11 2026. No macro, syntax, notation, axiom, sorry.
-/
import Derived.Test.YtljfmcgeiceagaaDoorChecked
import GoSem.Claim
import GoSem.ClaimJoined
import GoSem.ClaimMapViews
import Derived.JoinedTies
import Derived.KernelRfl
namespace Go.Proofs.YtljfmcgeiceagaaDoor
/- THE CELL 'sum', in the pinned program and in every row, IS THE sha256 OF THE DUMP (.gsa) THAT YtljfmcgeiceagaaDoorProg.lean LOADS. Nothing in Lean hashes anything: it is a label: what it is worth is what the hold of that sum in a sandbox is worth. -/
noncomputable def Tryd.pinned : Pinned := { name := "ytljfmcgeiceagaadoor", sum := "030311473caec8fe2450e64fdbe063977c87029a8e9057c09de2534930ad18b5", checked := Tryd.checked }
namespace Rows
def none {H : Type} : Left H := { results := [], args := [] }

/- WHAT THE LISTED PACKAGE-LEVEL VARIABLES READ AS WHEN THE CALL BEGINS. Each datum BY PROGRAM (the guide's laid-datum.mjs) off the statement by which the dump's own 'gosem.cut.vars' lays the variable. In a bare row this is a premise. The card (YtljfmcgeiceagaaDoorCards.lean) ties it to the program's text. -/
def laid_chronicle_wire_uses {H : Type} : DataW H := .agg [.agg [.lit (.int .i64 0)], .agg [.lit (.int .i64 0)], .agg [.lit (.int .i64 17)], .agg [.lit (.int .i64 1)], .agg [.lit (.int .i64 2)], .agg [.lit (.int .i64 103)], .agg [.lit (.int .i64 99)], .agg [.lit (.int .i64 3)], .agg [.lit (.int .i64 9)], .agg [.lit (.int .i64 3)], .agg [.lit (.int .i64 9)], .agg [.lit (.int .i64 16)], .agg [.lit (.int .i64 2)], .agg [.lit (.int .i64 27)], .agg [.lit (.int .i64 3)], .agg [.lit (.int .i64 1)]]

/-- 'chroniclelaw16.WireRequests': WHATEVER THE INPUT: true; the input reads as it did. -/
def wireRequestsSpec : ChangeSpec := { name := "wireRequests", fn := fun _ => fun
  | [d1, d2] => { results := [.lit (.bool true)], args := [d1, d2] }
  | _ => none }
def wireRequestsRow : OpenClaim := { program := "ytljfmcgeiceagaadoor", sum := "030311473caec8fe2450e64fdbe063977c87029a8e9057c09de2534930ad18b5", func := "chronicle/chroniclelaw16.WireRequests", spec := "wireRequests", unfollowed := true, recurses := true, named := ["chronicle/wire.uses"], apart := false, laid := [("chronicle/wire.uses", laid_chronicle_wire_uses)] }
def WireRequestsSaid : Prop := wireRequestsRow.holds Tryd.pinned (OpenSpec.ofChange wireRequestsSpec)

/-- ITS FALSE NEIGHBOUR: 'it returns false'. Refute it at one input. -/
def wireRequestsWrong : ChangeSpec := { name := "wireRequests", fn := fun _ => fun
  | [d1, d2] => { results := [.lit (.bool false)], args := [d1, d2] }
  | _ => none }
def WireRequestsWrongFalsely : Prop := wireRequestsRow.holds Tryd.pinned (OpenSpec.ofChange wireRequestsWrong)

/-- 'chroniclelaw16.WireRound': WHATEVER THE INPUT: true; the input reads as it did. -/
def wireRoundSpec : ChangeSpec := { name := "wireRound", fn := fun _ => fun
  | [d1, d2, d3, d4] => { results := [.lit (.bool true)], args := [d1, d2, d3, d4] }
  | _ => none }
def wireRoundRow : OpenClaim := { program := "ytljfmcgeiceagaadoor", sum := "030311473caec8fe2450e64fdbe063977c87029a8e9057c09de2534930ad18b5", func := "chronicle/chroniclelaw16.WireRound", spec := "wireRound", unfollowed := true, recurses := true, named := ["chronicle/wire.uses"], apart := false, laid := [("chronicle/wire.uses", laid_chronicle_wire_uses)] }
def WireRoundSaid : Prop := wireRoundRow.holds Tryd.pinned (OpenSpec.ofChange wireRoundSpec)

/-- ITS FALSE NEIGHBOUR: 'it returns false'. Refute it at one input. -/
def wireRoundWrong : ChangeSpec := { name := "wireRound", fn := fun _ => fun
  | [d1, d2, d3, d4] => { results := [.lit (.bool false)], args := [d1, d2, d3, d4] }
  | _ => none }
def WireRoundWrongFalsely : Prop := wireRoundRow.holds Tryd.pinned (OpenSpec.ofChange wireRoundWrong)

/-- 'chroniclelaw16.WireDamage': WHATEVER THE INPUT: true; the input reads as it did. -/
def wireDamageSpec : ChangeSpec := { name := "wireDamage", fn := fun _ => fun
  | [d1, d2, d3, d4] => { results := [.lit (.bool true)], args := [d1, d2, d3, d4] }
  | _ => none }
def wireDamageRow : OpenClaim := { program := "ytljfmcgeiceagaadoor", sum := "030311473caec8fe2450e64fdbe063977c87029a8e9057c09de2534930ad18b5", func := "chronicle/chroniclelaw16.WireDamage", spec := "wireDamage", unfollowed := true, recurses := true, named := ["chronicle/wire.uses"], apart := false, laid := [("chronicle/wire.uses", laid_chronicle_wire_uses)] }
def WireDamageSaid : Prop := wireDamageRow.holds Tryd.pinned (OpenSpec.ofChange wireDamageSpec)

/-- ITS FALSE NEIGHBOUR: 'it returns false'. Refute it at one input. -/
def wireDamageWrong : ChangeSpec := { name := "wireDamage", fn := fun _ => fun
  | [d1, d2, d3, d4] => { results := [.lit (.bool false)], args := [d1, d2, d3, d4] }
  | _ => none }
def WireDamageWrongFalsely : Prop := wireDamageRow.holds Tryd.pinned (OpenSpec.ofChange wireDamageWrong)

/-- 'chroniclelaw16.WireHeads': WHATEVER THE INPUT: true; the input reads as it did. -/
def wireHeadsSpec : ChangeSpec := { name := "wireHeads", fn := fun _ => fun
  | [d] => { results := [.lit (.bool true)], args := [d] }
  | _ => none }
def wireHeadsRow : OpenClaim := { program := "ytljfmcgeiceagaadoor", sum := "030311473caec8fe2450e64fdbe063977c87029a8e9057c09de2534930ad18b5", func := "chronicle/chroniclelaw16.WireHeads", spec := "wireHeads", unfollowed := true, recurses := true, named := ["chronicle/wire.uses"], apart := false, laid := [("chronicle/wire.uses", laid_chronicle_wire_uses)] }
def WireHeadsSaid : Prop := wireHeadsRow.holds Tryd.pinned (OpenSpec.ofChange wireHeadsSpec)

/-- ITS FALSE NEIGHBOUR: 'it returns false'. Refute it at one input. -/
def wireHeadsWrong : ChangeSpec := { name := "wireHeads", fn := fun _ => fun
  | [d] => { results := [.lit (.bool false)], args := [d] }
  | _ => none }
def WireHeadsWrongFalsely : Prop := wireHeadsRow.holds Tryd.pinned (OpenSpec.ofChange wireHeadsWrong)

/-- 'chroniclelaw16.WireRoom': WHATEVER THE INPUT: true; the input reads as it did. -/
def wireRoomSpec : ChangeSpec := { name := "wireRoom", fn := fun _ => fun
  | [d1, d2, d3, d4, d5] => { results := [.lit (.bool true)], args := [d1, d2, d3, d4, d5] }
  | _ => none }
def wireRoomRow : OpenClaim := { program := "ytljfmcgeiceagaadoor", sum := "030311473caec8fe2450e64fdbe063977c87029a8e9057c09de2534930ad18b5", func := "chronicle/chroniclelaw16.WireRoom", spec := "wireRoom", unfollowed := true, recurses := true, named := ["chronicle/wire.uses"], apart := false, laid := [("chronicle/wire.uses", laid_chronicle_wire_uses)] }
def WireRoomSaid : Prop := wireRoomRow.holds Tryd.pinned (OpenSpec.ofChange wireRoomSpec)

/-- ITS FALSE NEIGHBOUR: 'it returns false'. Refute it at one input. -/
def wireRoomWrong : ChangeSpec := { name := "wireRoom", fn := fun _ => fun
  | [d1, d2, d3, d4, d5] => { results := [.lit (.bool false)], args := [d1, d2, d3, d4, d5] }
  | _ => none }
def WireRoomWrongFalsely : Prop := wireRoomRow.holds Tryd.pinned (OpenSpec.ofChange wireRoomWrong)

/- THE SECOND FORM. 'bulk': how many values and letters a reading holds, each counted each time it is reached (what is shared counts as often as it is met; a slice's spare places count too). A statement '..UptoSaid' is the law's where the arguments, and the package variables that the reading takes, are together of bulk at most 1048576: NARROWER than '..Said'. Prove '..Said' where nothing that the law and all that it calls make is longer than what came in: it says more and counts as full. Else prove '..UptoSaid'. A law counts once. -/
mutual
def uptoBulk {H : Type} : DataW H → Nat
  | .lit (.string bytes) => bytes.length + 1
  | .lit _ => 1
  | .nil => 1
  | .ptr d => uptoBulk d + 1
  | .slice elems spare => uptoBulkAll elems + uptoBulkAll spare + 1
  | .agg parts => uptoBulkAll parts + 1
  | .iface _ d => uptoBulk d + 1
  | .map entries => uptoBulkEntries entries + 1
  | .held _ => 1
def uptoBulkAll {H : Type} : List (DataW H) → Nat
  | [] => 0
  | d :: r => uptoBulk d + uptoBulkAll r
def uptoBulkEntries {H : Type} : List (Lit × DataW H) → Nat
  | [] => 0
  | x :: r => uptoBulkEntry x + uptoBulkEntries r
def uptoBulkEntry {H : Type} : Lit × DataW H → Nat
  | (.string bytes, d) => bytes.length + uptoBulk d + 1
  | (_, d) => uptoBulk d + 1
 end
def uptoSmall : (H : Type) → List (DataW H) → Bool := fun _ ds => decide (uptoBulkAll ds ≤ 1048576)
def OpenSpec.upto (s : _root_.Go.ChangeSpec) : _root_.Go.OpenSpec := { _root_.Go.OpenSpec.ofChange s with cond := some uptoSmall }

/-- 'chroniclelaw16.WireRequests', WHERE WHAT IT READS IS OF BULK AT MOST 1048576: true; the input reads as it did. -/
def wireRequestsUptoRow : OpenClaim := { program := "ytljfmcgeiceagaadoor", sum := "030311473caec8fe2450e64fdbe063977c87029a8e9057c09de2534930ad18b5", func := "chronicle/chroniclelaw16.WireRequests", spec := "wireRequests", unfollowed := true, recurses := true, named := ["chronicle/wire.uses"], apart := false, laid := [("chronicle/wire.uses", laid_chronicle_wire_uses)], narrowed := true }
def WireRequestsUptoSaid : Prop := wireRequestsUptoRow.holds Tryd.pinned (OpenSpec.upto wireRequestsSpec)

/-- 'chroniclelaw16.WireRound', WHERE WHAT IT READS IS OF BULK AT MOST 1048576: true; the input reads as it did. -/
def wireRoundUptoRow : OpenClaim := { program := "ytljfmcgeiceagaadoor", sum := "030311473caec8fe2450e64fdbe063977c87029a8e9057c09de2534930ad18b5", func := "chronicle/chroniclelaw16.WireRound", spec := "wireRound", unfollowed := true, recurses := true, named := ["chronicle/wire.uses"], apart := false, laid := [("chronicle/wire.uses", laid_chronicle_wire_uses)], narrowed := true }
def WireRoundUptoSaid : Prop := wireRoundUptoRow.holds Tryd.pinned (OpenSpec.upto wireRoundSpec)

/-- 'chroniclelaw16.WireDamage', WHERE WHAT IT READS IS OF BULK AT MOST 1048576: true; the input reads as it did. -/
def wireDamageUptoRow : OpenClaim := { program := "ytljfmcgeiceagaadoor", sum := "030311473caec8fe2450e64fdbe063977c87029a8e9057c09de2534930ad18b5", func := "chronicle/chroniclelaw16.WireDamage", spec := "wireDamage", unfollowed := true, recurses := true, named := ["chronicle/wire.uses"], apart := false, laid := [("chronicle/wire.uses", laid_chronicle_wire_uses)], narrowed := true }
def WireDamageUptoSaid : Prop := wireDamageUptoRow.holds Tryd.pinned (OpenSpec.upto wireDamageSpec)

/-- 'chroniclelaw16.WireHeads', WHERE WHAT IT READS IS OF BULK AT MOST 1048576: true; the input reads as it did. -/
def wireHeadsUptoRow : OpenClaim := { program := "ytljfmcgeiceagaadoor", sum := "030311473caec8fe2450e64fdbe063977c87029a8e9057c09de2534930ad18b5", func := "chronicle/chroniclelaw16.WireHeads", spec := "wireHeads", unfollowed := true, recurses := true, named := ["chronicle/wire.uses"], apart := false, laid := [("chronicle/wire.uses", laid_chronicle_wire_uses)], narrowed := true }
def WireHeadsUptoSaid : Prop := wireHeadsUptoRow.holds Tryd.pinned (OpenSpec.upto wireHeadsSpec)

/-- 'chroniclelaw16.WireRoom', WHERE WHAT IT READS IS OF BULK AT MOST 1048576: true; the input reads as it did. -/
def wireRoomUptoRow : OpenClaim := { program := "ytljfmcgeiceagaadoor", sum := "030311473caec8fe2450e64fdbe063977c87029a8e9057c09de2534930ad18b5", func := "chronicle/chroniclelaw16.WireRoom", spec := "wireRoom", unfollowed := true, recurses := true, named := ["chronicle/wire.uses"], apart := false, laid := [("chronicle/wire.uses", laid_chronicle_wire_uses)], narrowed := true }
def WireRoomUptoSaid : Prop := wireRoomUptoRow.holds Tryd.pinned (OpenSpec.upto wireRoomSpec)

end Rows
end Go.Proofs.YtljfmcgeiceagaaDoor
