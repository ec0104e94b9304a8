/- A request handed in by value, opened. -/
import Derived.Test.YtljfmcgeiceagaaGreatD3
import Derived.Test.YtljfmcgeiceagaaGreatQ1
namespace Go.Proofs.YtljfmcgeiceagaaGreat
open Go Go.RowKit Go.ChangeShapes Go.WideShapes Go.ChangeAt
set_option linter.unusedVariables false

/-- What can come in, the texts aside. -/
structure Rq.Nm (x : Rq) : Prop where
  id : x.id < 4294967296
  op : r64 x.op
  o : r64 x.o
  n : r64 x.n
  p : r64 x.p
  s : r64 x.s
theorem Rq.Nm.ok {x : Rq} (h : x.Nm) (hm : MayQ x) : x.Ok := hm.ok h.id h.o h.n h.p h.s
theorem field_uint32 {H : Type} {enc : TypeId × Value → H} {w : World} {base : Nat} {spare : Nat → Bool} {held : Bool} {n : Nat} {t : TypeId} (ht : Tryz.prog.underlying t = some (.int .u32)) {c : Value} {y : Option (DataW H × List MemPlace)} {x : DataW H × List MemPlace} (hy : y = some x)
    (h : DataW.trod enc Tryz.prog w base spare held n t [c] = y) : ∃ k : Nat, c = .int .u32 (k : Int) ∧ k < 4294967296 := by
  rw [hy] at h
  obtain ⟨k, h1, _, h2⟩ := DataW.trod_int ht h
  simp only [List.cons.injEq, and_true] at h1
  obtain ⟨m, rfl, hm⟩ := nat_of_wf_u32 h2
  exact ⟨m, h1, hm⟩
end Go.Proofs.YtljfmcgeiceagaaGreat
