/- A request handed in by value, opened. -/
import Derived.Test.YtljfmcgeiceagaaDoorD3
import Derived.Test.YtljfmcgeiceagaaDoorQ1
namespace Go.Proofs.YtljfmcgeiceagaaDoor
open Go Go.RowKit Go.ChangeShapes Go.WideShapes Go.ChangeAt
set_option linter.unusedVariables false

/-- What can come in, the texts aside. -/
structure Rq.Nm (x : Rq) : Prop where
  id : x.id < 4294967296
  op : r64 x.op
  o : r64 x.o
  n : r64 x.n
  p : r64 x.p
  s : r64 x.s
theorem Rq.Nm.ok {x : Rq} (h : x.Nm) (hm : MayQ x) : x.Ok := hm.ok h.id h.o h.n h.p h.s
theorem array9 {α : Type} {cs : Array α} (h : cs.size = 9) : ∃ c0 c1 c2 c3 c4 c5 c6 c7 c8, cs = #[c0, c1, c2, c3, c4, c5, c6, c7, c8] := by
  obtain ⟨l⟩ := cs
  match l, h with
  | [c0, c1, c2, c3, c4, c5, c6, c7, c8], _ => exact ⟨c0, c1, c2, c3, c4, c5, c6, c7, c8, rfl⟩
theorem field_uint32 {H : Type} {enc : TypeId × Value → H} {w : World} {base : Nat} {spare : Nat → Bool} {held : Bool} {n : Nat} {t : TypeId} (ht : Tryd.prog.underlying t = some (.int .u32)) {c : Value} {y : Option (DataW H × List MemPlace)} {x : DataW H × List MemPlace} (hy : y = some x)
    (h : DataW.trod enc Tryd.prog w base spare held n t [c] = y) : ∃ k : Nat, c = .int .u32 (k : Int) ∧ k < 4294967296 := by
  rw [hy] at h
  obtain ⟨k, h1, _, h2⟩ := DataW.trod_int ht h
  simp only [List.cons.injEq, and_true] at h1
  obtain ⟨m, rfl, hm⟩ := nat_of_wf_u32 h2
  exact ⟨m, h1, hm⟩
set_option maxRecDepth 100000 in
theorem open_rq {H : Type} {enc : TypeId × Value → H} {w : World} {base : Nat} {spare : Nat → Bool} {held : Bool} {r : Reach} {b0 : Nat} {v : Value} {d : DataW H} {p : List MemPlace}
    (hv : Value.okWide Tryd.prog w r b0 24 v) (h : DataW.Trod enc Tryd.prog w base spare held 24 v d p) :
    ∃ x : Rq, v = x.V ∧ x.Nm := by
  obtain ⟨cs, rfl, hsz⟩ := okWide_struct Tryd.underlying24 hv
  obtain ⟨c0, c1, c2, c3, c4, c5, c6, c7, c8, rfl⟩ := array9 (hsz.trans (by kernel_rfl))
  obtain ⟨fuel, hf⟩ := h
  obtain ⟨xs, n, _, _, hl, hlen, hfs⟩ := DataW.trod_struct Tryd.underlying24 hf
  match xs, hlen with
  | [y0, y1, y2, y3, y4, y5, y6, y7, y8], _ =>
    have h0 := hfs 0 _ rfl
    have h1 := hfs 1 _ rfl
    have h2 := hfs 2 _ rfl
    have h3 := hfs 3 _ rfl
    have h4 := hfs 4 _ rfl
    have h5 := hfs 5 _ rfl
    have h6 := hfs 6 _ rfl
    have h7 := hfs 7 _ rfl
    have h8 := hfs 8 _ rfl
    simp only [Value.cells] at h0 h1 h2 h3 h4 h5 h6 h7 h8
    obtain ⟨k0, rfl, r0⟩ := field_uint32 Tryd.underlying22 rfl h0
    obtain ⟨k1, rfl, r1⟩ := field_int64 Tryd.underlying3 rfl h1
    obtain ⟨k2, rfl⟩ := field_string rfl h2
    obtain ⟨k3, rfl⟩ := field_string rfl h3
    obtain ⟨k4, rfl⟩ := field_string rfl h4
    obtain ⟨k5, rfl, r5⟩ := field_int64 Tryd.underlying2 rfl h5
    obtain ⟨k6, rfl, r6⟩ := field_int64 Tryd.underlying2 rfl h6
    obtain ⟨k7, rfl, r7⟩ := field_int64 Tryd.underlying2 rfl h7
    obtain ⟨k8, rfl, r8⟩ := field_int64 Tryd.underlying2 rfl h8
    exact ⟨⟨k0, k1, k2, k3, k4, k5, k6, k7, k8⟩, rfl, r0, r1, r5, r6, r7, r8⟩
end Go.Proofs.YtljfmcgeiceagaaDoor
