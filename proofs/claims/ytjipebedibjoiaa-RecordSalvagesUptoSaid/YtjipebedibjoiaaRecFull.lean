/- A row with four marks behind it. -/
import Derived.Test.YtjipebedibjoiaaF1
import Derived.Test.YtjipebedibjoiaaRecT
namespace Go.Proofs.Ytjipebedibjoiaa
open Go Go.RowKit
set_option linter.unusedVariables false
set_option linter.unusedSimpArgs false

structure Full (w wr : World) (gf cf m : Nat) (bs : List Nat) : Prop where
  f : wr.ownsRow w.heap.size 5 1 (.slice (some ⟨gf, 0, none⟩) (m + 4) cf) (m + 4) (b8 bs)
  be : Below w.heap.size w wr
section
variable {w wr W : World} {gf cf m : Nat} {bs bs' : List Nat}
theorem Full.sz (h : Full w wr gf cf m bs) : w.heap.size ≤ wr.heap.size := h.be.size
theorem Full.below (h : Full w wr gf cf m bs) (hb : Below wr.heap.size wr W) : Full w W gf cf m bs := ⟨own_below h.f hb, h.be.trans (hb.mono h.sz)⟩
theorem Full.flip (h : Full w wr gf cf m bs) (ho : W.ownsRow w.heap.size 5 1 (.slice (some ⟨gf, 0, none⟩) (m + 4) cf) (m + 4) (b8 bs')) (hg : wr.grownBy W (some gf)) : Full w W gf cf m bs' :=
  ⟨ho, h.be.trans (below_of_grown hg h.sz (fun q hq => by injection hq with hq; subst hq; exact (h.f.lt gf rfl).1))⟩
theorem Full.rf (h : Full w wr gf cf m bs) : Rd wr (some ⟨gf, 0, none⟩) (b8 (bs.take m)) := by
  have := (rd_own h.f).take_ m
  simpa [b8, List.map_take] using this
theorem Full.cap (h : Full w wr gf cf m bs) : m + 4 ≤ cf := by
  obtain ⟨A, c, e, h1, _, _⟩ := own_shape h.f
  injection e with _ _ e3
  omega
end
abbrev mks : List Nat := [165, 90, 167, 91]
end Go.Proofs.Ytjipebedibjoiaa
