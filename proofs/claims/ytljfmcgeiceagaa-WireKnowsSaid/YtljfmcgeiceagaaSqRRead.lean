/- Read, the document's. -/
import Derived.Test.YtljfmcgeiceagaaSqRNum
import Derived.Test.YtljfmcgeiceagaaSqTs
import Derived.Test.YtljfmcgeiceagaaS1
import Derived.Test.YtljfmcgeiceagaaF1
import Derived.Test.YtljfmcgeiceagaaS2
namespace Go.Proofs.Ytljfmcgeiceagaa
open Go Go.RowKit
set_option linter.unusedVariables false
set_option linter.unusedSimpArgs false

theorem nA_none {b : List Nat} {q v x : Nat} (h : nAt b q = (v, x, false)) : nA b q = none := by
  unfold nAt at h
  cases e : nA b q with
  | none => rfl
  | some p => rw [e] at h; simp at h
theorem nA_some {b : List Nat} {q v x : Nat} (h : nAt b q = (v, x, true)) : nA b q = some (v, x) := by
  unfold nAt at h
  cases e : nA b q with
  | none => rw [e] at h; simp at h
  | some p => rw [e] at h; simp only [Prod.mk.injEq, and_true] at h; rw [← h.1, ← h.2]
section
variable {b : List Nat} {f q v x d e : Nat} {ts : List Tk}
theorem rr_end (h : b.length ≤ q) : rrLoop b (f + 1) q ts = some ts := by rw [rrLoop, if_neg (by omega)]
theorem rr_bad (h : q < b.length) (h1 : nAt b q = (v, x, false)) : rrLoop b (f + 1) q ts = none := by rw [rrLoop, if_pos h, nA_none h1]
theorem rr_short (h : q < b.length) (h1 : nAt b q = (v, x, true)) (h2 : v % 2 = 0) (h3 : b.length - x < v / 2) : rrLoop b (f + 1) q ts = none := by
  rw [rrLoop, if_pos h, nA_some h1]
  simp only
  rw [if_pos h2, if_pos h3]
theorem rr_lit (h : q < b.length) (h1 : nAt b q = (v, x, true)) (h2 : v % 2 = 0) (h3 : ¬ b.length - x < v / 2) {t : Tk} (ht : t = ⟨(b.drop x).take (v / 2), 0, 0⟩) : rrLoop b (f + 1) q ts = rrLoop b f (x + v / 2) (ts ++ [t]) := by
  subst ht
  rw [rrLoop, if_pos h, nA_some h1]
  simp only
  rw [if_pos h2, if_neg h3]
theorem rr_bad2 (h : q < b.length) (h1 : nAt b q = (v, x, true)) (h2 : ¬ v % 2 = 0) (h3 : nAt b x = (d, e, false)) : rrLoop b (f + 1) q ts = none := by
  rw [rrLoop, if_pos h, nA_some h1]
  simp only
  rw [if_neg h2, nA_none h3]
theorem rr_match (h : q < b.length) (h1 : nAt b q = (v, x, true)) (h2 : ¬ v % 2 = 0) (h3 : nAt b x = (d, e, true)) {t : Tk} (ht : t = ⟨[], (d : Nat), (v / 2 : Nat)⟩) : rrLoop b (f + 1) q ts = rrLoop b f e (ts ++ [t]) := by
  subst ht
  rw [rrLoop, if_pos h, nA_some h1]
  simp only
  rw [if_neg h2, nA_some h3]
theorem rrd_bad (h : nAt b 0 = (v, x, false)) : rrd1 b = none := by unfold rrd1; rw [nA_none h]
theorem rrd_go (h : nAt b 0 = (v, x, true)) : rrd1 b = rrLoop b (b.length + 1) x [] := by unfold rrd1; rw [nA_some h]
end
theorem toks_push (l : List TkV) (y : TkV) : toks (l ++ [y]) = toks l ++ [y.tk] := by simp [toks]

end Go.Proofs.Ytljfmcgeiceagaa
