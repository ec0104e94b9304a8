/- Answers: tokens of the call's own, as they are held over later calls. -/
import Derived.Test.YtljfmcgeiceagaaSqTs
import Derived.Test.YtljfmcgeiceagaaS2
namespace Go.Proofs.Ytljfmcgeiceagaa
open Go Go.RowKit
set_option linter.unusedVariables false
set_option linter.unusedSimpArgs false

/-- What a reader leaves, its number of tokens spelled by the answer. -/
def AnsT2 (w : World) (q : List Tk × Int) (e : Ending) (w' : World) : Prop :=
  ∃ A c l, e = .returned (.tuple #[.slice A q.1.length c, .int .i64 q.2]) ∧ toks l = q.1 ∧ Ts w' w.heap.size (.slice A q.1.length c) q.1.length l ∧ Below w.heap.size w w'
theorem AnsT.two {w w' : World} {q : List Tk × Int} {e : Ending} (h : AnsT w q e w') : AnsT2 w q e w' := by
  obtain ⟨A, c, N, l, rfl, hq, ht, hb⟩ := h
  have hN : N = q.1.length := by rw [← ht.len, ← hq]; simp [toks]
  subst hN
  exact ⟨A, c, l, rfl, hq, ht, hb⟩
theorem Ts.keptB {W0 W W' : World} {S : Nat → Prop} {B N : Nat} {v : Value} {l : List TkV} (h0 : Ts W0 B v N l) (h : Ts W B v N l) (hk : KeptS W W' S) (hS : ∀ q, S q → q < B ∨ W0.heap.size ≤ q) : Ts W' B v N l := by
  refine h.keptS hk (fun q hq hs => ?_) (fun x hx a ha hs => ?_)
  · have := h0.row.lt q hq
    rcases hS q hs with h1 | h1 <;> omega
  · have := (h0.lit x hx).lt ha
    rcases hS _ hs with h1 | h1 <;> omega
theorem own_keptB {W0 W W' : World} {S : Nat → Prop} {base n : Nat} {v : Value} {e : TypeId} {size : Nat} {xs : List Value} (h0 : W0.ownsRow base e size v n xs) (h : W.ownsRow base e size v n xs) (hk : KeptS W W' S) (hS : ∀ q, S q → q < base ∨ W0.heap.size ≤ q) : W'.ownsRow base e size v n xs := by
  refine own_keptS h hk (fun q hq hs => ?_)
  have := h0.lt q hq
  rcases hS q hs with h1 | h1 <;> omega
theorem toks_len (l : List TkV) : (toks l).length = l.length := by simp [toks]
/-- Tokens of which a text is made are not too many. -/
theorem fine_count {ts : List Tk} {T : List Nat} (h : exp [] ts = (T, 0)) : ts.length ≤ 4096 := by
  have h1 := (fine_of_exp h).2
  have h2 := exp_len ts [] (by simp)
  rw [h] at h2
  simp only [List.length_nil] at h1 h2
  omega
end Go.Proofs.Ytljfmcgeiceagaa
