/- The tokens of a text, by the words: in plain Lean. -/
import Derived.Test.YtmdpncjffikmiaaSqBack
import Derived.Test.YtmdpncjffikmiaaSqMl
namespace Go.Proofs.Ytmdpncjffikmiaa
open Go Go.RowKit
set_option linter.unusedVariables false
set_option linter.unusedSimpArgs false

def GrT (t : List Nat) : Nat → Bool → List Tk → Prop
  | i, _, [] => i = t.length
  | i, p, x :: r => (0 < x.lit.length ∧ x.d = 0 ∧ x.l = 0 ∧ i + x.lit.length ≤ t.length ∧ x.lit = (t.take (i + x.lit.length)).drop i ∧ p = false ∧
      (∀ k d, k < x.lit.length → 1 ≤ d → d ≤ i + k → d ≤ 2048 → ml t (i + k) d < 5) ∧ GrT t (i + x.lit.length) true r) ∨
    (x.lit = [] ∧ ∃ L D : Nat, x.l = (L : Int) ∧ x.d = (D : Int) ∧ 5 ≤ L ∧ L ≤ 258 ∧ 1 ≤ D ∧ D ≤ i ∧ D ≤ 2048 ∧ i + L ≤ t.length ∧
      (∀ d, 1 ≤ d → d ≤ i → d ≤ 2048 → ml t i d ≤ L ∧ (ml t i d = L → D ≤ d) ∧ (d = D → ml t i d = L)) ∧ GrT t (i + L) false r)

theorem grT_lit {t lit : List Nat} {b i : Nat} {r : List Tk} (hb : b < i) (hi : i ≤ t.length) (hl : lit = (t.take i).drop b) (hm : ∀ k d, b ≤ k → k < i → 1 ≤ d → d ≤ k → d ≤ 2048 → ml t k d < 5) (hr : GrT t i true r) : GrT t b false (⟨lit, 0, 0⟩ :: r) := by
  have hlen : lit.length = i - b := by rw [hl, List.length_drop, List.length_take]; omega
  have e : b + lit.length = i := by omega
  refine .inl ⟨by simp only; omega, rfl, rfl, by simp only; omega, ?_, rfl, ?_, ?_⟩
  · simp only
    rw [e]
    exact hl
  · intro k d h1 h2 h3 h4
    simp only at h1
    exact hm (b + k) d (by omega) (by omega) h2 h3 h4
  · simp only
    rw [e]
    exact hr
theorem grT_tok (t : List Nat) : ∀ f i b, t.length ≤ i + f → b ≤ i → i ≤ t.length → (∀ k d, b ≤ k → k < i → 1 ≤ d → d ≤ k → d ≤ 2048 → ml t k d < 5) → GrT t b false (tok t f i ((t.take i).drop b))
  | f, i, b, hf, hb, hi, hm => by
    by_cases hlt : i < t.length
    · cases f with
      | zero => omega
      | succ f =>
        rcases best_is t i hi with hn | ⟨L, D, hbe, b1, b2, b3, b4, b5, b6, b7, b8, b9⟩
        · rw [tok_step rfl hlt hb (by rw [hn.1])]
          refine grT_tok t f (i + 1) b (by omega) (by omega) hlt ?_
          intro k d h1 h2 h3 h4 h5
          by_cases e : k = i
          · subst e
            exact hn.2 d h3 h4 h5
          · exact hm k d h1 (by omega) h3 h4 h5
        · rw [tok_match hlt (by rw [hbe]; simp only; omega), hbe]
          simp only
          have ih := grT_tok t f (i + L) (i + L) (by omega) (Nat.le_refl _) b6 (fun k d h1 h2 => by omega)
          rw [drop_all] at ih
          have hmt : ∀ p, GrT t i p (⟨[], (D : Int), (L : Int)⟩ :: tok t f (i + L) []) := by
            intro p
            refine .inr ⟨rfl, L, D, rfl, rfl, b1, b2, b3, b4, b5, b6, ?_, ih⟩
            intro d h1 h2 h3
            have h4 := b8 d h1 h2 h3
            refine ⟨h4, fun h5 => ?_, fun h5 => by rw [h5]; exact b7⟩
            rcases Nat.lt_or_ge d D with h6 | h6
            · have := b9 d h1 h6; omega
            · exact h6
          by_cases hbi : b < i
          · have h0 : 0 < ((t.take i).drop b).length := by rw [List.length_drop, List.length_take]; omega
            rw [flush_one h0]
            exact grT_lit hbi hi rfl hm (hmt true)
          · have e : b = i := by omega
            subst e
            rw [drop_all]
            exact hmt false
    · have hie : i = t.length := by omega
      rw [tok_end (by omega)]
      by_cases hbi : b < i
      · have h0 : 0 < ((t.take i).drop b).length := by rw [List.length_drop, List.length_take]; omega
        rw [flush_one h0]
        exact grT_lit hbi hi rfl hm hie
      · have e : b = i := by omega
        subst e
        rw [drop_all]
        exact hie
theorem grT_tokens (t : List Nat) : GrT t 0 false (tokens t) := by
  have := grT_tok t t.length 0 0 (by omega) (Nat.le_refl _) (Nat.zero_le _) (fun k d h1 h2 => by omega)
  simpa [tokens] using this
/-- Is the token ahead of the place k a literal? -/
def prevL (ts : List Tk) (k : Nat) : Bool := decide (0 < k ∧ 0 < ((ts[k - 1]?).map (fun x => x.lit.length)).getD 0)
theorem prevL_succ {ts : List Tk} {k : Nat} {x : Tk} (h : ts[k]? = some x) : prevL ts (k + 1) = decide (0 < x.lit.length) := by
  unfold prevL
  rw [Nat.add_sub_cancel, h]
  simp
theorem grT_step {t : List Nat} {i k : Nat} {ts : List Tk} {x : Tk} (h : GrT t i (prevL ts k) (ts.drop k)) (hx : ts[k]? = some x) :
    (0 < x.lit.length ∧ x.d = 0 ∧ x.l = 0 ∧ i + x.lit.length ≤ t.length ∧ x.lit = (t.take (i + x.lit.length)).drop i ∧ prevL ts k = false ∧
      (∀ k d, k < x.lit.length → 1 ≤ d → d ≤ i + k → d ≤ 2048 → ml t (i + k) d < 5) ∧ GrT t (i + x.lit.length) (prevL ts (k + 1)) (ts.drop (k + 1))) ∨
    (x.lit = [] ∧ ∃ L D : Nat, x.l = (L : Int) ∧ x.d = (D : Int) ∧ 5 ≤ L ∧ L ≤ 258 ∧ 1 ≤ D ∧ D ≤ i ∧ D ≤ 2048 ∧ i + L ≤ t.length ∧
      (∀ d, 1 ≤ d → d ≤ i → d ≤ 2048 → ml t i d ≤ L ∧ (ml t i d = L → D ≤ d) ∧ (d = D → ml t i d = L)) ∧ GrT t (i + L) (prevL ts (k + 1)) (ts.drop (k + 1))) := by
  obtain ⟨h1, h2⟩ := List.getElem?_eq_some_iff.1 hx
  rw [List.drop_eq_getElem_cons h1, h2] at h
  rcases h with ⟨a1, a2, a3, a4, a5, a6, a7, a8⟩ | ⟨b1, L, D, c⟩
  · exact .inl ⟨a1, a2, a3, a4, a5, a6, a7, by rw [prevL_succ hx, decide_eq_true a1]; exact a8⟩
  · refine .inr ⟨b1, L, D, ?_⟩
    rw [prevL_succ hx, show decide (0 < x.lit.length) = false by rw [b1]; rfl]
    exact c
theorem grT_end {t : List Nat} {i k : Nat} {ts : List Tk} (h : GrT t i (prevL ts k) (ts.drop k)) (hk : ts.length ≤ k) : i = t.length := by
  rw [List.drop_eq_nil_of_le hk] at h
  exact h
theorem tokens_pos {t : List Nat} : 0 < t.length ↔ 0 < (tokens t).length := by
  have h := grT_tokens t
  constructor
  · intro h0
    cases e : tokens t with
    | nil => rw [e] at h; have : 0 = t.length := h; omega
    | cons => simp
  · intro h0
    cases e : tokens t with
    | nil => rw [e] at h0; simp at h0
    | cons x r =>
      rw [e] at h
      rcases h with h | ⟨_, L, D, h⟩ <;> omega
end Go.Proofs.Ytmdpncjffikmiaa
