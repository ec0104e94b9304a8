/- The finder in memory: one block of 5121 cells. -/
import Derived.Test.YtljfmcgeiceagaaSqGreedy
import Derived.Test.YtljfmcgeiceagaaS2
import Derived.IntWalk
import Derived.RegionTactic
import Derived.ChangeAlike
import Derived.BigRegion
namespace Go.Proofs.Ytljfmcgeiceagaa
open Go Go.RowKit
set_option linter.unusedVariables false
set_option linter.unusedSimpArgs false

def fz (x : Value) : Array Value := ⟨x :: List.replicate 5120 (.int .i64 0)⟩
theorem run_buildF (A : Option Addr) (n c : Nat) (w : World) : (Instr.build 132 #[(0, .slice A n c)]).run Try.prog w = .ok (.agg (fz (.slice A n c))) w := by kernel_rfl
theorem run_boxF (x : Value) (w : World) : (Instr.box 132 (.agg (fz x))).run Try.prog w = .ok (.pointer (some ⟨w.heap.size, 0, none⟩)) (w.alloc (.cells (fz x) 132)) := by kernel_rfl

/-- The place ahead of a place (and 1), of those passed. -/
def ahd (t : List Nat) (m p : Nat) : Nat := if p < m ∧ p + 5 ≤ t.length then lastOf t p (hs t p) else 0
def fcl (x : Value) (t : List Nat) (m : Nat) : List Value := x :: ((List.range 1024).map (fun k => Value.int .i64 ((lastOf t m k : Nat) : Int)) ++ (List.range 4096).map (fun p => Value.int .i64 ((ahd t m p : Nat) : Int)))
/-- A finder that has passed m places. -/
def Fnd (W : World) (g : Nat) (A : Option Addr) (n c : Nat) (t : List Nat) (m : Nat) : Prop := W.heap[g]? = some (.cells ⟨fcl (.slice A n c) t m⟩ 132 (0, 0))

theorem fcl_text (x : Value) (t : List Nat) (m : Nat) : (fcl x t m)[0]? = some x := rfl
theorem fcl_last (x : Value) (t : List Nat) (m : Nat) {k : Nat} (hk : k < 1024) : (fcl x t m)[1 + k]? = some (.int .i64 ((lastOf t m k : Nat) : Int)) := by
  unfold fcl
  rw [Nat.add_comm, List.getElem?_cons_succ, List.getElem?_append_left (by simp; exact hk), List.getElem?_map, List.getElem?_range hk]
  rfl
theorem fcl_ahead (x : Value) (t : List Nat) (m : Nat) {p : Nat} (hp : p < 4096) : (fcl x t m)[1025 + p]? = some (.int .i64 ((ahd t m p : Nat) : Int)) := by
  have h1 : ∀ (l1 l2 : List Value) (q N : Nat), l1.length = N → (l1 ++ l2)[N + q]? = l2[q]? := fun l1 l2 q N h => by subst h; rw [List.getElem?_append_right (by omega), Nat.add_sub_cancel_left]
  unfold fcl
  rw [show 1025 + p = (1024 + p) + 1 by omega, List.getElem?_cons_succ, h1 _ _ p 1024 (by rw [List.length_map, List.length_range]), List.getElem?_map, List.getElem?_range hp]
  rfl
theorem fcl_length (x : Value) (t : List Nat) (m : Nat) : (fcl x t m).length = 5121 := by
  simp [fcl]
theorem fcl_new0 (x : Value) (t : List Nat) : (x :: List.replicate 5120 (.int .i64 0)) = fcl x t 0 := by
  apply List.ext_getElem?
  intro j
  rcases Nat.lt_or_ge j 5121 with h | h
  · rcases Nat.eq_zero_or_pos j with h0 | h0
    · subst h0; rw [fcl_text, List.getElem?_cons_zero]
    · obtain ⟨i, rfl⟩ : ∃ i, j = i + 1 := ⟨j - 1, by omega⟩
      rw [List.getElem?_cons_succ, List.getElem?_replicate, if_pos (by omega)]
      rcases Nat.lt_or_ge i 1024 with h1 | h1
      · rw [Nat.add_comm, fcl_last x t 0 h1]; rfl
      · obtain ⟨p, rfl⟩ : ∃ p, i = 1024 + p := ⟨i - 1024, by omega⟩
        rw [show 1024 + p + 1 = 1025 + p by omega, fcl_ahead x t 0 (by omega)]
        simp [ahd]
  · rw [List.getElem?_eq_none (by rw [List.length_cons, List.length_replicate]; omega), List.getElem?_eq_none (by rw [fcl_length]; exact h)]
theorem fcl_new (x : Value) (t : List Nat) : fz x = ⟨fcl x t 0⟩ := by
  unfold fz
  rw [fcl_new0 x t]
theorem hs_lt' (t : List Nat) (p : Nat) : hs t p < 1024 := hs_lt t p
/-- One place more is passed. -/
theorem fcl_pass (x : Value) (t : List Nat) {m : Nat} (hm : m + 5 ≤ t.length) (h4 : t.length ≤ 4096) : ((fcl x t m).set (1025 + m) (.int .i64 ((lastOf t m (hs t m) : Nat) : Int))).set (1 + hs t m) (.int .i64 ((m : Int) + 1)) = fcl x t (m + 1) := by
  have hh := hs_lt t m
  apply List.ext_getElem?
  intro j
  rw [List.getElem?_set, List.getElem?_set, List.length_set, fcl_length]
  rcases Nat.lt_or_ge j 5121 with h | h
  · rcases Nat.eq_zero_or_pos j with h0 | h0
    · subst h0
      rw [if_neg (by omega), if_neg (by omega), fcl_text, fcl_text]
    · obtain ⟨i, rfl⟩ : ∃ i, j = 1 + i := ⟨j - 1, by omega⟩
      rcases Nat.lt_or_ge i 1024 with h1 | h1
      · rw [fcl_last x t (m + 1) h1, if_neg (by omega : ¬ 1025 + m = 1 + i), fcl_last x t m h1]
        by_cases e : hs t m = i
        · rw [if_pos (by omega), if_pos (by omega)]
          have : lastOf t (m + 1) i = m + 1 := by unfold lastOf; rw [if_pos ⟨hm, e⟩]
          rw [this]
          rfl
        · rw [if_neg (by omega)]
          have : lastOf t (m + 1) i = lastOf t m i := by conv => lhs; unfold lastOf; rw [if_neg (fun h => e h.2)]
          rw [this]
      · obtain ⟨p, rfl⟩ : ∃ p, i = 1024 + p := ⟨i - 1024, by omega⟩
        rw [show 1 + (1024 + p) = 1025 + p by omega, fcl_ahead x t (m + 1) (by omega), if_neg (by omega), fcl_ahead x t m (by omega)]
        by_cases e : m = p
        · subst e
          rw [if_pos rfl, if_pos (by omega)]
          unfold ahd
          rw [if_pos ⟨by omega, hm⟩]
        · rw [if_neg (by omega)]
          unfold ahd
          by_cases h2 : p < m ∧ p + 5 ≤ t.length
          · rw [if_pos h2, if_pos ⟨by omega, h2.2⟩]
          · rw [if_neg h2, if_neg (by omega)]
  · rw [List.getElem?_eq_none (by rw [fcl_length]; exact h), List.getElem?_eq_none (by rw [fcl_length]; exact h)]
    rw [if_neg (by omega), if_neg (by omega)]
theorem fcl_late (x : Value) (t : List Nat) {m : Nat} (hm : t.length < m + 5) : fcl x t (m + 1) = fcl x t m := by
  have h1 : ∀ k, lastOf t (m + 1) k = lastOf t m k := fun k => by conv => lhs; unfold lastOf; rw [if_neg (fun h => by omega)]
  have h2 : ∀ p, ahd t (m + 1) p = ahd t m p := fun p => by
    unfold ahd
    by_cases h : p < m ∧ p + 5 ≤ t.length
    · rw [if_pos h, if_pos ⟨by omega, h.2⟩]
    · rw [if_neg h, if_neg (by omega)]
  unfold fcl
  simp only [h1, h2]

section
variable {W W' : World} {g : Nat} {A : Option Addr} {n c : Nat} {t : List Nat} {m : Nat}
theorem Fnd.lt (h : Fnd W g A n c t m) : g < W.heap.size := (Array.getElem?_eq_some_iff.1 h).1
theorem Fnd.cell (h : Fnd W g A n c t m) (k : Nat) : W.cell? ⟨g, k, none⟩ = (fcl (.slice A n c) t m)[k]? := by
  have := cell_of_row W g k _ _ (0, 0) h
  rw [this]
  simp
theorem Fnd.text (h : Fnd W g A n c t m) : W.cell? ⟨g, 0, none⟩ = some (.slice A n c) := by rw [h.cell, fcl_text]
theorem Fnd.last (h : Fnd W g A n c t m) {k : Nat} (hk : k < 1024) : W.cell? ⟨g, 1 + k, none⟩ = some (.int .i64 ((lastOf t m k : Nat) : Int)) := by rw [h.cell, fcl_last _ _ _ hk]
theorem Fnd.ahead (h : Fnd W g A n c t m) {p : Nat} (hp : p < 4096) : W.cell? ⟨g, 1025 + p, none⟩ = some (.int .i64 ((ahd t m p : Nat) : Int)) := by rw [h.cell, fcl_ahead _ _ _ hp]
theorem Fnd.free (h : Fnd W g A n c t m) (k : Nat) : W.frozen? ⟨g, k, none⟩ = false := frozen_of_row W g k _ _ h
theorem Fnd.below (h : Fnd W g A n c t m) (hb : Below W.heap.size W W') : Fnd W' g A n c t m := (hb.block g h.lt).trans h
theorem Fnd.keptS {S : Nat → Prop} (h : Fnd W g A n c t m) (hk : KeptS W W' S) (hg : ¬ S g) : Fnd W' g A n c t m := (hk.block g h.lt hg).trans h
theorem Fnd.new (W : World) (A : Option Addr) (n c : Nat) (t : List Nat) : Fnd (W.alloc (.cells (fz (.slice A n c)) 132)) W.heap.size A n c t 0 := by
  unfold Fnd
  rw [fcl_new _ t]
  exact heap_alloc_new W _
theorem Fnd.pass (h : Fnd W g A n c t m) (hm : m + 5 ≤ t.length) (h4 : t.length ≤ 4096) : Fnd ((W.setCell ⟨g, 1025 + m, none⟩ (.int .i64 ((lastOf t m (hs t m) : Nat) : Int))).setCell ⟨g, 1 + hs t m, none⟩ (.int .i64 ((m : Int) + 1))) g A n c t (m + 1) := by
  unfold Fnd
  have h1 := heap_setCell_same W g (1025 + m) _ _ (.int .i64 ((lastOf t m (hs t m) : Nat) : Int)) h
  have h2 := heap_setCell_same _ g (1 + hs t m) _ _ (.int .i64 ((m : Int) + 1)) h1
  rw [h2, ← fcl_pass _ t hm h4]
  simp
end
end Go.Proofs.Ytljfmcgeiceagaa
