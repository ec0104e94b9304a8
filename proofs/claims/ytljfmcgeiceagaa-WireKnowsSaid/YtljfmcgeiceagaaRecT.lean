/- Records: as they lie, which may be. -/
import Derived.Test.YtljfmcgeiceagaaF1
namespace Go.Proofs.Ytljfmcgeiceagaa
open Go Go.RowKit
set_option linter.unusedVariables false
set_option linter.unusedSimpArgs false

structure Rc where
  k : Int
  o : Int
  t : Int
  p : Int
  s : Int
  key : ByteArray
  val : ByteArray
def Rc.cells (x : Rc) : List Value := [.int .i64 x.k, .int .i64 x.o, .int .i64 x.t, .int .i64 x.p, .int .i64 x.s, .string x.key, .string x.val]
def Rc.v (x : Rc) : Value := .agg #[.int .i64 x.k, .int .i64 x.o, .int .i64 x.t, .int .i64 x.p, .int .i64 x.s, .string x.key, .string x.val]
def r64 (x : Int) : Prop := -9223372036854775808 ≤ x ∧ x ≤ 9223372036854775807
structure Rc.Ok (x : Rc) : Prop where
  k : r64 x.k
  o : r64 x.o
  t : r64 x.t
  p : r64 x.p
  s : r64 x.s
  key : x.key.size ≤ 140737488351232
  val : x.val.size ≤ 140737488351232
/-- May it be? -/
def chk (x : Rc) : Nat :=
  if x.k ≠ 1 ∧ x.k ≠ 2 then 44
  else if ¬ (0 ≤ x.o ∧ x.o < 1099511627776) then 45
  else if ¬ (0 ≤ x.t ∧ x.t < 1125899906842624) then 45
  else if ¬ (0 ≤ x.p ∧ x.p < 4294967296) then 45
  else if x.p = 0 ∧ x.s ≠ 0 then 45
  else if 0 < x.p ∧ ¬ (1 ≤ x.s ∧ x.s < 1099511627776) then 45
  else if x.key.size < 1 ∨ 64 < x.key.size then 42
  else if 1024 < x.val.size ∨ (x.k = 2 ∧ 0 < x.val.size) then 43
  else 0
theorem within_yes (v lo hi : Int) (w : World) (h : lo ≤ v ∧ v < hi) : Calls Try.prog 90 #[.int .i64 v, .int .i64 lo, .int .i64 hi] w fun e w' => e = .returned (.bool true) ∧ w = w' := by
  obtain ⟨h1, h2⟩ := h
  go_enter Try.func90, Try.ntmps90
  go_wp2
  go_ret
  exact ⟨rfl, rfl⟩
theorem within_no (v lo hi : Int) (w : World) (h : ¬ (lo ≤ v ∧ v < hi)) : Calls Try.prog 90 #[.int .i64 v, .int .i64 lo, .int .i64 hi] w fun e w' => e = .returned (.bool false) ∧ w = w' := by
  by_cases h1 : lo ≤ v
  · have h2 : ¬ v < hi := fun e => h ⟨h1, e⟩
    clear h
    go_enter Try.func90, Try.ntmps90
    go_wp2
    go_ret
    exact ⟨rfl, rfl⟩
  · clear h
    go_enter Try.func90, Try.ntmps90
    go_wp2
    go_ret
    exact ⟨rfl, rfl⟩
theorem rbelow_yes (v lo hi : Int) (w : World) (h : lo ≤ v ∧ v < hi) : Calls Try.prog 91 #[.int .i64 v, .int .i64 lo, .int .i64 hi] w fun e w' => e = .returned (.bool true) ∧ w = w' := by
  obtain ⟨h1, h2⟩ := h
  go_enter Try.func91, Try.ntmps91
  go_wp2
  go_ret
  exact ⟨rfl, rfl⟩
theorem rbelow_no (v lo hi : Int) (w : World) (h : ¬ (lo ≤ v ∧ v < hi)) : Calls Try.prog 91 #[.int .i64 v, .int .i64 lo, .int .i64 hi] w fun e w' => e = .returned (.bool false) ∧ w = w' := by
  by_cases h1 : lo ≤ v
  · have h2 : ¬ v < hi := fun e => h ⟨h1, e⟩
    clear h
    go_enter Try.func91, Try.ntmps91
    go_wp2
    go_ret
    exact ⟨rfl, rfl⟩
  · clear h
    go_enter Try.func91, Try.ntmps91
    go_wp2
    go_ret
    exact ⟨rfl, rfl⟩
theorem empty_iff (v : ByteArray) : v.size = 0 ↔ v = ⟨#[]⟩ := by
  constructor
  · intro h
    cases v with
    | mk d => cases d with
      | mk l => cases l with
        | nil => rfl
        | cons a b => simp [ByteArray.size] at h
  · intro h; subst h; rfl
theorem isEmpty_size (v : ByteArray) : v.toList.isEmpty = decide (v.size = 0) := by
  rw [ByteArray.toList_eq]
  cases v with
  | mk d => cases d with
    | mk l => cases l <;> simp [ByteArray.size]
end Go.Proofs.Ytljfmcgeiceagaa
