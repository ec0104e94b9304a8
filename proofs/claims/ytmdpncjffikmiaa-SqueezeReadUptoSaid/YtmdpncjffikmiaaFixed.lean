/- Fixed bytes of a number, the reference's. -/
import Derived.Test.YtmdpncjffikmiaaApp8
namespace Go.Proofs.Ytmdpncjffikmiaa
open Go Go.RowKit
set_option linter.unusedVariables false

/-- The last n bytes of a number, the greatest first. -/
def fx : Nat → Nat → List Nat
  | _, 0 => []
  | v, n + 1 => fx (v / 256) n ++ [v % 256]
theorem fx_length (n : Nat) : ∀ v, (fx v n).length = n := by
  induction n with
  | zero => intro v; rfl
  | succ n ih => intro v; simp [fx, ih]
theorem fx_by (n : Nat) : ∀ v, By (fx v n) := by
  induction n with
  | zero => intro v b hb; simp [fx] at hb
  | succ n ih =>
    intro v b hb
    simp only [fx, List.mem_append, List.mem_singleton] at hb
    rcases hb with hb | rfl
    · exact ih _ b hb
    · omega
theorem fx_four (v : Nat) : fx v 4 = [v / 16777216 % 256, v / 65536 % 256, v / 256 % 256, v % 256] := by
  simp [fx, Nat.div_div_eq_div_mul]
theorem fx_eight (v : Nat) : fx v 8 = fx (v / 4294967296) 4 ++ fx v 4 := by
  simp [fx, Nat.div_div_eq_div_mul]
theorem fx_mod (v : Nat) : fx (v % 4294967296) 4 = fx v 4 := by
  rw [fx_four, fx_four]
  congr 1
  · omega
  · congr 1
    · omega
    · congr 1
      · omega
      · congr 1
        omega

theorem set_end {α : Type} (xs ys : List α) (k : Nat) (hk : xs.length = k + 1) (y : α) : (xs ++ ys).set k y = xs.take k ++ y :: ys := by
  rw [List.set_append_left _ _ (by omega)]
  have : xs.set k y = xs.take k ++ [y] := by
    rw [List.set_eq_take_append_cons_drop, if_pos (by omega), List.drop_eq_nil_of_le (by omega)]
  rw [this, List.append_assoc]
  rfl

end Go.Proofs.Ytmdpncjffikmiaa
