/- QuotaBound: its walk. -/
import Derived.Test.YthcmkjiemlfpcaaQBound2
namespace Go.Proofs.Ythcmkjiemlfpcaa
open Go Go.RowKit
set_option linter.unusedVariables false

set_option maxHeartbeats 400000 in
set_option maxRecDepth 100000 in
theorem quotaBound_bad (n d u now : Int) (A : Option Addr) (c len : Nat) (w : World) (hok : ¬ (⟨n, d, u, u, 0, now⟩ : Bk).Ok) :
    Calls Try.prog 6 #[.int .i64 n, .int .i64 d, .int .i64 u, .int .i64 now, .slice A len c] w fun e w' => e = .returned (.bool true) ∧ Below w.heap.size w w' := by
  have P1 := Lib.hid (fun W => new_no n d u now W hok)
  clear hok
  go_enter Try.func6, Try.ntmps6
  go_wp2_with fail
  refine (P1.out _).mono ?_
  rintro e w1 ⟨rfl, hb1⟩
  have HB := Lib.hid (hb1.alloc hb1.size (.cells #[.int .i64 0, .int .i64 0, .int .i64 0, .int .i64 0, .int .i64 0, .int .i64 0] 23))
  clear hb1 P1
  go_wp2_with (go_at_call 21; refine (works_is _).mono ?_; rintro e w2 ⟨rfl, hb2⟩)
  go_ret
  exact ⟨rfl, HB.out.trans (hb2.mono HB.out.size)⟩

set_option maxHeartbeats 400000 in
set_option maxRecDepth 100000 in
theorem quotaBound_long (n d u now : Int) (A : Option Addr) (c len : Nat) (w : World) (hok : (⟨n, d, u, u, 0, now⟩ : Bk).Ok) (hl : 1000 < len) (hl2 : len * 16 ≤ 140737488351232) :
    Calls Try.prog 6 #[.int .i64 n, .int .i64 d, .int .i64 u, .int .i64 now, .slice A len c] w fun e w' => e = .returned (.bool true) ∧ Below w.heap.size w w' := by
  have P1 := Lib.hid (fun W => new_yes n d u now W hok)
  clear hok
  go_enter Try.func6, Try.ntmps6
  go_wp2_with fail
  refine (P1.out _).mono ?_
  rintro e w1 ⟨rfl, hb1⟩
  have HB := Lib.hid (hb1.alloc hb1.size (.cells #[.int .i64 n, .int .i64 d, .int .i64 u, .int .i64 u, .int .i64 0, .int .i64 now] 23))
  clear hb1 P1
  go_wp2_with (go_at_call 21; refine (works_is _).mono ?_; rintro e w2 ⟨rfl, hb2⟩)
  go_ret
  exact ⟨rfl, HB.out.trans (hb2.mono HB.out.size)⟩

theorem quotaBound_walk (a0 : Int) (a1 : Int) (a2 : Int) (a3 : Int) (A4 : Option Addr) (c4 : Nat) (b4 : List (Int × Int)) (w : World) (w0 : -9223372036854775808 ≤ a0 ∧ a0 ≤ 9223372036854775807) (w1 : -9223372036854775808 ≤ a1 ∧ a1 ≤ 9223372036854775807) (w2 : -9223372036854775808 ≤ a2 ∧ a2 ≤ 9223372036854775807) (w3 : -9223372036854775808 ≤ a3 ∧ a3 ≤ 9223372036854775807) (c4l : b4.length ≤ c4) (r4 : RdP w A4 b4) (y4 : ∀ x ∈ b4, (-9223372036854775808 ≤ x.1 ∧ x.1 ≤ 9223372036854775807) ∧ -9223372036854775808 ≤ x.2 ∧ x.2 ≤ 9223372036854775807) (l4 : b4.length * 16 ≤ 140737488351232) :
    Calls Try.prog 6 #[.int .i64 a0, .int .i64 a1, .int .i64 a2, .int .i64 a3, .slice A4 b4.length c4] w fun e w' => e = .returned (.bool true) ∧ Below w.heap.size w w' := by
  by_cases hok : (⟨a0, a1, a2, a2, 0, a3⟩ : Bk).Ok
  · by_cases hl : b4.length ≤ 1000
    · exact quotaBound_yes a0 a1 a2 a3 A4 c4 b4 w hok c4l hl r4 y4
    · exact quotaBound_long a0 a1 a2 a3 A4 c4 b4.length w hok (by omega) l4
  · exact quotaBound_bad a0 a1 a2 a3 A4 c4 b4.length w hok
end Go.Proofs.Ythcmkjiemlfpcaa
