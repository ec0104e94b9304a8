/- Shares: what it returns. -/
import Derived.Test.YthcmkjiemlfpcaaSh2
import Derived.OneCell
namespace Go.Proofs.Ythcmkjiemlfpcaa
open Go Go.RowKit
set_option linter.unusedVariables false

set_option maxHeartbeats 400000 in
theorem shares_bad (A : Option Addr) (c n : Nat) (l : List Int) (total : Int) (w : World) (hr : Rd w A (i64s l)) (hn : l.length = n) (hc : n ≤ c) (hs : ¬ shOk total l) (hn8 : n * 8 ≤ 140737488351232) :
    Calls Try.prog 22 #[.int .i64 total, .slice A n c] w fun e w' => e = .returned (.tuple #[.slice none 0 0, .int .i64 131]) ∧ Below w.heap.size w w' := by
  have HS := Lib.hid hs
  have HN := Lib.hid hn
  clear hs hn
  by_cases h1 : 64 < n
  · clear HS HN hr
    go_enter Try.func22, Try.ntmps22
    go_wp2
    go_ret2
    exact ⟨rfl, ((Below.refl _ _).alloc (Nat.le_refl _) _).alloc (by simp) _⟩
  · by_cases h2 : 0 ≤ total ∧ total ≤ 1099511627776
    · have hi := inside_yes h2.1 h2.2
      have ha : ¬ Asks l := fun ha => HS.out ⟨by rw [HN.out]; omega, h2, ha⟩
      have hr2 : Rd ((w.alloc (.cells #[.int .i64 total] 2)).alloc (.cells #[.slice A n c] 36)) A (i64s l) := hr.below (((Below.refl _ _).alloc (Nat.le_refl _) _).alloc (by simp) _)
      have P1 := Lib.hid (contains_is A c n l true _ hr2 HN.out hc (by omega) ⟨fun _ => ha, fun _ => rfl⟩)
      clear h2 ha hr2 hr HS HN
      go_enter Try.func22, Try.ntmps22
      go_wp2_with (first
        | (go_at_call 35; refine (bad_is total true _ hi).mono ?_; rintro e w' ⟨rfl, rfl⟩)
        | (go_at_call 36; refine P1.out.mono ?_; rintro e w' ⟨rfl, rfl⟩))
      go_ret2
      exact ⟨rfl, ((Below.refl _ _).alloc (Nat.le_refl _) _).alloc (by simp) _⟩
    · have hi := inside_no (v := total) (lo := 0) (hi := 1099511627776) h2
      clear h2 HS HN hr
      go_enter Try.func22, Try.ntmps22
      go_wp2_with (go_at_call 35; refine (bad_is total false _ hi).mono ?_; rintro e w' ⟨rfl, rfl⟩)
      go_ret2
      exact ⟨rfl, ((Below.refl _ _).alloc (Nat.le_refl _) _).alloc (by simp) _⟩
end Go.Proofs.Ythcmkjiemlfpcaa
