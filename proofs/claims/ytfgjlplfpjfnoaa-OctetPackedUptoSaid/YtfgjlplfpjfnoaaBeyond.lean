/- The bound on steps and on items. -/
import Derived.Test.YtfgjlplfpjfnoaaOpenSteps
namespace Go.Proofs.Ytfgjlplfpjfnoaa
open Go Go.RowKit
set_option linter.unusedVariables false

/-- What they count. -/
def stSum : List Stp → Nat
  | [] => 0
  | x :: r => 1 + x.s.size + stSum r
theorem stSum_append (a b : List Stp) : stSum (a ++ b) = stSum a + stSum b := by
  induction a with
  | nil => simp [stSum]
  | cons x r ih => simp only [List.cons_append, stSum, ih]; omega
theorem stSum_take {l : List Stp} {k : Nat} {x : Stp} (hx : l[k]? = some x) : stSum (l.take (k + 1)) = stSum (l.take k) + 1 + x.s.size := by
  obtain ⟨hk, rfl⟩ := List.getElem?_eq_some_iff.1 hx
  rw [List.take_succ_eq_append_getElem hk, stSum_append]
  simp [stSum]
  omega
theorem stSum_le (l : List Stp) (k : Nat) : stSum (l.take k) ≤ stSum l := by
  have := stSum_append (l.take k) (l.drop k)
  rw [List.take_append_drop] at this
  omega

set_option maxHeartbeats 400000 in
theorem beyondSteps_is (A : Option Addr) (c n : Nat) (l : List Stp) (w : World) (hr : RdS w A l) (hn : l.length = n) (hc : n ≤ c) (hl : n * 32 ≤ 140737488351232) (ha : ∀ x ∈ l, x.Ok) :
    Calls Try.prog 36 #[.slice A n c] w fun e w' => e = .returned (.bool (decide (2147483647 < stSum l))) ∧ w = w' := by
  have HN := Lib.hid hn
  have HR := Lib.hid hr
  have HA := Lib.hid ha
  clear hn hr ha
  go_enter Try.func36, Try.ntmps36
  go_wp2
  go_loop [3, 4] (fun s i => ∃ k : Nat, k ≤ n ∧ i = .int .i64 k ∧ s = .int .i64 (stSum (l.take k) : Nat) ∧ stSum (l.take k) ≤ 2147483647) (fun _ i => n - (intOf i).toNat)
  case atStart => exact ⟨0, Nat.zero_le _, rfl, rfl, by simp [stSum]⟩
  case round =>
    obtain ⟨k, hk, rfl, rfl, hb⟩ := hrel
    by_cases hlt : k < n
    · obtain ⟨x, hx⟩ : ∃ x, l[k]? = some x := ⟨_, List.getElem?_eq_getElem (by rw [HN.out]; exact hlt)⟩
      obtain ⟨g, off, rfl, hg, hcell⟩ := HR.out (by rintro rfl; simp at hx)
      obtain ⟨c0, c1, c2⟩ := hcell k x hx
      have hsz := (HA.out x (List.mem_of_getElem? hx)).2.2
      have hst := stSum_take hx
      have hle := stSum_le l (k + 1)
      clear hcell hx
      obtain ⟨s, hs⟩ : ∃ s, s = stSum (l.take k) := ⟨_, rfl⟩
      obtain ⟨s', hs'⟩ : ∃ s', s' = stSum (l.take (k + 1)) := ⟨_, rfl⟩
      have HS' := Lib.hid hs'
      rw [← hs', ← hs] at hst
      rw [← hs'] at hle
      rw [← hs] at hb ⊢
      clear hs hs'
      by_cases hov : 2147483647 < s + 1 + x.s.size
      · have hd : decide (2147483647 < stSum l) = true := decide_eq_true (by omega)
        have HD := Lib.hid hd
        clear hd hst hle
        go_wp2
        go_ret
        rw [HD.out]
        exact ⟨rfl, rfl⟩
      · clear hle
        go_wp2
        go_round
        case rel => exact ⟨k + 1, by omega, by go_num, by rw [← HS'.out, hst]; go_num, by rw [← HS'.out]; omega⟩
        case measure => simp [intOf]; omega
    · have hkn : k = n := by omega
      subst hkn
      have he : stSum (l.take k) = stSum l := by rw [List.take_of_length_le (by rw [HN.out]; omega)]
      have HE := Lib.hid (show decide (2147483647 < stSum l) = false from decide_eq_false (by omega))
      clear he
      go_wp2
      go_ret
      rw [HE.out]
      exact ⟨rfl, rfl⟩
end Go.Proofs.Ytfgjlplfpjfnoaa
