/- quota.within, Check, and the reference's: what they return. -/
import Derived.Test.YthcmkjiemlfpcaaOpenBucket
import Derived.Test.YthcmkjiemlfpcaaQPlain
namespace Go.Proofs.Ythcmkjiemlfpcaa
open Go Go.RowKit
set_option linter.unusedVariables false

def inside (v lo hi : Int) : Bool := decide (lo ≤ v) && decide (v ≤ hi)
theorem inside_yes {v lo hi : Int} (h1 : lo ≤ v) (h2 : v ≤ hi) : Hid (inside v lo hi = true) := by show inside v lo hi = true; simp [inside, h1, h2]
theorem inside_no {v lo hi : Int} (h : ¬ (lo ≤ v ∧ v ≤ hi)) : Hid (inside v lo hi = false) := by
  show inside v lo hi = false
  rw [Bool.eq_false_iff]
  intro hh
  simp [inside] at hh
  exact h hh

def Bk.val (b : Bk) : Value := bkt b.num b.den b.burst b.level b.part b.tick

theorem within_is (v lo hi : Int) (b : Bool) (w : World) (hb : Hid (inside v lo hi = b)) :
    Calls Try.prog 30 #[.int .i64 v, .int .i64 lo, .int .i64 hi] w fun e w' => e = .returned (.bool b) ∧ w = w' := by
  have hb := hb.out
  unfold inside at hb
  by_cases h1 : lo ≤ v
  · have d1 : decide (lo ≤ v) = true := by simp [h1]
    rw [d1, Bool.true_and] at hb
    clear h1
    go_enter Try.func30, Try.ntmps30
    go_wp2
    go_ret
    exact ⟨rfl, rfl⟩
  · have d1 : decide (lo ≤ v) = false := by simp [h1]
    rw [d1, Bool.false_and] at hb
    subst hb
    clear h1
    go_enter Try.func30, Try.ntmps30
    go_wp2
    go_ret
    exact ⟨rfl, rfl⟩

theorem rwithin_is (v lo hi : Int) (b : Bool) (w : World) (hb : Hid (inside v lo hi = b)) :
    Calls Try.prog 31 #[.int .i64 v, .int .i64 lo, .int .i64 hi] w fun e w' => e = .returned (.bool b) ∧ w = w' := by
  have hb := hb.out
  unfold inside at hb
  by_cases h1 : lo ≤ v
  · have d1 : decide (lo ≤ v) = true := by simp [h1]
    rw [d1, Bool.true_and] at hb
    clear h1
    go_enter Try.func31, Try.ntmps31
    go_wp2
    go_ret
    exact ⟨rfl, rfl⟩
  · have d1 : decide (lo ≤ v) = false := by simp [h1]
    rw [d1, Bool.false_and] at hb
    subst hb
    clear h1
    go_enter Try.func31, Try.ntmps31
    go_wp2
    go_ret
    exact ⟨rfl, rfl⟩

set_option maxHeartbeats 400000 in
theorem check_yes (b : Bk) (w : World) (h : b.Ok) : Calls Try.prog 15 #[b.val] w fun e w' => e = .returned (.int .i64 0) ∧ Below w.heap.size w w' := by
  obtain ⟨n, d, u, l, p, t⟩ := b
  obtain ⟨n1, n2, d1, d2, u1, u2, l1, l2, p1, p2, z, t1, t2⟩ := h
  simp only at n1 n2 d1 d2 u1 u2 l1 l2 p1 p2 z t1 t2
  unfold Bk.val bkt
  simp only
  have i1 := inside_yes n1 n2
  have i2 := inside_yes d1 d2
  have i3 := inside_yes u1 u2
  have i4 := inside_yes l1 l2
  have i5 := inside_yes p1 p2
  have i6 := inside_yes t1 t2
  by_cases e : l = u
  · obtain rfl := z e
    subst e
    clear z
    go_enter Try.func15, Try.ntmps15
    go_wp2_with (go_at_call 30; (first | (refine (within_is _ _ _ true _ (by assumption)).mono ?_) | (refine (within_is _ _ _ false _ (by assumption)).mono ?_)); rintro e w' ⟨rfl, rfl⟩)
    go_ret
    exact ⟨rfl, (Below.refl _ _).alloc (Nat.le_refl _) _⟩
  · have e1 : (l == u) = false := by rw [beq_eq_false_iff_ne]; exact e
    clear e z
    go_enter Try.func15, Try.ntmps15
    go_wp2_with (go_at_call 30; (first | (refine (within_is _ _ _ true _ (by assumption)).mono ?_) | (refine (within_is _ _ _ false _ (by assumption)).mono ?_)); rintro e w' ⟨rfl, rfl⟩)
    go_ret
    exact ⟨rfl, (Below.refl _ _).alloc (Nat.le_refl _) _⟩

set_option maxHeartbeats 1000000 in
theorem check_no (b : Bk) (w : World) (h : ¬ b.Ok) : Calls Try.prog 15 #[b.val] w fun e w' => e = .returned (.int .i64 130) ∧ Below w.heap.size w w' := by
  obtain ⟨n, d, u, l, p, t⟩ := b
  unfold Bk.val bkt
  simp only
  have hq : ¬ ((1 ≤ n ∧ n ≤ 1073741824) ∧ (1 ≤ d ∧ d ≤ 1048576) ∧ (1 ≤ u ∧ u ≤ 1073741824) ∧ (0 ≤ l ∧ l ≤ u) ∧ (0 ≤ p ∧ p ≤ d - 1) ∧ (l = u → p = 0) ∧ (0 ≤ t ∧ t ≤ 1125899906842623)) := by
    rintro ⟨⟨n1, n2⟩, ⟨d1, d2⟩, ⟨u1, u2⟩, ⟨l1, l2⟩, ⟨p1, p2⟩, z, t1, t2⟩
    exact h ⟨n1, n2, d1, d2, u1, u2, l1, l2, p1, p2, z, t1, t2⟩
  clear h
  by_cases c0 : 1 ≤ n ∧ n ≤ 1073741824
  rotate_left
  · have i0 := inside_no c0
    clear c0 hq
    go_enter Try.func15, Try.ntmps15
    go_wp2_with (go_at_call 30; (first | (refine (within_is _ _ _ true _ (by assumption)).mono ?_) | (refine (within_is _ _ _ false _ (by assumption)).mono ?_)); rintro e w' ⟨rfl, rfl⟩)
    go_ret
    exact ⟨rfl, (Below.refl _ _).alloc (Nat.le_refl _) _⟩
  have i0 := inside_yes c0.1 c0.2
  obtain ⟨c0a, c0b⟩ := c0
  by_cases c1 : 1 ≤ d ∧ d ≤ 1048576
  rotate_left
  · have i1 := inside_no c1
    clear c1 hq
    go_enter Try.func15, Try.ntmps15
    go_wp2_with (go_at_call 30; (first | (refine (within_is _ _ _ true _ (by assumption)).mono ?_) | (refine (within_is _ _ _ false _ (by assumption)).mono ?_)); rintro e w' ⟨rfl, rfl⟩)
    go_ret
    exact ⟨rfl, (Below.refl _ _).alloc (Nat.le_refl _) _⟩
  have i1 := inside_yes c1.1 c1.2
  obtain ⟨c1a, c1b⟩ := c1
  by_cases c2 : 1 ≤ u ∧ u ≤ 1073741824
  rotate_left
  · have i2 := inside_no c2
    clear c2 hq
    go_enter Try.func15, Try.ntmps15
    go_wp2_with (go_at_call 30; (first | (refine (within_is _ _ _ true _ (by assumption)).mono ?_) | (refine (within_is _ _ _ false _ (by assumption)).mono ?_)); rintro e w' ⟨rfl, rfl⟩)
    go_ret
    exact ⟨rfl, (Below.refl _ _).alloc (Nat.le_refl _) _⟩
  have i2 := inside_yes c2.1 c2.2
  obtain ⟨c2a, c2b⟩ := c2
  by_cases c3 : 0 ≤ l ∧ l ≤ u
  rotate_left
  · have i3 := inside_no c3
    clear c3 hq
    go_enter Try.func15, Try.ntmps15
    go_wp2_with (go_at_call 30; (first | (refine (within_is _ _ _ true _ (by assumption)).mono ?_) | (refine (within_is _ _ _ false _ (by assumption)).mono ?_)); rintro e w' ⟨rfl, rfl⟩)
    go_ret
    exact ⟨rfl, (Below.refl _ _).alloc (Nat.le_refl _) _⟩
  have i3 := inside_yes c3.1 c3.2
  obtain ⟨c3a, c3b⟩ := c3
  by_cases c4 : 0 ≤ p ∧ p ≤ d - 1
  rotate_left
  · have i4 := inside_no c4
    clear c4 hq
    go_enter Try.func15, Try.ntmps15
    go_wp2_with (go_at_call 30; (first | (refine (within_is _ _ _ true _ (by assumption)).mono ?_) | (refine (within_is _ _ _ false _ (by assumption)).mono ?_)); rintro e w' ⟨rfl, rfl⟩)
    go_ret
    exact ⟨rfl, (Below.refl _ _).alloc (Nat.le_refl _) _⟩
  have i4 := inside_yes c4.1 c4.2
  obtain ⟨c4a, c4b⟩ := c4
  by_cases e : l = u
  · subst e
    by_cases ep : p = 0
    · subst ep
      have i6 := inside_no (v := t) (lo := 0) (hi := 1125899906842623) (fun ct => hq ⟨⟨c0a, c0b⟩, ⟨c1a, c1b⟩, ⟨c2a, c2b⟩, ⟨c3a, c3b⟩, ⟨c4a, c4b⟩, fun _ => rfl, ct⟩)
      clear hq
      go_enter Try.func15, Try.ntmps15
      go_wp2_with (go_at_call 30; (first | (refine (within_is _ _ _ true _ (by assumption)).mono ?_) | (refine (within_is _ _ _ false _ (by assumption)).mono ?_)); rintro e w' ⟨rfl, rfl⟩)
      go_ret
      exact ⟨rfl, (Below.refl _ _).alloc (Nat.le_refl _) _⟩
    · have e2 : (p != 0) = true := by rw [bne_iff_ne]; exact ep
      have e3 : 0 < p := by omega
      clear hq ep
      go_enter Try.func15, Try.ntmps15
      go_wp2_with (go_at_call 30; (first | (refine (within_is _ _ _ true _ (by assumption)).mono ?_) | (refine (within_is _ _ _ false _ (by assumption)).mono ?_)); rintro e w' ⟨rfl, rfl⟩)
      go_ret
      exact ⟨rfl, (Below.refl _ _).alloc (Nat.le_refl _) _⟩
  · have e1 : (l == u) = false := by rw [beq_eq_false_iff_ne]; exact e
    have i6 := inside_no (v := t) (lo := 0) (hi := 1125899906842623) (fun ct => hq ⟨⟨c0a, c0b⟩, ⟨c1a, c1b⟩, ⟨c2a, c2b⟩, ⟨c3a, c3b⟩, ⟨c4a, c4b⟩, fun he => absurd he e, ct⟩)
    clear hq e
    go_enter Try.func15, Try.ntmps15
    go_wp2_with (go_at_call 30; (first | (refine (within_is _ _ _ true _ (by assumption)).mono ?_) | (refine (within_is _ _ _ false _ (by assumption)).mono ?_)); rintro e w' ⟨rfl, rfl⟩)
    go_ret
    exact ⟨rfl, (Below.refl _ _).alloc (Nat.le_refl _) _⟩

def errB (b : Bk) : Int := if b.Ok then 0 else 130
theorem errB_yes {b : Bk} (h : b.Ok) : errB b = 0 := by unfold errB; rw [if_pos h]
theorem errB_no {b : Bk} (h : ¬ b.Ok) : errB b = 130 := by unfold errB; rw [if_neg h]


theorem check_is (b : Bk) (w : World) : Calls Try.prog 15 #[b.val] w fun e w' => e = .returned (.int .i64 (errB b)) ∧ Below w.heap.size w w' := by
  by_cases h : b.Ok
  · exact (check_yes b w h).mono fun _ _ ⟨he, hw⟩ => ⟨by rw [he, errB_yes h], hw⟩
  · exact (check_no b w h).mono fun _ _ ⟨he, hw⟩ => ⟨by rw [he, errB_no h], hw⟩

set_option maxHeartbeats 400000 in
theorem rcheck_yes (b : Bk) (w : World) (h : b.Ok) : Calls Try.prog 16 #[b.val] w fun e w' => e = .returned (.int .i64 0) ∧ Below w.heap.size w w' := by
  obtain ⟨n, d, u, l, p, t⟩ := b
  obtain ⟨n1, n2, d1, d2, u1, u2, l1, l2, p1, p2, z, t1, t2⟩ := h
  simp only at n1 n2 d1 d2 u1 u2 l1 l2 p1 p2 z t1 t2
  unfold Bk.val bkt
  simp only
  have i1 := inside_yes n1 n2
  have i2 := inside_yes d1 d2
  have i3 := inside_yes u1 u2
  have i4 := inside_yes l1 l2
  have i5 := inside_yes p1 p2
  have i6 := inside_yes t1 t2
  by_cases e : l = u
  · obtain rfl := z e
    subst e
    clear z
    go_enter Try.func16, Try.ntmps16
    go_wp2_with (go_at_call 31; (first | (refine (rwithin_is _ _ _ true _ (by assumption)).mono ?_) | (refine (rwithin_is _ _ _ false _ (by assumption)).mono ?_)); rintro e w' ⟨rfl, rfl⟩)
    go_ret
    exact ⟨rfl, (Below.refl _ _).alloc (Nat.le_refl _) _⟩
  · have e1 : (l == u) = false := by rw [beq_eq_false_iff_ne]; exact e
    clear e z
    go_enter Try.func16, Try.ntmps16
    go_wp2_with (go_at_call 31; (first | (refine (rwithin_is _ _ _ true _ (by assumption)).mono ?_) | (refine (rwithin_is _ _ _ false _ (by assumption)).mono ?_)); rintro e w' ⟨rfl, rfl⟩)
    go_ret
    exact ⟨rfl, (Below.refl _ _).alloc (Nat.le_refl _) _⟩

set_option maxHeartbeats 1000000 in
theorem rcheck_no (b : Bk) (w : World) (h : ¬ b.Ok) : Calls Try.prog 16 #[b.val] w fun e w' => e = .returned (.int .i64 130) ∧ Below w.heap.size w w' := by
  obtain ⟨n, d, u, l, p, t⟩ := b
  unfold Bk.val bkt
  simp only
  have hq : ¬ ((1 ≤ n ∧ n ≤ 1073741824) ∧ (1 ≤ d ∧ d ≤ 1048576) ∧ (1 ≤ u ∧ u ≤ 1073741824) ∧ (0 ≤ l ∧ l ≤ u) ∧ (0 ≤ p ∧ p ≤ d - 1) ∧ (l = u → p = 0) ∧ (0 ≤ t ∧ t ≤ 1125899906842623)) := by
    rintro ⟨⟨n1, n2⟩, ⟨d1, d2⟩, ⟨u1, u2⟩, ⟨l1, l2⟩, ⟨p1, p2⟩, z, t1, t2⟩
    exact h ⟨n1, n2, d1, d2, u1, u2, l1, l2, p1, p2, z, t1, t2⟩
  clear h
  by_cases c0 : 1 ≤ n ∧ n ≤ 1073741824
  rotate_left
  · have i0 := inside_no c0
    clear c0 hq
    go_enter Try.func16, Try.ntmps16
    go_wp2_with (go_at_call 31; (first | (refine (rwithin_is _ _ _ true _ (by assumption)).mono ?_) | (refine (rwithin_is _ _ _ false _ (by assumption)).mono ?_)); rintro e w' ⟨rfl, rfl⟩)
    go_ret
    exact ⟨rfl, (Below.refl _ _).alloc (Nat.le_refl _) _⟩
  have i0 := inside_yes c0.1 c0.2
  obtain ⟨c0a, c0b⟩ := c0
  by_cases c1 : 1 ≤ d ∧ d ≤ 1048576
  rotate_left
  · have i1 := inside_no c1
    clear c1 hq
    go_enter Try.func16, Try.ntmps16
    go_wp2_with (go_at_call 31; (first | (refine (rwithin_is _ _ _ true _ (by assumption)).mono ?_) | (refine (rwithin_is _ _ _ false _ (by assumption)).mono ?_)); rintro e w' ⟨rfl, rfl⟩)
    go_ret
    exact ⟨rfl, (Below.refl _ _).alloc (Nat.le_refl _) _⟩
  have i1 := inside_yes c1.1 c1.2
  obtain ⟨c1a, c1b⟩ := c1
  by_cases c2 : 1 ≤ u ∧ u ≤ 1073741824
  rotate_left
  · have i2 := inside_no c2
    clear c2 hq
    go_enter Try.func16, Try.ntmps16
    go_wp2_with (go_at_call 31; (first | (refine (rwithin_is _ _ _ true _ (by assumption)).mono ?_) | (refine (rwithin_is _ _ _ false _ (by assumption)).mono ?_)); rintro e w' ⟨rfl, rfl⟩)
    go_ret
    exact ⟨rfl, (Below.refl _ _).alloc (Nat.le_refl _) _⟩
  have i2 := inside_yes c2.1 c2.2
  obtain ⟨c2a, c2b⟩ := c2
  by_cases c3 : 0 ≤ l ∧ l ≤ u
  rotate_left
  · have i3 := inside_no c3
    clear c3 hq
    go_enter Try.func16, Try.ntmps16
    go_wp2_with (go_at_call 31; (first | (refine (rwithin_is _ _ _ true _ (by assumption)).mono ?_) | (refine (rwithin_is _ _ _ false _ (by assumption)).mono ?_)); rintro e w' ⟨rfl, rfl⟩)
    go_ret
    exact ⟨rfl, (Below.refl _ _).alloc (Nat.le_refl _) _⟩
  have i3 := inside_yes c3.1 c3.2
  obtain ⟨c3a, c3b⟩ := c3
  by_cases c4 : 0 ≤ p ∧ p ≤ d - 1
  rotate_left
  · have i4 := inside_no c4
    clear c4 hq
    go_enter Try.func16, Try.ntmps16
    go_wp2_with (go_at_call 31; (first | (refine (rwithin_is _ _ _ true _ (by assumption)).mono ?_) | (refine (rwithin_is _ _ _ false _ (by assumption)).mono ?_)); rintro e w' ⟨rfl, rfl⟩)
    go_ret
    exact ⟨rfl, (Below.refl _ _).alloc (Nat.le_refl _) _⟩
  have i4 := inside_yes c4.1 c4.2
  obtain ⟨c4a, c4b⟩ := c4
  by_cases e : l = u
  · subst e
    by_cases ep : p = 0
    · subst ep
      have i6 := inside_no (v := t) (lo := 0) (hi := 1125899906842623) (fun ct => hq ⟨⟨c0a, c0b⟩, ⟨c1a, c1b⟩, ⟨c2a, c2b⟩, ⟨c3a, c3b⟩, ⟨c4a, c4b⟩, fun _ => rfl, ct⟩)
      clear hq
      go_enter Try.func16, Try.ntmps16
      go_wp2_with (go_at_call 31; (first | (refine (rwithin_is _ _ _ true _ (by assumption)).mono ?_) | (refine (rwithin_is _ _ _ false _ (by assumption)).mono ?_)); rintro e w' ⟨rfl, rfl⟩)
      go_ret
      exact ⟨rfl, (Below.refl _ _).alloc (Nat.le_refl _) _⟩
    · have e2 : (p != 0) = true := by rw [bne_iff_ne]; exact ep
      have e3 : 0 < p := by omega
      clear hq ep
      go_enter Try.func16, Try.ntmps16
      go_wp2_with (go_at_call 31; (first | (refine (rwithin_is _ _ _ true _ (by assumption)).mono ?_) | (refine (rwithin_is _ _ _ false _ (by assumption)).mono ?_)); rintro e w' ⟨rfl, rfl⟩)
      go_ret
      exact ⟨rfl, (Below.refl _ _).alloc (Nat.le_refl _) _⟩
  · have e1 : (l == u) = false := by rw [beq_eq_false_iff_ne]; exact e
    have i6 := inside_no (v := t) (lo := 0) (hi := 1125899906842623) (fun ct => hq ⟨⟨c0a, c0b⟩, ⟨c1a, c1b⟩, ⟨c2a, c2b⟩, ⟨c3a, c3b⟩, ⟨c4a, c4b⟩, fun he => absurd he e, ct⟩)
    clear hq e
    go_enter Try.func16, Try.ntmps16
    go_wp2_with (go_at_call 31; (first | (refine (rwithin_is _ _ _ true _ (by assumption)).mono ?_) | (refine (rwithin_is _ _ _ false _ (by assumption)).mono ?_)); rintro e w' ⟨rfl, rfl⟩)
    go_ret
    exact ⟨rfl, (Below.refl _ _).alloc (Nat.le_refl _) _⟩


theorem rcheck_is (b : Bk) (w : World) : Calls Try.prog 16 #[b.val] w fun e w' => e = .returned (.int .i64 (errB b)) ∧ Below w.heap.size w w' := by
  by_cases h : b.Ok
  · exact (rcheck_yes b w h).mono fun _ _ ⟨he, hw⟩ => ⟨by rw [he, errB_yes h], hw⟩
  · exact (rcheck_no b w h).mono fun _ _ ⟨he, hw⟩ => ⟨by rw [he, errB_no h], hw⟩

end Go.Proofs.Ythcmkjiemlfpcaa
