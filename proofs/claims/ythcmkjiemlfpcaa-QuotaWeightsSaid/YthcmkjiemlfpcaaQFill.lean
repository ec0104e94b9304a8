/- quota.ticks, Fill, and the reference's parts, room, Fill: what they return. -/
import Derived.Test.YthcmkjiemlfpcaaBlk
import Derived.RegionTactic
import Derived.ChangeAlike
import Derived.BigRegion
import Derived.Deep.RegionWith
namespace Go.Proofs.Ythcmkjiemlfpcaa
open Go Go.RowKit
set_option linter.unusedVariables false

theorem ticks_is (x n : Int) (w : World) (h1 : 0 ≤ x) (h2 : x ≤ 1125899906842624) (h3 : 1 ≤ n) (h4 : n ≤ 1073741824) :
    Calls Try.prog 32 #[.int .i64 x, .int .i64 n] w fun e w' => e = .returned (.int .i64 ((x + n - 1) / n)) ∧ w = w' := by
  have hm : max x 0 = x := by omega
  go_enter Try.func32, Try.ntmps32
  go_wp2
  all_goals
    go_ret
    exact ⟨rfl, rfl⟩

theorem rparts_is (b : Bk) (w : World) (hb : b.Bd) (h1 : 0 ≤ b.part) (h2 : b.part ≤ 1048576) :
    Calls Try.prog 34 #[b.val] w fun e w' => e = .returned (.int .i64 b.parts) ∧ Below w.heap.size w w' := by
  obtain ⟨n, d, u, l, p, t⟩ := b
  obtain ⟨a1, a2, a3, a4, a5, a6⟩ := hb
  unfold Bk.parts at a4 a5 ⊢
  unfold Bk.val bkt
  simp only at *
  go_enter Try.func34, Try.ntmps34
  go_wp2
  go_ret
  exact ⟨rfl, (Below.refl _ _).alloc (Nat.le_refl _) _⟩

set_option maxHeartbeats 400000 in
theorem fill_full (n d u l p t now m : Int) (w : World) (hok : (⟨n, d, u, l, p, t⟩ : Bk).Ok) (ht : t < now) (hm : min now 1125899906842623 = m) (hf : u * d - (l * d + p) ≤ (m - t) * n) :
    Calls Try.prog 17 #[bkt n d u l p t, .int .i64 now] w fun e w' => e = .returned (bkt n d u u 0 m) ∧ Below w.heap.size w w' := by
  have hc := fun W => check_yes ⟨n, d, u, l, p, t⟩ W hok
  have hb := hok.bd
  obtain ⟨n1, n2, d1, d2, u1, u2, l1, l2, p1, p2, z, t1, t2⟩ := hok
  obtain ⟨a1, a2, a3, a4, a5, a6⟩ := hb
  unfold Bk.parts at a4 a5
  unfold Bk.val bkt at hc
  simp only at *
  have P1 := Lib.hid hc
  have hge : (u * d - (l * d + p) + n - 1) / n ≤ m - t := (ceil_le n1).2 hf
  have m1 : t ≤ m := by omega
  have m2 : m ≤ 1125899906842623 := by omega
  have hd : decide (m - t < (u * d - (l * d + p) + n - 1) / n) = false := by rw [decide_eq_false_iff_not]; omega
  clear hc z hf
  unfold bkt
  rcases (show m = now ∧ now ≤ 1125899906842623 ∨ m = 1125899906842623 ∧ 1125899906842623 < now by omega) with ⟨e, hnow⟩ | ⟨e, hnow⟩
  all_goals
    subst e
    clear hm
    go_enter Try.func17, Try.ntmps17
    go_wp2_with (first
      | (go_at_call 15; refine (P1.out _).mono ?_; rintro e w1 ⟨rfl, hb1⟩; obtain ⟨⟨c0, c1, c2, c3, c4, c5, f0, f1, f2, f3, f4, f5⟩, ⟨e0, e1, e2, e3, e4, e5, g0, g1, g2, g3, g4, g5⟩⟩ := And.imp Bx.facts Bx.facts (bx_two hb1 (by simp)); have hbel := below2 hb1 (by simp; omega); have hsz := hb1.size; simp only [World.size_alloc] at hsz; clear hb1)
      | (go_at_call 32; refine (ticks_is _ _ _ (by omega) (by omega) (by omega) (by omega)).mono ?_; rintro e w1 ⟨rfl, rfl⟩))
    refine bodyPost_ret (v := bkt _ _ _ _ _ _) (by simp [results, Try.results17, go_sem, bkt, *]) rfl ⟨rfl, ?_⟩
    repeat (first | (with_reducible refine Below.setCell ?_ (by simp) _) | (with_reducible refine Below.drew ?_))
    exact hbel

set_option maxHeartbeats 1000000 in
theorem fill_part (n d u l p t now m : Int) (w : World) (hok : (⟨n, d, u, l, p, t⟩ : Bk).Ok) (ht : t < now) (hm : min now 1125899906842623 = m) (hf : ¬ u * d - (l * d + p) ≤ (m - t) * n) :
    Calls Try.prog 17 #[bkt n d u l p t, .int .i64 now] w fun e w' => e = .returned (bkt n d u ((l * d + p + n * (m - t)) / d) ((l * d + p + n * (m - t)) % d) m) ∧ Below w.heap.size w w' := by
  have hc := fun W => check_yes ⟨n, d, u, l, p, t⟩ W hok
  have hb := hok.bd
  obtain ⟨n1, n2, d1, d2, u1, u2, l1, l2, p1, p2, z, t1, t2⟩ := hok
  obtain ⟨a1, a2, a3, a4, a5, a6⟩ := hb
  unfold Bk.parts at a4 a5
  unfold Bk.val bkt at hc
  simp only at *
  have P1 := Lib.hid hc
  have hge : ¬ (u * d - (l * d + p) + n - 1) / n ≤ m - t := fun h => hf ((ceil_le n1).1 h)
  have m1 : t ≤ m := by omega
  have m2 : m ≤ 1125899906842623 := by omega
  have hnm : 0 ≤ n * (m - t) := Int.mul_nonneg (by omega) (by omega)
  rw [Int.mul_comm (m - t) n] at hf
  clear hc z
  unfold bkt
  rcases (show m = now ∧ now ≤ 1125899906842623 ∨ m = 1125899906842623 ∧ 1125899906842623 < now by omega) with ⟨e, hnow⟩ | ⟨e, hnow⟩
  · subst e
    clear hm
    go_enter Try.func17, Try.ntmps17
    go_wp2_with (first
      | (go_at_call 15; refine (P1.out _).mono ?_; rintro e w1 ⟨rfl, hb1⟩; obtain ⟨⟨c0, c1, c2, c3, c4, c5, f0, f1, f2, f3, f4, f5⟩, ⟨e0, e1, e2, e3, e4, e5, g0, g1, g2, g3, g4, g5⟩⟩ := And.imp Bx.facts Bx.facts (bx_two hb1 (by simp)); have hbel := below2 hb1 (by simp; omega); have hsz := hb1.size; simp only [World.size_alloc] at hsz; clear hb1)
      | (go_at_call 32; refine (ticks_is _ _ _ (by omega) (by omega) (by omega) (by omega)).mono ?_; rintro e w1 ⟨rfl, rfl⟩))
    go_region
    go_wp2
    refine bodyPost_ret (v := .agg #[.int .i64 n, .int .i64 d, .int .i64 u, .int .i64 ((l * d + p + n * (m - t)) / d), .int .i64 ((l * d + p + n * (m - t)) % d), .int .i64 m]) (by simp [results, Try.results17, go_sem, e0, e1, e2, e3, e4, e5]) rfl ⟨rfl, ?_⟩
    repeat (first | (with_reducible refine Below.setCell ?_ (by simp) _) | (with_reducible refine Below.drew ?_))
    with_reducible exact hbel
  · subst e
    clear hm
    go_enter Try.func17, Try.ntmps17
    go_wp2_with (first
      | (go_at_call 15; refine (P1.out _).mono ?_; rintro e w1 ⟨rfl, hb1⟩; obtain ⟨⟨c0, c1, c2, c3, c4, c5, f0, f1, f2, f3, f4, f5⟩, ⟨e0, e1, e2, e3, e4, e5, g0, g1, g2, g3, g4, g5⟩⟩ := And.imp Bx.facts Bx.facts (bx_two hb1 (by simp)); have hbel := below2 hb1 (by simp; omega); have hsz := hb1.size; simp only [World.size_alloc] at hsz; clear hb1)
      | (go_at_call 32; refine (ticks_is _ _ _ (by omega) (by omega) (by omega) (by omega)).mono ?_; rintro e w1 ⟨rfl, rfl⟩))
    go_region
    go_wp2
    refine bodyPost_ret (v := .agg #[.int .i64 n, .int .i64 d, .int .i64 u, .int .i64 ((l * d + p + n * (1125899906842623 - t)) / d), .int .i64 ((l * d + p + n * (1125899906842623 - t)) % d), .int .i64 1125899906842623]) (by simp [results, Try.results17, go_sem, e0, e1, e2, e3, e4, e5]) rfl ⟨rfl, ?_⟩
    repeat (first | (with_reducible refine Below.setCell ?_ (by simp) _) | (with_reducible refine Below.drew ?_))
    with_reducible exact hbel
end Go.Proofs.Ythcmkjiemlfpcaa
