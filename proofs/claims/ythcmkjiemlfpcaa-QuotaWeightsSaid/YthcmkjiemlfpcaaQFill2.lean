/- quota.Fill: whole. -/
import Derived.Test.YthcmkjiemlfpcaaQFill
namespace Go.Proofs.Ythcmkjiemlfpcaa
open Go Go.RowKit
set_option linter.unusedVariables false

set_option maxHeartbeats 400000 in
theorem fill_bad (b : Bk) (now : Int) (w : World) (hok : ¬ b.Ok) :
    Calls Try.prog 17 #[b.val, .int .i64 now] w fun e w' => e = .returned b.val ∧ Below w.heap.size w w' := by
  have P1 := Lib.hid (fun W => check_no b W hok)
  clear hok
  obtain ⟨n, d, u, l, p, t⟩ := b
  unfold Bk.val bkt at P1 ⊢
  simp only at P1 ⊢
  go_enter Try.func17, Try.ntmps17
  go_wp2_with (go_at_call 15; refine (P1.out _).mono ?_; rintro e w1 ⟨rfl, hb1⟩; obtain ⟨⟨c0, c1, c2, c3, c4, c5, f0, f1, f2, f3, f4, f5⟩, ⟨e0, e1, e2, e3, e4, e5, g0, g1, g2, g3, g4, g5⟩⟩ := And.imp Bx.facts Bx.facts (bx_two hb1 (by simp)); have hbel := below2 hb1 (by simp; omega); have hsz := hb1.size; simp only [World.size_alloc] at hsz; clear hb1)
  refine bodyPost_ret (v := .agg #[.int .i64 n, .int .i64 d, .int .i64 u, .int .i64 l, .int .i64 p, .int .i64 t]) (by simp [results, Try.results17, go_sem, e0, e1, e2, e3, e4, e5]) rfl ⟨rfl, ?_⟩
  repeat (first | (with_reducible refine Below.setCell ?_ (by simp) _) | (with_reducible refine Below.drew ?_))
  with_reducible exact hbel

set_option maxHeartbeats 400000 in
theorem fill_old (b : Bk) (now : Int) (w : World) (hok : b.Ok) (hn : now ≤ b.tick) :
    Calls Try.prog 17 #[b.val, .int .i64 now] w fun e w' => e = .returned b.val ∧ Below w.heap.size w w' := by
  have P1 := Lib.hid (fun W => check_yes b W hok)
  clear hok
  obtain ⟨n, d, u, l, p, t⟩ := b
  unfold Bk.val bkt at P1 ⊢
  simp only at P1 hn ⊢
  go_enter Try.func17, Try.ntmps17
  go_wp2_with (go_at_call 15; refine (P1.out _).mono ?_; rintro e w1 ⟨rfl, hb1⟩; obtain ⟨⟨c0, c1, c2, c3, c4, c5, f0, f1, f2, f3, f4, f5⟩, ⟨e0, e1, e2, e3, e4, e5, g0, g1, g2, g3, g4, g5⟩⟩ := And.imp Bx.facts Bx.facts (bx_two hb1 (by simp)); have hbel := below2 hb1 (by simp; omega); have hsz := hb1.size; simp only [World.size_alloc] at hsz; clear hb1)
  refine bodyPost_ret (v := .agg #[.int .i64 n, .int .i64 d, .int .i64 u, .int .i64 l, .int .i64 p, .int .i64 t]) (by simp [results, Try.results17, go_sem, e0, e1, e2, e3, e4, e5]) rfl ⟨rfl, ?_⟩
  repeat (first | (with_reducible refine Below.setCell ?_ (by simp) _) | (with_reducible refine Below.drew ?_))
  with_reducible exact hbel

theorem fill_is (b : Bk) (now : Int) (w : World) :
    Calls Try.prog 17 #[b.val, .int .i64 now] w fun e w' => e = .returned (b.fill now).val ∧ Below w.heap.size w w' := by
  by_cases hok : b.Ok
  · by_cases hn : now ≤ b.tick
    · have : b.fill now = b := by unfold Bk.fill; rw [if_pos (Or.inr hn)]
      rw [this]
      exact fill_old b now w hok hn
    · have hno : ¬ (¬ b.Ok ∨ now ≤ b.tick) := fun h => h.elim (fun h => h hok) hn
      obtain ⟨n, d, u, l, p, t⟩ := b
      simp only at hn
      by_cases hf : u * d - (l * d + p) ≤ (upto now - t) * n
      · have : (⟨n, d, u, l, p, t⟩ : Bk).fill now = ⟨n, d, u, u, 0, upto now⟩ := by
          unfold Bk.fill
          exact (if_neg hno).trans (if_pos hf)
        rw [this]
        exact fill_full n d u l p t now (upto now) w hok (by omega) rfl hf
      · have : (⟨n, d, u, l, p, t⟩ : Bk).fill now = ⟨n, d, u, (l * d + p + n * (upto now - t)) / d, (l * d + p + n * (upto now - t)) % d, upto now⟩ := by
          unfold Bk.fill
          rw [Int.mul_comm n]
          exact (if_neg hno).trans (if_neg hf)
        rw [this]
        exact fill_part n d u l p t now (upto now) w hok (by omega) rfl hf
  · have : b.fill now = b := by unfold Bk.fill; rw [if_pos (Or.inl hok)]
    rw [this]
    exact fill_bad b now w hok
end Go.Proofs.Ythcmkjiemlfpcaa
