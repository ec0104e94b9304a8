/- The reference's Fill: in one. -/
import Derived.Test.YthcmkjiemlfpcaaQRFill2
namespace Go.Proofs.Ythcmkjiemlfpcaa
open Go Go.RowKit
set_option linter.unusedVariables false

theorem rfill_is (b : Bk) (now : Int) (w : World) :
    Calls Try.prog 18 #[b.val, .int .i64 now] w fun e w' => e = .returned (b.fill now).val ∧ Below w.heap.size w w' := by
  by_cases hok : b.Ok
  · by_cases hn : now ≤ b.tick
    · have : b.fill now = b := by unfold Bk.fill; rw [if_pos (Or.inr hn)]
      rw [this]
      exact rfill_old b now w hok hn
    · have hno : ¬ (¬ b.Ok ∨ now ≤ b.tick) := fun h => h.elim (fun h => h hok) hn
      obtain ⟨n, d, u, l, p, t⟩ := b
      simp only at hn
      by_cases hf : u * d - (l * d + p) ≤ (upto now - t) * n
      · have : (⟨n, d, u, l, p, t⟩ : Bk).fill now = ⟨n, d, u, u, 0, upto now⟩ := by
          unfold Bk.fill
          exact (if_neg hno).trans (if_pos hf)
        rw [this]
        exact rfill_full n d u l p t now (upto now) w hok (by omega) rfl hf
      · have : (⟨n, d, u, l, p, t⟩ : Bk).fill now = ⟨n, d, u, (l * d + p + (upto now - t) * n) / d, (l * d + p + (upto now - t) * n) % d, upto now⟩ := by
          unfold Bk.fill
          exact (if_neg hno).trans (if_neg hf)
        rw [this]
        exact rfill_part n d u l p t now (upto now) w hok (by omega) rfl hf
  · have : b.fill now = b := by unfold Bk.fill; rw [if_pos (Or.inl hok)]
    rw [this]
    exact rfill_bad b now w hok
end Go.Proofs.Ythcmkjiemlfpcaa
