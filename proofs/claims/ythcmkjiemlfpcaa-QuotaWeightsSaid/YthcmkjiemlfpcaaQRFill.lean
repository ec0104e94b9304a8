/- The reference's Fill: what it returns. -/
import Derived.Test.YthcmkjiemlfpcaaQFill2
import Derived.IntWalk
namespace Go.Proofs.Ythcmkjiemlfpcaa
open Go Go.RowKit
set_option linter.unusedVariables false

set_option maxHeartbeats 400000 in
theorem rfill_bad (b : Bk) (now : Int) (w : World) (hok : ¬ b.Ok) :
    Calls Try.prog 18 #[b.val, .int .i64 now] w fun e w' => e = .returned b.val ∧ Below w.heap.size w w' := by
  have P1 := Lib.hid (fun W => rcheck_no b W hok)
  clear hok
  obtain ⟨n, d, u, l, p, t⟩ := b
  unfold Bk.val bkt at P1 ⊢
  simp only at P1 ⊢
  go_enter Try.func18, Try.ntmps18
  go_wp2_with (go_at_call 16; refine (P1.out _).mono ?_; rintro e w1 ⟨rfl, hb1⟩; obtain ⟨⟨c0, c1, c2, c3, c4, c5, f0, f1, f2, f3, f4, f5⟩, ⟨e0, e1, e2, e3, e4, e5, g0, g1, g2, g3, g4, g5⟩⟩ := And.imp Bx.facts Bx.facts (bx_two hb1 (by simp)); have hbel := below2 hb1 (by simp; omega); have hsz := hb1.size; simp only [World.size_alloc] at hsz; clear hb1)
  refine bodyPost_ret (v := .agg #[.int .i64 n, .int .i64 d, .int .i64 u, .int .i64 l, .int .i64 p, .int .i64 t]) (by simp [results, Try.results18, go_sem, e0, e1, e2, e3, e4, e5]) rfl ⟨rfl, ?_⟩
  repeat (first | (with_reducible refine Below.setCell ?_ (by simp) _) | (with_reducible refine Below.drew ?_))
  with_reducible exact hbel

set_option maxHeartbeats 400000 in
theorem rfill_old (b : Bk) (now : Int) (w : World) (hok : b.Ok) (hn : now ≤ b.tick) :
    Calls Try.prog 18 #[b.val, .int .i64 now] w fun e w' => e = .returned b.val ∧ Below w.heap.size w w' := by
  have P1 := Lib.hid (fun W => rcheck_yes b W hok)
  clear hok
  obtain ⟨n, d, u, l, p, t⟩ := b
  unfold Bk.val bkt at P1 ⊢
  simp only at P1 hn ⊢
  go_enter Try.func18, Try.ntmps18
  go_wp2_with (go_at_call 16; refine (P1.out _).mono ?_; rintro e w1 ⟨rfl, hb1⟩; obtain ⟨⟨c0, c1, c2, c3, c4, c5, f0, f1, f2, f3, f4, f5⟩, ⟨e0, e1, e2, e3, e4, e5, g0, g1, g2, g3, g4, g5⟩⟩ := And.imp Bx.facts Bx.facts (bx_two hb1 (by simp)); have hbel := below2 hb1 (by simp; omega); have hsz := hb1.size; simp only [World.size_alloc] at hsz; clear hb1)
  refine bodyPost_ret (v := .agg #[.int .i64 n, .int .i64 d, .int .i64 u, .int .i64 l, .int .i64 p, .int .i64 t]) (by simp [results, Try.results18, go_sem, e0, e1, e2, e3, e4, e5]) rfl ⟨rfl, ?_⟩
  repeat (first | (with_reducible refine Below.setCell ?_ (by simp) _) | (with_reducible refine Below.drew ?_))
  with_reducible exact hbel

set_option maxHeartbeats 400000 in
theorem rroom_is (b : Bk) (w : World) (hb : b.Bd) (h1 : 0 ≤ b.part) (h2 : b.part ≤ 1048576) :
    Calls Try.prog 33 #[b.val] w fun e w' => e = .returned (.int .i64 b.room) ∧ Below w.heap.size w w' := by
  have P1 := Lib.hid (fun W => rparts_is b W hb h1 h2)
  obtain ⟨a1, a2, a3, a4, a5, a6⟩ := hb
  unfold Bk.room
  obtain ⟨q, hq⟩ : ∃ q, q = b.parts := ⟨_, rfl⟩
  rw [← hq] at a4 a5 P1 ⊢
  clear hq
  obtain ⟨n, d, u, l, p, t⟩ := b
  unfold Bk.val bkt at P1 ⊢
  simp only at *
  have e1 : IntKind.i64.wrap (u * d) = u * d := IntWalk.i64_in _ (by omega)
  have e2 : IntKind.i64.wrap (u * d - q) = u * d - q := IntWalk.i64_in _ (by omega)
  go_enter Try.func33, Try.ntmps33
  go_wp2_with fail
  go_region_with (go_at_call 34; refine (P1.out _).mono ?_; rintro e w1 ⟨rfl, hb1⟩; obtain ⟨c0, c1, c2, c3, c4, c5, f0, f1, f2, f3, f4, f5⟩ := (bx_one (undrew hb1) (by simp)).facts)
  all_goals

    go_wp2

    go_ret

    refine ⟨rfl, ?_⟩

    refine below1 (undrew hb1) ?_
    simp
end Go.Proofs.Ythcmkjiemlfpcaa
