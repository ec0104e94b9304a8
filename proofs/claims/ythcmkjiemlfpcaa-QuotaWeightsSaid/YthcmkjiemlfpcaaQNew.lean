/- New: what it returns. -/
import Derived.Test.YthcmkjiemlfpcaaBlk
namespace Go.Proofs.Ythcmkjiemlfpcaa
open Go Go.RowKit
set_option linter.unusedVariables false


set_option maxHeartbeats 400000 in
theorem new_yes (n d u t : Int) (w : World) (hok :  (⟨n, d, u, u, 0, t⟩ : Bk).Ok) :
    Calls Try.prog 13 #[.int .i64 n, .int .i64 d, .int .i64 u, .int .i64 t] w fun e w' => e = .returned (.tuple #[.agg #[.int .i64 n, .int .i64 d, .int .i64 u, .int .i64 u, .int .i64 0, .int .i64 t], .int .i64 0]) ∧ Below w.heap.size w w' := by
  have P1 := Lib.hid (fun W => check_yes ⟨n, d, u, u, 0, t⟩ W hok)
  clear hok
  unfold Bk.val bkt at P1
  simp only at P1 ⊢
  go_enter Try.func13, Try.ntmps13
  go_wp2_with (go_at_call 15; refine (P1.out _).mono ?_; rintro e w1 ⟨rfl, hb1⟩; obtain ⟨⟨c0, c1, c2, c3, c4, c5, f0, f1, f2, f3, f4, f5⟩, ⟨e0, e1, e2, e3, e4, e5, g0, g1, g2, g3, g4, g5⟩⟩ := And.imp Bx.facts Bx.facts (bx_two hb1 (by simp)); have hbel := below2 hb1 (by simp; omega); have hsz := hb1.size; simp only [World.size_alloc] at hsz; clear hb1)
  refine bodyPost_ret (v := .tuple #[.agg #[.int .i64 n, .int .i64 d, .int .i64 u, .int .i64 u, .int .i64 0, .int .i64 t], .int .i64 0]) (by simp [results, Try.results13, go_sem, *]) rfl ⟨rfl, ?_⟩
  repeat (first | (with_reducible refine Below.setCell ?_ (by simp) _) | (with_reducible refine Below.drew ?_))
  with_reducible exact hbel


set_option maxHeartbeats 400000 in
theorem new_no (n d u t : Int) (w : World) (hok : ¬ (⟨n, d, u, u, 0, t⟩ : Bk).Ok) :
    Calls Try.prog 13 #[.int .i64 n, .int .i64 d, .int .i64 u, .int .i64 t] w fun e w' => e = .returned (.tuple #[.agg #[.int .i64 0, .int .i64 0, .int .i64 0, .int .i64 0, .int .i64 0, .int .i64 0], .int .i64 130]) ∧ Below w.heap.size w w' := by
  have P1 := Lib.hid (fun W => check_no ⟨n, d, u, u, 0, t⟩ W hok)
  clear hok
  unfold Bk.val bkt at P1
  simp only at P1 ⊢
  go_enter Try.func13, Try.ntmps13
  go_wp2_with (go_at_call 15; refine (P1.out _).mono ?_; rintro e w1 ⟨rfl, hb1⟩; obtain ⟨⟨c0, c1, c2, c3, c4, c5, f0, f1, f2, f3, f4, f5⟩, ⟨e0, e1, e2, e3, e4, e5, g0, g1, g2, g3, g4, g5⟩⟩ := And.imp Bx.facts Bx.facts (bx_two hb1 (by simp)); have hbel := below2 hb1 (by simp; omega); have hsz := hb1.size; simp only [World.size_alloc] at hsz; clear hb1)
  refine bodyPost_ret (v := .tuple #[.agg #[.int .i64 0, .int .i64 0, .int .i64 0, .int .i64 0, .int .i64 0, .int .i64 0], .int .i64 130]) (by simp [results, Try.results13, go_sem, *]) rfl ⟨rfl, ?_⟩
  repeat (first | (with_reducible refine Below.setCell ?_ (by simp) _) | (with_reducible refine Below.drew ?_))
  with_reducible exact hbel


def newV (n d u t : Int) : Value := if (⟨n, d, u, u, 0, t⟩ : Bk).Ok then .tuple #[bkt n d u u 0 t, .int .i64 0] else .tuple #[bkt 0 0 0 0 0 0, .int .i64 130]


theorem new_is (n d u t : Int) (w : World) :
    Calls Try.prog 13 #[.int .i64 n, .int .i64 d, .int .i64 u, .int .i64 t] w fun e w' => ∃ (y0 y1 y2 y3 y4 y5 r : Int), newV n d u t = .tuple #[bkt y0 y1 y2 y3 y4 y5, .int .i64 r] ∧ e = .returned (.tuple #[bkt y0 y1 y2 y3 y4 y5, .int .i64 r]) ∧ Below w.heap.size w w' := by
  by_cases h : (⟨n, d, u, u, 0, t⟩ : Bk).Ok
  · exact (new_yes n d u t w h).mono fun _ _ ⟨he, hb⟩ => ⟨n, d, u, u, 0, t, 0, by unfold newV; rw [if_pos h], he, hb⟩
  · exact (new_no n d u t w h).mono fun _ _ ⟨he, hb⟩ => ⟨0, 0, 0, 0, 0, 0, 130, by unfold newV; rw [if_neg h], he, hb⟩


set_option maxHeartbeats 400000 in
theorem rnew_yes (n d u t : Int) (w : World) (hok :  (⟨n, d, u, u, 0, t⟩ : Bk).Ok) :
    Calls Try.prog 14 #[.int .i64 n, .int .i64 d, .int .i64 u, .int .i64 t] w fun e w' => e = .returned (.tuple #[.agg #[.int .i64 n, .int .i64 d, .int .i64 u, .int .i64 u, .int .i64 0, .int .i64 t], .int .i64 0]) ∧ Below w.heap.size w w' := by
  have P1 := Lib.hid (fun W => rcheck_yes ⟨n, d, u, u, 0, t⟩ W hok)
  clear hok
  unfold Bk.val bkt at P1
  simp only at P1 ⊢
  go_enter Try.func14, Try.ntmps14
  go_wp2_with (go_at_call 16; refine (P1.out _).mono ?_; rintro e w1 ⟨rfl, hb1⟩; obtain ⟨⟨c0, c1, c2, c3, c4, c5, f0, f1, f2, f3, f4, f5⟩, ⟨e0, e1, e2, e3, e4, e5, g0, g1, g2, g3, g4, g5⟩⟩ := And.imp Bx.facts Bx.facts (bx_two hb1 (by simp)); have hbel := below2 hb1 (by simp; omega); have hsz := hb1.size; simp only [World.size_alloc] at hsz; clear hb1)
  refine bodyPost_ret (v := .tuple #[.agg #[.int .i64 n, .int .i64 d, .int .i64 u, .int .i64 u, .int .i64 0, .int .i64 t], .int .i64 0]) (by simp [results, Try.results14, go_sem, *]) rfl ⟨rfl, ?_⟩
  repeat (first | (with_reducible refine Below.setCell ?_ (by simp) _) | (with_reducible refine Below.drew ?_))
  with_reducible exact hbel


set_option maxHeartbeats 400000 in
theorem rnew_no (n d u t : Int) (w : World) (hok : ¬ (⟨n, d, u, u, 0, t⟩ : Bk).Ok) :
    Calls Try.prog 14 #[.int .i64 n, .int .i64 d, .int .i64 u, .int .i64 t] w fun e w' => e = .returned (.tuple #[.agg #[.int .i64 0, .int .i64 0, .int .i64 0, .int .i64 0, .int .i64 0, .int .i64 0], .int .i64 130]) ∧ Below w.heap.size w w' := by
  have P1 := Lib.hid (fun W => rcheck_no ⟨n, d, u, u, 0, t⟩ W hok)
  clear hok
  unfold Bk.val bkt at P1
  simp only at P1 ⊢
  go_enter Try.func14, Try.ntmps14
  go_wp2_with (go_at_call 16; refine (P1.out _).mono ?_; rintro e w1 ⟨rfl, hb1⟩; obtain ⟨⟨c0, c1, c2, c3, c4, c5, f0, f1, f2, f3, f4, f5⟩, ⟨e0, e1, e2, e3, e4, e5, g0, g1, g2, g3, g4, g5⟩⟩ := And.imp Bx.facts Bx.facts (bx_two hb1 (by simp)); have hbel := below2 hb1 (by simp; omega); have hsz := hb1.size; simp only [World.size_alloc] at hsz; clear hb1)
  refine bodyPost_ret (v := .tuple #[.agg #[.int .i64 0, .int .i64 0, .int .i64 0, .int .i64 0, .int .i64 0, .int .i64 0], .int .i64 130]) (by simp [results, Try.results14, go_sem, *]) rfl ⟨rfl, ?_⟩
  repeat (first | (with_reducible refine Below.setCell ?_ (by simp) _) | (with_reducible refine Below.drew ?_))
  with_reducible exact hbel



theorem rnew_is (n d u t : Int) (w : World) :
    Calls Try.prog 14 #[.int .i64 n, .int .i64 d, .int .i64 u, .int .i64 t] w fun e w' => ∃ (y0 y1 y2 y3 y4 y5 r : Int), newV n d u t = .tuple #[bkt y0 y1 y2 y3 y4 y5, .int .i64 r] ∧ e = .returned (.tuple #[bkt y0 y1 y2 y3 y4 y5, .int .i64 r]) ∧ Below w.heap.size w w' := by
  by_cases h : (⟨n, d, u, u, 0, t⟩ : Bk).Ok
  · exact (rnew_yes n d u t w h).mono fun _ _ ⟨he, hb⟩ => ⟨n, d, u, u, 0, t, 0, by unfold newV; rw [if_pos h], he, hb⟩
  · exact (rnew_no n d u t w h).mono fun _ _ ⟨he, hb⟩ => ⟨0, 0, 0, 0, 0, 0, 130, by unfold newV; rw [if_neg h], he, hb⟩

end Go.Proofs.Ythcmkjiemlfpcaa
