/- Take, and the reference's: what they return. -/
import Derived.Test.YthcmkjiemlfpcaaQRFill3
import Derived.StillTailTactics
namespace Go.Proofs.Ythcmkjiemlfpcaa
open Go Go.RowKit
set_option linter.unusedVariables false

/-- Bounds of a wait. -/
theorem wait_bd {y : Bk} (h : y.Ok) {n : Int} (h1 : y.level < n) (h2 : n ≤ y.burst) :
    0 ≤ n * y.den ∧ n * y.den ≤ 1125899906842624 ∧ 0 ≤ y.level * y.den ∧ y.level * y.den ≤ n * y.den ∧ y.part ≤ n * y.den - y.level * y.den := by
  have hb := h.bd
  have m1 := mul_bd (show 0 ≤ n by have := h.l1; omega) h2 (show 0 ≤ y.den by have := h.d1; omega) (Int.le_refl _)
  have m2 := mul_bd h.l1 (show y.level ≤ n - 1 by omega) (show 0 ≤ y.den by have := h.d1; omega) (Int.le_refl _)
  have a3 := hb.a3
  have p2 := h.p2
  rw [Int.sub_mul, Int.one_mul] at m2
  have d1 := h.d1
  exact ⟨m1.1, by omega, m2.1, by omega, by omega⟩

/-- Two boxes: the result's, and the filled bucket's. -/
structure TwoR (w W : World) (g : Nat) (y0 y1 y2 y3 y4 y5 : Int) : Prop where
  a : Bx W g y0 y1 y2 y3 y4 y5
  b : Bx W (w.heap.size + 1) 0 0 0 0 0 0
  z : w.heap.size + 1 < g
  h : Below w.heap.size w W
theorem TwoR.mk0 {w w2 : World} {x0 x1 x2 x3 x4 x5 : Int} (h : TwoB w w2 x0 x1 x2 x3 x4 x5) (y0 y1 y2 y3 y4 y5 : Int) :
    TwoR w (w2.alloc (.cells #[.int .i64 y0, .int .i64 y1, .int .i64 y2, .int .i64 y3, .int .i64 y4, .int .i64 y5] 23)) w2.heap.size y0 y1 y2 y3 y4 y5 :=
  ⟨Bx.new w2 y0 y1 y2 y3 y4 y5, h.b.alloc _, h.z, h.h.alloc h.h.size _⟩
theorem TwoR.more {w W W' : World} {g : Nat} {y0 y1 y2 y3 y4 y5 : Int} (h : TwoR w W g y0 y1 y2 y3 y4 y5) (hb : Below W.heap.size W W') : TwoR w W' g y0 y1 y2 y3 y4 y5 :=
  ⟨h.a.below hb h.a.lt, h.b.below hb h.b.lt, h.z, h.h.trans (hb.mono h.h.size)⟩
theorem TwoR.drew {w W : World} {g : Nat} {y0 y1 y2 y3 y4 y5 : Int} (h : TwoR w W g y0 y1 y2 y3 y4 y5) : TwoR w W.drew g y0 y1 y2 y3 y4 y5 := ⟨h.a, h.b, h.z, h.h.drew⟩
theorem TwoR.s {w W : World} {g : Nat} {y0 y1 y2 y3 y4 y5 : Int} (h : TwoR w W g y0 y1 y2 y3 y4 y5) : W.cell? ⟨g, 0, none⟩ = some (.int .i64 y0) ∧ W.cell? ⟨g, 1, none⟩ = some (.int .i64 y1) ∧ W.cell? ⟨g, 2, none⟩ = some (.int .i64 y2) ∧ W.cell? ⟨g, 3, none⟩ = some (.int .i64 y3) ∧ W.cell? ⟨g, 4, none⟩ = some (.int .i64 y4) ∧ W.cell? ⟨g, 5, none⟩ = some (.int .i64 y5) ∧ TwoR w W g y0 y1 y2 y3 y4 y5 :=
  ⟨h.a.facts.c0, h.a.facts.c1, h.a.facts.c2, h.a.facts.c3, h.a.facts.c4, h.a.facts.c5, h⟩
theorem TwoR.ofS {w W : World} {g : Nat} {y0 y1 y2 y3 y4 y5 : Int} (h : W.cell? ⟨g, 0, none⟩ = some (.int .i64 y0) ∧ W.cell? ⟨g, 1, none⟩ = some (.int .i64 y1) ∧ W.cell? ⟨g, 2, none⟩ = some (.int .i64 y2) ∧ W.cell? ⟨g, 3, none⟩ = some (.int .i64 y3) ∧ W.cell? ⟨g, 4, none⟩ = some (.int .i64 y4) ∧ W.cell? ⟨g, 5, none⟩ = some (.int .i64 y5) ∧ TwoR w W g y0 y1 y2 y3 y4 y5) : TwoR w W g y0 y1 y2 y3 y4 y5 := h.2.2.2.2.2.2


set_option maxHeartbeats 1000000 in
theorem take_bad (b : Bk) (now n : Int) (w : World) (hok : ¬ b.Ok) :
    Calls Try.prog 19 #[b.val, .int .i64 now, .int .i64 n] w fun e w' => e = .returned (.tuple #[b.val, .int .i64 (-1)]) ∧ Below w.heap.size w w' := by
  have P1 := Lib.hid (fun W => check_no b W hok)
  clear hok
  obtain ⟨x0, x1, x2, x3, x4, x5⟩ := b
  unfold Bk.val at P1 ⊢
  unfold bkt at P1 ⊢
  simp only at P1 ⊢
  go_enter Try.func19, Try.ntmps19
  go_wp2_with (go_at_call 15; refine (P1.out _).mono ?_; rintro e w1 ⟨rfl, hb1⟩; have K1 := TwoB.mk0 hb1 (by simp); obtain ⟨c0, c1, c2, c3, c4, c5, f0, f1, f2, f3, f4, f5⟩ := K1.a.facts; obtain ⟨e0, e1, e2, e3, e4, e5, g0, g1, g2, g3, g4, g5⟩ := K1.b.facts; have hsz := K1.z; have HK1 := Lib.hid K1; clear K1 hb1)
  refine bodyPost_ret (v := .tuple #[.agg #[.int .i64 x0, .int .i64 x1, .int .i64 x2, .int .i64 x3, .int .i64 x4, .int .i64 x5], .int .i64 (-1)]) (by simp [results, Try.results19, go_sem, *]) rfl ⟨rfl, ?_⟩
  repeat (first | (with_reducible refine Below.setCell ?_ (by simp; try omega) _) | (with_reducible refine Below.drew ?_) | (with_reducible refine Below.alloc ?_ (by simp; try omega) _))
  with_reducible exact HK1.out.h

set_option maxHeartbeats 1000000 in
set_option maxRecDepth 100000 in
theorem take_never (b : Bk) (y0 y1 y2 y3 y4 y5 : Int) (now n : Int) (w : World) (hok : b.Ok) (hy : b.fill now = ⟨y0, y1, y2, y3, y4, y5⟩) (h1 : n < 0 ∨ y2 < n) :
    Calls Try.prog 19 #[b.val, .int .i64 now, .int .i64 n] w fun e w' => e = .returned (.tuple #[.agg #[.int .i64 y0, .int .i64 y1, .int .i64 y2, .int .i64 y3, .int .i64 y4, .int .i64 y5], .int .i64 (-1)]) ∧ Below w.heap.size w w' := by
  have P1 := Lib.hid (fun W => check_yes b W hok)
  have P2 := Lib.hid (fun W => fill_is b now W)
  rw [hy] at P2
  have hk := hok.fill now
  rw [hy] at hk
  obtain ⟨k1, k2, k3, k4, k5, k6, k7, k8, k9, k10, _, _, _⟩ := hk
  simp only at k1 k2 k3 k4 k5 k6 k7 k8 k9 k10
  clear hy hok
  obtain ⟨x0, x1, x2, x3, x4, x5⟩ := b
  unfold Bk.val at P1 P2 ⊢
  unfold bkt at P1 P2 ⊢
  simp only at P1 P2 ⊢
  rcases h1 with h1 | h1
  · go_enter Try.func19, Try.ntmps19
    go_wp2_with (first
      | (go_at_call 15; refine (P1.out _).mono ?_; rintro e w1 ⟨rfl, hb1⟩; have K1 := TwoB.mk0 hb1 (by simp); obtain ⟨c0, c1, c2, c3, c4, c5, f0, f1, f2, f3, f4, f5⟩ := K1.a.facts; have hsz := K1.z; have HK1 := Lib.hid K1; clear K1 hb1)
      | (go_at_call 17; refine (P2.out _).mono ?_; rintro e w2 ⟨rfl, hb2⟩; have K2 := HK1.out.more hb2; clear c0 c1 c2 c3 c4 c5 f0 f1 f2 f3 f4 f5 hsz; obtain ⟨e0, e1, e2, e3, e4, e5, g0, g1, g2, g3, g4, g5⟩ := K2.b.facts; have hsz : w.heap.size + 1 < w2.heap.size := K2.z; have HK2 := Lib.hid K2; clear K2 hb2 HK1))
    refine bodyPost_ret (v := .tuple #[.agg #[.int .i64 y0, .int .i64 y1, .int .i64 y2, .int .i64 y3, .int .i64 y4, .int .i64 y5], .int .i64 (-1)]) (by simp [results, Try.results19, go_sem, *]) rfl ⟨rfl, ?_⟩
    repeat (first | (with_reducible refine Below.setCell ?_ (by simp; try omega) _) | (with_reducible refine Below.drew ?_) | (with_reducible refine Below.alloc ?_ (by simp; try omega) _))
    with_reducible exact HK2.out.h
  · go_enter Try.func19, Try.ntmps19
    go_wp2_with (first
      | (go_at_call 15; refine (P1.out _).mono ?_; rintro e w1 ⟨rfl, hb1⟩; have K1 := TwoB.mk0 hb1 (by simp); obtain ⟨c0, c1, c2, c3, c4, c5, f0, f1, f2, f3, f4, f5⟩ := K1.a.facts; have hsz := K1.z; have HK1 := Lib.hid K1; clear K1 hb1)
      | (go_at_call 17; refine (P2.out _).mono ?_; rintro e w2 ⟨rfl, hb2⟩; have K2 := HK1.out.more hb2; clear c0 c1 c2 c3 c4 c5 f0 f1 f2 f3 f4 f5 hsz; obtain ⟨e0, e1, e2, e3, e4, e5, g0, g1, g2, g3, g4, g5⟩ := K2.b.facts; have hsz : w.heap.size + 1 < w2.heap.size := K2.z; have HK2 := Lib.hid K2; clear K2 hb2 HK1))
    refine bodyPost_ret (v := .tuple #[.agg #[.int .i64 y0, .int .i64 y1, .int .i64 y2, .int .i64 y3, .int .i64 y4, .int .i64 y5], .int .i64 (-1)]) (by simp [results, Try.results19, go_sem, *]) rfl ⟨rfl, ?_⟩
    repeat (first | (with_reducible refine Below.setCell ?_ (by simp; try omega) _) | (with_reducible refine Below.drew ?_) | (with_reducible refine Below.alloc ?_ (by simp; try omega) _))
    with_reducible exact HK2.out.h

set_option maxHeartbeats 1000000 in
set_option maxRecDepth 100000 in
theorem take_took (b : Bk) (y0 y1 y2 y3 y4 y5 : Int) (now n : Int) (w : World) (hok : b.Ok) (hy : b.fill now = ⟨y0, y1, y2, y3, y4, y5⟩) (h0 : 0 ≤ n) (h1 : n ≤ y3) (h2 : y3 ≤ y2) :
    Calls Try.prog 19 #[b.val, .int .i64 now, .int .i64 n] w fun e w' => e = .returned (.tuple #[.agg #[.int .i64 y0, .int .i64 y1, .int .i64 y2, .int .i64 (y3 - n), .int .i64 y4, .int .i64 y5], .int .i64 0]) ∧ Below w.heap.size w w' := by
  have P1 := Lib.hid (fun W => check_yes b W hok)
  have P2 := Lib.hid (fun W => fill_is b now W)
  rw [hy] at P2
  have hk := hok.fill now
  rw [hy] at hk
  obtain ⟨k1, k2, k3, k4, k5, k6, k7, k8, k9, k10, _, _, _⟩ := hk
  simp only at k1 k2 k3 k4 k5 k6 k7 k8 k9 k10
  clear hy hok
  obtain ⟨x0, x1, x2, x3, x4, x5⟩ := b
  unfold Bk.val at P1 P2 ⊢
  unfold bkt at P1 P2 ⊢
  simp only at P1 P2 ⊢
  by_cases hz : n = 0
  · subst hz
    go_enter Try.func19, Try.ntmps19
    go_wp2_with (first
      | (go_at_call 15; refine (P1.out _).mono ?_; rintro e w1 ⟨rfl, hb1⟩; have K1 := TwoB.mk0 hb1 (by simp); obtain ⟨c0, c1, c2, c3, c4, c5, f0, f1, f2, f3, f4, f5⟩ := K1.a.facts; have hsz := K1.z; have HK1 := Lib.hid K1; clear K1 hb1)
      | (go_at_call 17; refine (P2.out _).mono ?_; rintro e w2 ⟨rfl, hb2⟩; have K2 := HK1.out.more hb2; clear c0 c1 c2 c3 c4 c5 f0 f1 f2 f3 f4 f5 hsz; obtain ⟨e0, e1, e2, e3, e4, e5, g0, g1, g2, g3, g4, g5⟩ := K2.b.facts; have hsz : w.heap.size + 1 < w2.heap.size := K2.z; have HK2 := Lib.hid K2; clear K2 hb2 HK1))
    refine bodyPost_ret (v := .tuple #[.agg #[.int .i64 y0, .int .i64 y1, .int .i64 y2, .int .i64 y3, .int .i64 y4, .int .i64 y5], .int .i64 0]) (by simp [results, Try.results19, go_sem, *]) rfl ⟨by rw [Int.sub_zero], ?_⟩
    repeat (first | (with_reducible refine Below.setCell ?_ (by simp; try omega) _) | (with_reducible refine Below.drew ?_) | (with_reducible refine Below.alloc ?_ (by simp; try omega) _))
    with_reducible exact HK2.out.h
  · have hz1 : (n == 0) = false := by rw [beq_eq_false_iff_ne]; exact hz
    go_enter Try.func19, Try.ntmps19
    go_wp2_with (first
      | (go_at_call 15; refine (P1.out _).mono ?_; rintro e w1 ⟨rfl, hb1⟩; have K1 := TwoB.mk0 hb1 (by simp); obtain ⟨c0, c1, c2, c3, c4, c5, f0, f1, f2, f3, f4, f5⟩ := K1.a.facts; have hsz := K1.z; have HK1 := Lib.hid K1; clear K1 hb1)
      | (go_at_call 17; refine (P2.out _).mono ?_; rintro e w2 ⟨rfl, hb2⟩; have K2 := HK1.out.more hb2; clear c0 c1 c2 c3 c4 c5 f0 f1 f2 f3 f4 f5 hsz; obtain ⟨e0, e1, e2, e3, e4, e5, g0, g1, g2, g3, g4, g5⟩ := K2.b.facts; have hsz : w.heap.size + 1 < w2.heap.size := K2.z; have HK2 := Lib.hid K2; clear K2 hb2 HK1))
    refine bodyPost_ret (v := .tuple #[.agg #[.int .i64 y0, .int .i64 y1, .int .i64 y2, .int .i64 (y3 - n), .int .i64 y4, .int .i64 y5], .int .i64 0]) (by simp [results, Try.results19, go_sem, *]) rfl ⟨rfl, ?_⟩
    repeat (first | (with_reducible refine Below.setCell ?_ (by simp; try omega) _) | (with_reducible refine Below.drew ?_) | (with_reducible refine Below.alloc ?_ (by simp; try omega) _))
    with_reducible exact HK2.out.h

set_option maxHeartbeats 1000000 in
set_option maxRecDepth 100000 in
theorem take_wait (b : Bk) (y0 y1 y2 y3 y4 y5 : Int) (now n : Int) (w : World) (hok : b.Ok) (hy : b.fill now = ⟨y0, y1, y2, y3, y4, y5⟩) (h1 : y3 < n) (h2 : n ≤ y2) :
    Calls Try.prog 19 #[b.val, .int .i64 now, .int .i64 n] w fun e w' => e = .returned (.tuple #[.agg #[.int .i64 y0, .int .i64 y1, .int .i64 y2, .int .i64 y3, .int .i64 y4, .int .i64 y5], .int .i64 ((n * y1 - y3 * y1 - y4 + y0 - 1) / y0)]) ∧ Below w.heap.size w w' := by
  have P1 := Lib.hid (fun W => check_yes b W hok)
  have P2 := Lib.hid (fun W => fill_is b now W)
  rw [hy] at P2
  have hk := hok.fill now
  rw [hy] at hk
  have hw := wait_bd hk h1 h2
  obtain ⟨k1, k2, k3, k4, k5, k6, k7, k8, k9, k10, _, _, _⟩ := hk
  simp only at k1 k2 k3 k4 k5 k6 k7 k8 k9 k10 hw
  obtain ⟨q1, q2, q3, q4, q5⟩ := hw
  have P3 := Lib.hid (fun W => ticks_is (n * y1 - y3 * y1 - y4) y0 W (by omega) (by omega) k1 k2)
  clear hy hok
  obtain ⟨x0, x1, x2, x3, x4, x5⟩ := b
  unfold Bk.val at P1 P2 ⊢
  unfold bkt at P1 P2 ⊢
  simp only at P1 P2 ⊢
  have E1 : IntKind.i64.wrap (n * y1) = n * y1 := IntWalk.i64_in _ (by omega)
  have E2 : IntKind.i64.wrap (y3 * y1) = y3 * y1 := IntWalk.i64_in _ (by omega)
  have E3 : IntKind.i64.wrap (n * y1 - y3 * y1) = n * y1 - y3 * y1 := IntWalk.i64_in _ (by omega)
  have E4 : IntKind.i64.wrap (n * y1 - y3 * y1 - y4) = n * y1 - y3 * y1 - y4 := IntWalk.i64_in _ (by omega)
  go_enter Try.func19, Try.ntmps19
  go_wp2_with (first
    | (go_at_call 15; refine (P1.out _).mono ?_; rintro e w1 ⟨rfl, hb1⟩; have K1 := TwoB.mk0 hb1 (by simp); obtain ⟨c0, c1, c2, c3, c4, c5, f0, f1, f2, f3, f4, f5⟩ := K1.a.facts; have hsz := K1.z; have HK1 := Lib.hid K1; clear K1 hb1)
    | (go_at_call 17; refine (P2.out _).mono ?_; rintro e w2 ⟨rfl, hb2⟩; have K2 := HK1.out.more hb2; clear c0 c1 c2 c3 c4 c5 f0 f1 f2 f3 f4 f5 hsz; obtain ⟨e0, e1, e2, e3, e4, e5, g0, g1, g2, g3, g4, g5⟩ := K2.b.facts; have hsz : w.heap.size + 1 < w2.heap.size := K2.z; have HK2 := Lib.hid K2; clear K2 hb2 HK1))
  have KR := TwoR.mk0 HK2.out y0 y1 y2 y3 y4 y5
  clear e0 e1 e2 e3 e4 e5 g0 g1 g2 g3 g4 g5
  generalize w2.alloc (.cells #[.int .i64 y0, .int .i64 y1, .int .i64 y2, .int .i64 y3, .int .i64 y4, .int .i64 y5] 23) = W3 at *
  generalize w2.heap.size = g at *
  have HR := Lib.hid KR
  clear HK2 P1 P2
  obtain ⟨c0, c1, c2, c3, c4, c5, f0, f1, f2, f3, f4, f5⟩ := KR.a.facts
  obtain ⟨e0, e1, e2, e3, e4, e5, g0, g1, g2, g3, g4, g5⟩ := KR.b.facts
  clear KR
  refine wp_region_still_tail 17 (by kernel_rfl) (by kernel_rfl) ?_
  simp only [List.take_succ_cons, List.take_zero, List.drop_succ_cons, List.drop_zero]
  repeat still_step
  still_call ((P3.out _).mono (fun _ _ hh => ⟨hh.1, hh.2.symm⟩))
  refine wpStill_nil ?_
  change wpList _ _ _ _ _ W3.drew
  go_wp2
  refine bodyPost_ret (v := .tuple #[.agg #[.int .i64 y0, .int .i64 y1, .int .i64 y2, .int .i64 y3, .int .i64 y4, .int .i64 y5], .int .i64 ((n * y1 - y3 * y1 - y4 + y0 - 1) / y0)]) (by simp [results, Try.results19, go_sem, e0, e1, e2, e3, e4, e5]) rfl ⟨rfl, ?_⟩
  repeat (first | (with_reducible refine Below.setCell ?_ (by simp; try omega) _) | (with_reducible refine Below.drew ?_) | (with_reducible refine Below.alloc ?_ (by simp; try omega) _))
  with_reducible exact HR.out.h

theorem take_is (b : Bk) (now n : Int) (w : World) :
    Calls Try.prog 19 #[b.val, .int .i64 now, .int .i64 n] w fun e w' => e = .returned (.tuple #[(b.take now n).1.val, .int .i64 (b.take now n).2]) ∧ Below w.heap.size w w' := by
  by_cases hok : b.Ok
  · obtain ⟨y0, y1, y2, y3, y4, y5, hy⟩ : ∃ y0 y1 y2 y3 y4 y5 : Int, b.fill now = ⟨y0, y1, y2, y3, y4, y5⟩ := ⟨_, _, _, _, _, _, rfl⟩
    have hk := hok.fill now
    have hs := Bk.fill_same b now
    rw [hy] at hk hs
    simp only at hs
    by_cases h1 : n < 0 ∨ y2 < n
    · have e : b.take now n = (⟨y0, y1, y2, y3, y4, y5⟩, -1) := by
        unfold Bk.take
        rw [if_neg (by simpa using hok), ← hs.2.2, if_pos h1, hy]
      rw [e]
      exact take_never b y0 y1 y2 y3 y4 y5 now n w hok hy h1
    · by_cases h2 : y3 < n
      · have e : b.take now n = (⟨y0, y1, y2, y3, y4, y5⟩, ((n * y1 - y3 * y1 - y4 + y0 - 1) / y0)) := by
          unfold Bk.take
          rw [if_neg (by simpa using hok), ← hs.2.2, ← hs.2.1, ← hs.1, if_neg h1, hy, if_pos h2]
          unfold Bk.parts
          simp only [Prod.mk.injEq, true_and]
          congr 1
          omega
        rw [e]
        exact take_wait b y0 y1 y2 y3 y4 y5 now n w hok hy h2 (by omega)
      · have e : b.take now n = (⟨y0, y1, y2, y3 - n, y4, y5⟩, 0) := by
          unfold Bk.take
          rw [if_neg (by simpa using hok), ← hs.2.2, if_neg h1, hy, if_neg h2]
        rw [e]
        exact take_took b y0 y1 y2 y3 y4 y5 now n w hok hy (by omega) (by omega) hk.l2
  · have e : b.take now n = (b, -1) := by unfold Bk.take; rw [if_pos hok]
    rw [e]
    exact take_bad b now n w hok

set_option maxHeartbeats 1000000 in
theorem rtake_bad (b : Bk) (now n : Int) (w : World) (hok : ¬ b.Ok) :
    Calls Try.prog 20 #[b.val, .int .i64 now, .int .i64 n] w fun e w' => e = .returned (.tuple #[b.val, .int .i64 (-1)]) ∧ Below w.heap.size w w' := by
  have P1 := Lib.hid (fun W => rcheck_no b W hok)
  clear hok
  obtain ⟨x0, x1, x2, x3, x4, x5⟩ := b
  unfold Bk.val at P1 ⊢
  unfold bkt at P1 ⊢
  simp only at P1 ⊢
  go_enter Try.func20, Try.ntmps20
  go_wp2_with (go_at_call 16; refine (P1.out _).mono ?_; rintro e w1 ⟨rfl, hb1⟩; have K1 := TwoB.mk0 hb1 (by simp); obtain ⟨c0, c1, c2, c3, c4, c5, f0, f1, f2, f3, f4, f5⟩ := K1.a.facts; obtain ⟨e0, e1, e2, e3, e4, e5, g0, g1, g2, g3, g4, g5⟩ := K1.b.facts; have hsz := K1.z; have HK1 := Lib.hid K1; clear K1 hb1)
  refine bodyPost_ret (v := .tuple #[.agg #[.int .i64 x0, .int .i64 x1, .int .i64 x2, .int .i64 x3, .int .i64 x4, .int .i64 x5], .int .i64 (-1)]) (by simp [results, Try.results20, go_sem, *]) rfl ⟨rfl, ?_⟩
  repeat (first | (with_reducible refine Below.setCell ?_ (by simp; try omega) _) | (with_reducible refine Below.drew ?_) | (with_reducible refine Below.alloc ?_ (by simp; try omega) _))
  with_reducible exact HK1.out.h

set_option maxHeartbeats 1000000 in
set_option maxRecDepth 100000 in
theorem rtake_never (b : Bk) (y0 y1 y2 y3 y4 y5 : Int) (now n : Int) (w : World) (hok : b.Ok) (hy : b.fill now = ⟨y0, y1, y2, y3, y4, y5⟩) (h1 : n < 0 ∨ y2 < n) :
    Calls Try.prog 20 #[b.val, .int .i64 now, .int .i64 n] w fun e w' => e = .returned (.tuple #[.agg #[.int .i64 y0, .int .i64 y1, .int .i64 y2, .int .i64 y3, .int .i64 y4, .int .i64 y5], .int .i64 (-1)]) ∧ Below w.heap.size w w' := by
  have P1 := Lib.hid (fun W => rcheck_yes b W hok)
  have P2 := Lib.hid (fun W => rfill_is b now W)
  rw [hy] at P2
  have hk := hok.fill now
  rw [hy] at hk
  obtain ⟨k1, k2, k3, k4, k5, k6, k7, k8, k9, k10, _, _, _⟩ := hk
  simp only at k1 k2 k3 k4 k5 k6 k7 k8 k9 k10
  clear hy hok
  obtain ⟨x0, x1, x2, x3, x4, x5⟩ := b
  unfold Bk.val at P1 P2 ⊢
  unfold bkt at P1 P2 ⊢
  simp only at P1 P2 ⊢
  rcases h1 with h1 | h1
  · go_enter Try.func20, Try.ntmps20
    go_wp2_with (first
      | (go_at_call 16; refine (P1.out _).mono ?_; rintro e w1 ⟨rfl, hb1⟩; have K1 := TwoB.mk0 hb1 (by simp); obtain ⟨c0, c1, c2, c3, c4, c5, f0, f1, f2, f3, f4, f5⟩ := K1.a.facts; have hsz := K1.z; have HK1 := Lib.hid K1; clear K1 hb1)
      | (go_at_call 18; refine (P2.out _).mono ?_; rintro e w2 ⟨rfl, hb2⟩; have K2 := HK1.out.more hb2; clear c0 c1 c2 c3 c4 c5 f0 f1 f2 f3 f4 f5 hsz; obtain ⟨e0, e1, e2, e3, e4, e5, g0, g1, g2, g3, g4, g5⟩ := K2.b.facts; have hsz : w.heap.size + 1 < w2.heap.size := K2.z; have HK2 := Lib.hid K2; clear K2 hb2 HK1))
    refine bodyPost_ret (v := .tuple #[.agg #[.int .i64 y0, .int .i64 y1, .int .i64 y2, .int .i64 y3, .int .i64 y4, .int .i64 y5], .int .i64 (-1)]) (by simp [results, Try.results20, go_sem, *]) rfl ⟨rfl, ?_⟩
    repeat (first | (with_reducible refine Below.setCell ?_ (by simp; try omega) _) | (with_reducible refine Below.drew ?_) | (with_reducible refine Below.alloc ?_ (by simp; try omega) _))
    with_reducible exact HK2.out.h
  · go_enter Try.func20, Try.ntmps20
    go_wp2_with (first
      | (go_at_call 16; refine (P1.out _).mono ?_; rintro e w1 ⟨rfl, hb1⟩; have K1 := TwoB.mk0 hb1 (by simp); obtain ⟨c0, c1, c2, c3, c4, c5, f0, f1, f2, f3, f4, f5⟩ := K1.a.facts; have hsz := K1.z; have HK1 := Lib.hid K1; clear K1 hb1)
      | (go_at_call 18; refine (P2.out _).mono ?_; rintro e w2 ⟨rfl, hb2⟩; have K2 := HK1.out.more hb2; clear c0 c1 c2 c3 c4 c5 f0 f1 f2 f3 f4 f5 hsz; obtain ⟨e0, e1, e2, e3, e4, e5, g0, g1, g2, g3, g4, g5⟩ := K2.b.facts; have hsz : w.heap.size + 1 < w2.heap.size := K2.z; have HK2 := Lib.hid K2; clear K2 hb2 HK1))
    refine bodyPost_ret (v := .tuple #[.agg #[.int .i64 y0, .int .i64 y1, .int .i64 y2, .int .i64 y3, .int .i64 y4, .int .i64 y5], .int .i64 (-1)]) (by simp [results, Try.results20, go_sem, *]) rfl ⟨rfl, ?_⟩
    repeat (first | (with_reducible refine Below.setCell ?_ (by simp; try omega) _) | (with_reducible refine Below.drew ?_) | (with_reducible refine Below.alloc ?_ (by simp; try omega) _))
    with_reducible exact HK2.out.h

set_option maxHeartbeats 1000000 in
set_option maxRecDepth 100000 in
theorem rtake_took (b : Bk) (y0 y1 y2 y3 y4 y5 : Int) (now n : Int) (w : World) (hok : b.Ok) (hy : b.fill now = ⟨y0, y1, y2, y3, y4, y5⟩) (h0 : 0 ≤ n) (h1 : n ≤ y3) (h2 : y3 ≤ y2) :
    Calls Try.prog 20 #[b.val, .int .i64 now, .int .i64 n] w fun e w' => e = .returned (.tuple #[.agg #[.int .i64 y0, .int .i64 y1, .int .i64 y2, .int .i64 (y3 - n), .int .i64 y4, .int .i64 y5], .int .i64 0]) ∧ Below w.heap.size w w' := by
  have P1 := Lib.hid (fun W => rcheck_yes b W hok)
  have P2 := Lib.hid (fun W => rfill_is b now W)
  rw [hy] at P2
  have hk := hok.fill now
  rw [hy] at hk
  obtain ⟨k1, k2, k3, k4, k5, k6, k7, k8, k9, k10, _, _, _⟩ := hk
  simp only at k1 k2 k3 k4 k5 k6 k7 k8 k9 k10
  clear hy hok
  obtain ⟨x0, x1, x2, x3, x4, x5⟩ := b
  unfold Bk.val at P1 P2 ⊢
  unfold bkt at P1 P2 ⊢
  simp only at P1 P2 ⊢
  go_enter Try.func20, Try.ntmps20
  go_wp2_with (first
    | (go_at_call 16; refine (P1.out _).mono ?_; rintro e w1 ⟨rfl, hb1⟩; have K1 := TwoB.mk0 hb1 (by simp); obtain ⟨c0, c1, c2, c3, c4, c5, f0, f1, f2, f3, f4, f5⟩ := K1.a.facts; have hsz := K1.z; have HK1 := Lib.hid K1; clear K1 hb1)
    | (go_at_call 18; refine (P2.out _).mono ?_; rintro e w2 ⟨rfl, hb2⟩; have K2 := HK1.out.more hb2; clear c0 c1 c2 c3 c4 c5 f0 f1 f2 f3 f4 f5 hsz; obtain ⟨e0, e1, e2, e3, e4, e5, g0, g1, g2, g3, g4, g5⟩ := K2.b.facts; have hsz : w.heap.size + 1 < w2.heap.size := K2.z; have HK2 := Lib.hid K2; clear K2 hb2 HK1))
  refine bodyPost_ret (v := .tuple #[.agg #[.int .i64 y0, .int .i64 y1, .int .i64 y2, .int .i64 (y3 - n), .int .i64 y4, .int .i64 y5], .int .i64 0]) (by simp [results, Try.results20, go_sem, *]) rfl ⟨rfl, ?_⟩
  repeat (first | (with_reducible refine Below.setCell ?_ (by simp; try omega) _) | (with_reducible refine Below.drew ?_) | (with_reducible refine Below.alloc ?_ (by simp; try omega) _))
  with_reducible exact HK2.out.h

set_option maxHeartbeats 1000000 in
set_option maxRecDepth 100000 in
theorem rtake_wait (b : Bk) (y0 y1 y2 y3 y4 y5 : Int) (now n : Int) (w : World) (hok : b.Ok) (hy : b.fill now = ⟨y0, y1, y2, y3, y4, y5⟩) (h1 : y3 < n) (h2 : n ≤ y2) :
    Calls Try.prog 20 #[b.val, .int .i64 now, .int .i64 n] w fun e w' => e = .returned (.tuple #[.agg #[.int .i64 y0, .int .i64 y1, .int .i64 y2, .int .i64 y3, .int .i64 y4, .int .i64 y5], .int .i64 ((n * y1 - (y3 * y1 + y4) + y0 - 1) / y0)]) ∧ Below w.heap.size w w' := by
  have P1 := Lib.hid (fun W => rcheck_yes b W hok)
  have P2 := Lib.hid (fun W => rfill_is b now W)
  rw [hy] at P2
  have hk := hok.fill now
  rw [hy] at hk
  have P3 := Lib.hid (fun W => rparts_is ⟨y0, y1, y2, y3, y4, y5⟩ W hk.bd hk.p1 (by have := hk.p2; have := hk.d2; simp only at *; omega))
  unfold Bk.val bkt Bk.parts at P3
  simp only at P3
  have hw := wait_bd hk h1 h2
  obtain ⟨k1, k2, k3, k4, k5, k6, k7, k8, k9, k10, _, _, _⟩ := hk
  simp only at k1 k2 k3 k4 k5 k6 k7 k8 k9 k10 hw
  obtain ⟨q1, q2, q3, q4, q5⟩ := hw
  clear hy hok
  obtain ⟨x0, x1, x2, x3, x4, x5⟩ := b
  unfold Bk.val at P1 P2 ⊢
  unfold bkt at P1 P2 ⊢
  simp only at P1 P2 ⊢
  have E1 : IntKind.i64.wrap (n * y1) = n * y1 := IntWalk.i64_in _ (by omega)
  have E4 : IntKind.i64.wrap (n * y1 - (y3 * y1 + y4)) = n * y1 - (y3 * y1 + y4) := IntWalk.i64_in _ (by omega)
  go_enter Try.func20, Try.ntmps20
  go_wp2_with (first
    | (go_at_call 16; refine (P1.out _).mono ?_; rintro e w1 ⟨rfl, hb1⟩; have K1 := TwoB.mk0 hb1 (by simp); obtain ⟨c0, c1, c2, c3, c4, c5, f0, f1, f2, f3, f4, f5⟩ := K1.a.facts; have hsz := K1.z; have HK1 := Lib.hid K1; clear K1 hb1)
    | (go_at_call 18; refine (P2.out _).mono ?_; rintro e w2 ⟨rfl, hb2⟩; have K2 := HK1.out.more hb2; clear c0 c1 c2 c3 c4 c5 f0 f1 f2 f3 f4 f5 hsz; obtain ⟨e0, e1, e2, e3, e4, e5, g0, g1, g2, g3, g4, g5⟩ := K2.b.facts; have hsz : w.heap.size + 1 < w2.heap.size := K2.z; have HK2 := Lib.hid K2; clear K2 hb2 HK1))
  have KR := TwoR.mk0 HK2.out y0 y1 y2 y3 y4 y5
  clear e0 e1 e2 e3 e4 e5 g0 g1 g2 g3 g4 g5
  generalize w2.alloc (.cells #[.int .i64 y0, .int .i64 y1, .int .i64 y2, .int .i64 y3, .int .i64 y4, .int .i64 y5] 23) = W3 at *
  generalize w2.heap.size = g at *
  have HR := Lib.hid KR
  clear HK2 P1 P2
  clear KR
  go_region_held3 (fun W => W.cell? ⟨g, 0, none⟩ = some (.int .i64 y0) ∧ W.cell? ⟨g, 1, none⟩ = some (.int .i64 y1) ∧ W.cell? ⟨g, 2, none⟩ = some (.int .i64 y2) ∧ W.cell? ⟨g, 3, none⟩ = some (.int .i64 y3) ∧ W.cell? ⟨g, 4, none⟩ = some (.int .i64 y4) ∧ W.cell? ⟨g, 5, none⟩ = some (.int .i64 y5) ∧ TwoR w W g y0 y1 y2 y3 y4 y5) (first | assumption | exact TwoR.s (by assumption) | exact TwoR.s (TwoR.drew (by assumption)) | exact TwoR.s HR.out | exact TwoR.s HR.out.drew) ((go_at_call 34; refine (P3.out _).mono ?_; rintro e w5 ⟨rfl, hb5⟩; have hS : TwoR w w5 g y0 y1 y2 y3 y4 y5 := TwoR.more (TwoR.ofS (by assumption)) hb5))
  clear E1 E4 hb5 HR
  have HS := Lib.hid hS
  obtain ⟨c0, c1, c2, c3, c4, c5, f0, f1, f2, f3, f4, f5⟩ := hS.a.facts
  obtain ⟨e0, e1, e2, e3, e4, e5, g0, g1, g2, g3, g4, g5⟩ := hS.b.facts
  have hgz := hS.z
  clear hS
  go_wp2_with fail
  go_region
  go_wp2
  refine bodyPost_ret (v := .tuple #[.agg #[.int .i64 y0, .int .i64 y1, .int .i64 y2, .int .i64 y3, .int .i64 y4, .int .i64 y5], .int .i64 ((n * y1 - (y3 * y1 + y4) + y0 - 1) / y0)]) (by simp [results, Try.results20, go_sem, e0, e1, e2, e3, e4, e5]) rfl ⟨rfl, ?_⟩
  repeat (first | (with_reducible refine Below.setCell ?_ (by simp; try omega) _) | (with_reducible refine Below.drew ?_) | (with_reducible refine Below.alloc ?_ (by simp; try omega) _))
  with_reducible exact HS.out.h

theorem rtake_is (b : Bk) (now n : Int) (w : World) :
    Calls Try.prog 20 #[b.val, .int .i64 now, .int .i64 n] w fun e w' => e = .returned (.tuple #[(b.take now n).1.val, .int .i64 (b.take now n).2]) ∧ Below w.heap.size w w' := by
  by_cases hok : b.Ok
  · obtain ⟨y0, y1, y2, y3, y4, y5, hy⟩ : ∃ y0 y1 y2 y3 y4 y5 : Int, b.fill now = ⟨y0, y1, y2, y3, y4, y5⟩ := ⟨_, _, _, _, _, _, rfl⟩
    have hk := hok.fill now
    have hs := Bk.fill_same b now
    rw [hy] at hk hs
    simp only at hs
    by_cases h1 : n < 0 ∨ y2 < n
    · have e : b.take now n = (⟨y0, y1, y2, y3, y4, y5⟩, -1) := by
        unfold Bk.take
        rw [if_neg (by simpa using hok), ← hs.2.2, if_pos h1, hy]
      rw [e]
      exact rtake_never b y0 y1 y2 y3 y4 y5 now n w hok hy h1
    · by_cases h2 : y3 < n
      · have e : b.take now n = (⟨y0, y1, y2, y3, y4, y5⟩, ((n * y1 - (y3 * y1 + y4) + y0 - 1) / y0)) := by
          unfold Bk.take
          rw [if_neg (by simpa using hok), ← hs.2.2, ← hs.2.1, ← hs.1, if_neg h1, hy, if_pos h2]
          rfl
        rw [e]
        exact rtake_wait b y0 y1 y2 y3 y4 y5 now n w hok hy h2 (by omega)
      · have e : b.take now n = (⟨y0, y1, y2, y3 - n, y4, y5⟩, 0) := by
          unfold Bk.take
          rw [if_neg (by simpa using hok), ← hs.2.2, if_neg h1, hy, if_neg h2]
        rw [e]
        exact rtake_took b y0 y1 y2 y3 y4 y5 now n w hok hy (by omega) (by omega) hk.l2
  · have e : b.take now n = (b, -1) := by unfold Bk.take; rw [if_pos hok]
    rw [e]
    exact rtake_bad b now n w hok
end Go.Proofs.Ythcmkjiemlfpcaa
