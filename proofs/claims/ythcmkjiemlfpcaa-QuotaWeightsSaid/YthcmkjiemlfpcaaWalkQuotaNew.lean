/- QuotaNew: its walk. -/
import Derived.Test.YthcmkjiemlfpcaaQNew
import Derived.Deep.RegionHeld3
namespace Go.Proofs.Ythcmkjiemlfpcaa
open Go Go.RowKit
set_option linter.unusedVariables false

theorem newV_shape (n d u t : Int) : ∃ (y0 y1 y2 y3 y4 y5 r : Int), newV n d u t = .tuple #[bkt y0 y1 y2 y3 y4 y5, .int .i64 r] := by
  unfold newV
  split
  · exact ⟨n, d, u, u, 0, t, 0, rfl⟩
  · exact ⟨0, 0, 0, 0, 0, 0, 130, rfl⟩
theorem new_at (n d u t : Int) (w : World) : Calls Try.prog 13 #[.int .i64 n, .int .i64 d, .int .i64 u, .int .i64 t] w fun e w' => e = .returned (newV n d u t) ∧ Below w.heap.size w w' :=
  (new_is n d u t w).mono fun _ _ ⟨_, _, _, _, _, _, _, h, he, hb⟩ => ⟨by rw [he, h], hb⟩
theorem rnew_at (n d u t : Int) (w : World) : Calls Try.prog 14 #[.int .i64 n, .int .i64 d, .int .i64 u, .int .i64 t] w fun e w' => e = .returned (newV n d u t) ∧ Below w.heap.size w w' :=
  (rnew_is n d u t w).mono fun _ _ ⟨_, _, _, _, _, _, _, h, he, hb⟩ => ⟨by rw [he, h], hb⟩

structure ThreeB (w W : World) (g1 g2 : Nat) (x0 x1 x2 x3 x4 x5 y0 y1 y2 y3 y4 y5 : Int) : Prop where
  a : Bx W w.heap.size x0 x1 x2 x3 x4 x5
  b : Bx W g1 y0 y1 y2 y3 y4 y5
  c : Bx W g2 y0 y1 y2 y3 y4 y5
  h : Below w.heap.size w W
theorem ThreeB.more {w W W' : World} {g1 g2 : Nat} {x0 x1 x2 x3 x4 x5 y0 y1 y2 y3 y4 y5 : Int} (h : ThreeB w W g1 g2 x0 x1 x2 x3 x4 x5 y0 y1 y2 y3 y4 y5) (hb : Below W.heap.size W W') : ThreeB w W' g1 g2 x0 x1 x2 x3 x4 x5 y0 y1 y2 y3 y4 y5 :=
  ⟨h.a.below hb h.a.lt, h.b.below hb h.b.lt, h.c.below hb h.c.lt, h.h.trans (hb.mono h.h.size)⟩
theorem ThreeB.drew {w W : World} {g1 g2 : Nat} {x0 x1 x2 x3 x4 x5 y0 y1 y2 y3 y4 y5 : Int} (h : ThreeB w W g1 g2 x0 x1 x2 x3 x4 x5 y0 y1 y2 y3 y4 y5) : ThreeB w W.drew g1 g2 x0 x1 x2 x3 x4 x5 y0 y1 y2 y3 y4 y5 := ⟨h.a, h.b, h.c, h.h.drew⟩
theorem ThreeB.s {w W : World} {g1 g2 : Nat} {x0 x1 x2 x3 x4 x5 y0 y1 y2 y3 y4 y5 : Int} (h : ThreeB w W g1 g2 x0 x1 x2 x3 x4 x5 y0 y1 y2 y3 y4 y5) : W.cell? ⟨w.heap.size, 0, none⟩ = some (.int .i64 x0) ∧ W.cell? ⟨w.heap.size, 1, none⟩ = some (.int .i64 x1) ∧ W.cell? ⟨w.heap.size, 2, none⟩ = some (.int .i64 x2) ∧ W.cell? ⟨w.heap.size, 3, none⟩ = some (.int .i64 x3) ∧ W.cell? ⟨w.heap.size, 4, none⟩ = some (.int .i64 x4) ∧ W.cell? ⟨w.heap.size, 5, none⟩ = some (.int .i64 x5) ∧ W.cell? ⟨g1, 0, none⟩ = some (.int .i64 y0) ∧ W.cell? ⟨g1, 1, none⟩ = some (.int .i64 y1) ∧ W.cell? ⟨g1, 2, none⟩ = some (.int .i64 y2) ∧ W.cell? ⟨g1, 3, none⟩ = some (.int .i64 y3) ∧ W.cell? ⟨g1, 4, none⟩ = some (.int .i64 y4) ∧ W.cell? ⟨g1, 5, none⟩ = some (.int .i64 y5) ∧ W.cell? ⟨g2, 0, none⟩ = some (.int .i64 y0) ∧ W.cell? ⟨g2, 1, none⟩ = some (.int .i64 y1) ∧ W.cell? ⟨g2, 2, none⟩ = some (.int .i64 y2) ∧ W.cell? ⟨g2, 3, none⟩ = some (.int .i64 y3) ∧ W.cell? ⟨g2, 4, none⟩ = some (.int .i64 y4) ∧ W.cell? ⟨g2, 5, none⟩ = some (.int .i64 y5) ∧ ThreeB w W g1 g2 x0 x1 x2 x3 x4 x5 y0 y1 y2 y3 y4 y5 :=
  ⟨h.a.facts.c0, h.a.facts.c1, h.a.facts.c2, h.a.facts.c3, h.a.facts.c4, h.a.facts.c5, h.b.facts.c0, h.b.facts.c1, h.b.facts.c2, h.b.facts.c3, h.b.facts.c4, h.b.facts.c5, h.c.facts.c0, h.c.facts.c1, h.c.facts.c2, h.c.facts.c3, h.c.facts.c4, h.c.facts.c5, h⟩
theorem ThreeB.ofS {w W : World} {g1 g2 : Nat} {x0 x1 x2 x3 x4 x5 y0 y1 y2 y3 y4 y5 : Int} (h : W.cell? ⟨w.heap.size, 0, none⟩ = some (.int .i64 x0) ∧ W.cell? ⟨w.heap.size, 1, none⟩ = some (.int .i64 x1) ∧ W.cell? ⟨w.heap.size, 2, none⟩ = some (.int .i64 x2) ∧ W.cell? ⟨w.heap.size, 3, none⟩ = some (.int .i64 x3) ∧ W.cell? ⟨w.heap.size, 4, none⟩ = some (.int .i64 x4) ∧ W.cell? ⟨w.heap.size, 5, none⟩ = some (.int .i64 x5) ∧ W.cell? ⟨g1, 0, none⟩ = some (.int .i64 y0) ∧ W.cell? ⟨g1, 1, none⟩ = some (.int .i64 y1) ∧ W.cell? ⟨g1, 2, none⟩ = some (.int .i64 y2) ∧ W.cell? ⟨g1, 3, none⟩ = some (.int .i64 y3) ∧ W.cell? ⟨g1, 4, none⟩ = some (.int .i64 y4) ∧ W.cell? ⟨g1, 5, none⟩ = some (.int .i64 y5) ∧ W.cell? ⟨g2, 0, none⟩ = some (.int .i64 y0) ∧ W.cell? ⟨g2, 1, none⟩ = some (.int .i64 y1) ∧ W.cell? ⟨g2, 2, none⟩ = some (.int .i64 y2) ∧ W.cell? ⟨g2, 3, none⟩ = some (.int .i64 y3) ∧ W.cell? ⟨g2, 4, none⟩ = some (.int .i64 y4) ∧ W.cell? ⟨g2, 5, none⟩ = some (.int .i64 y5) ∧ ThreeB w W g1 g2 x0 x1 x2 x3 x4 x5 y0 y1 y2 y3 y4 y5) : ThreeB w W g1 g2 x0 x1 x2 x3 x4 x5 y0 y1 y2 y3 y4 y5 := h.2.2.2.2.2.2.2.2.2.2.2.2.2.2.2.2.2.2

set_option maxHeartbeats 1000000 in
set_option maxRecDepth 100000 in
theorem quotaNew_walk (a0 : Int) (a1 : Int) (a2 : Int) (a3 : Int) (x40 x41 x42 x43 x44 x45 : Int) (w : World) (w0 : -9223372036854775808 ≤ a0 ∧ a0 ≤ 9223372036854775807) (w1 : -9223372036854775808 ≤ a1 ∧ a1 ≤ 9223372036854775807) (w2 : -9223372036854775808 ≤ a2 ∧ a2 ≤ 9223372036854775807) (w3 : -9223372036854775808 ≤ a3 ∧ a3 ≤ 9223372036854775807) (e40 : r64 x40) (e41 : r64 x41) (e42 : r64 x42) (e43 : r64 x43) (e44 : r64 x44) (e45 : r64 x45) :
    Calls Try.prog 3 #[.int .i64 a0, .int .i64 a1, .int .i64 a2, .int .i64 a3, bkt x40 x41 x42 x43 x44 x45] w fun e w' => e = .returned (.bool true) ∧ Below w.heap.size w w' := by
  have P1 := Lib.hid (fun W => new_at a0 a1 a2 a3 W)
  have P2 := Lib.hid (fun W => rnew_at a0 a1 a2 a3 W)
  have P3 := Lib.hid (fun W => check_is ⟨x40, x41, x42, x43, x44, x45⟩ W)
  have P4 := Lib.hid (fun W => rcheck_is ⟨x40, x41, x42, x43, x44, x45⟩ W)
  obtain ⟨y0, y1, y2, y3, y4, y5, r, hv⟩ := newV_shape a0 a1 a2 a3
  rw [hv] at P1 P2
  obtain ⟨q, hq⟩ : ∃ q, q = errB ⟨x40, x41, x42, x43, x44, x45⟩ := ⟨_, rfl⟩
  rw [← hq] at P3 P4
  clear hv hq w0 w1 w2 w3 e40 e41 e42 e43 e44 e45
  unfold Bk.val at P3 P4
  unfold bkt at P1 P2 P3 P4 ⊢
  simp only at P1 P2 P3 P4 ⊢
  go_enter Try.func3, Try.ntmps3
  go_wp2_with fail
  refine (P1.out _).mono ?_
  rintro e w1 ⟨rfl, hb1⟩
  have K1 := (OneB.mk0 w x40 x41 x42 x43 x44 x45).more hb1
  have HK1 := Lib.hid K1
  clear K1 hb1
  go_wp2_with fail
  refine (P2.out _).mono ?_
  rintro e w2 ⟨rfl, hb2⟩
  have K2 : ThreeB w (w2.alloc (.cells #[.int .i64 y0, .int .i64 y1, .int .i64 y2, .int .i64 y3, .int .i64 y4, .int .i64 y5] 23)) w1.heap.size w2.heap.size x40 x41 x42 x43 x44 x45 y0 y1 y2 y3 y4 y5 :=
    ⟨((HK1.out.a.alloc _).below hb2 (by simp; have := HK1.out.a.lt; omega)).alloc _, ((Bx.new w1 y0 y1 y2 y3 y4 y5).below hb2 (by simp)).alloc _, Bx.new w2 y0 y1 y2 y3 y4 y5,
      (HK1.out.h.trans (((Below.refl _ _).alloc HK1.out.h.size _).trans (hb2.mono (by simp; have := HK1.out.h.size; omega)))).alloc (Nat.le_trans HK1.out.h.size (by have := hb2.size; simp at this; omega)) _⟩
  have HK2 := Lib.hid K2
  clear K2 hb2 HK1
  go_wp2_with fail
  go_region_held3 (fun W => W.cell? ⟨w.heap.size, 0, none⟩ = some (.int .i64 x40) ∧ W.cell? ⟨w.heap.size, 1, none⟩ = some (.int .i64 x41) ∧ W.cell? ⟨w.heap.size, 2, none⟩ = some (.int .i64 x42) ∧ W.cell? ⟨w.heap.size, 3, none⟩ = some (.int .i64 x43) ∧ W.cell? ⟨w.heap.size, 4, none⟩ = some (.int .i64 x44) ∧ W.cell? ⟨w.heap.size, 5, none⟩ = some (.int .i64 x45) ∧ W.cell? ⟨w1.heap.size, 0, none⟩ = some (.int .i64 y0) ∧ W.cell? ⟨w1.heap.size, 1, none⟩ = some (.int .i64 y1) ∧ W.cell? ⟨w1.heap.size, 2, none⟩ = some (.int .i64 y2) ∧ W.cell? ⟨w1.heap.size, 3, none⟩ = some (.int .i64 y3) ∧ W.cell? ⟨w1.heap.size, 4, none⟩ = some (.int .i64 y4) ∧ W.cell? ⟨w1.heap.size, 5, none⟩ = some (.int .i64 y5) ∧ W.cell? ⟨w2.heap.size, 0, none⟩ = some (.int .i64 y0) ∧ W.cell? ⟨w2.heap.size, 1, none⟩ = some (.int .i64 y1) ∧ W.cell? ⟨w2.heap.size, 2, none⟩ = some (.int .i64 y2) ∧ W.cell? ⟨w2.heap.size, 3, none⟩ = some (.int .i64 y3) ∧ W.cell? ⟨w2.heap.size, 4, none⟩ = some (.int .i64 y4) ∧ W.cell? ⟨w2.heap.size, 5, none⟩ = some (.int .i64 y5) ∧ ThreeB w W w1.heap.size w2.heap.size x40 x41 x42 x43 x44 x45 y0 y1 y2 y3 y4 y5) (first | assumption | exact ThreeB.s (by assumption) | exact ThreeB.s (ThreeB.drew (by assumption)) | exact ThreeB.s HK2.out | exact ThreeB.s HK2.out.drew)
    (first
      | (go_at_call 15; refine (P3.out _).mono ?_; rintro e w3 ⟨rfl, hb3⟩; have hS : ThreeB w w3 w1.heap.size w2.heap.size x40 x41 x42 x43 x44 x45 y0 y1 y2 y3 y4 y5 := ThreeB.more (ThreeB.ofS (by assumption)) hb3)
      | (go_at_call 16; refine (P4.out _).mono ?_; rintro e w4 ⟨rfl, hb4⟩; have hS' : ThreeB w w4 w1.heap.size w2.heap.size x40 x41 x42 x43 x44 x45 y0 y1 y2 y3 y4 y5 := ThreeB.more (ThreeB.ofS (by assumption)) hb4))
  go_wp2
  go_ret
  exact ⟨rfl, ThreeB.h (ThreeB.ofS (by assumption))⟩
end Go.Proofs.Ythcmkjiemlfpcaa
