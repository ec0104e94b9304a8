/- The reference's Fill: whole. -/
import Derived.Test.YthcmkjiemlfpcaaQRFill
import Derived.Deep.RegionHeld3
namespace Go.Proofs.Ythcmkjiemlfpcaa
open Go Go.RowKit
set_option linter.unusedVariables false

/-- Two boxes of the call's own, as facts. -/
structure TwoB (w W : World) (n d u l p t : Int) : Prop where
  a : Bx W w.heap.size n d u l p t
  b : Bx W (w.heap.size + 1) 0 0 0 0 0 0
  z : w.heap.size + 1 + 1 ≤ W.heap.size
  h : Below w.heap.size w W

theorem TwoB.mk0 {w w1 : World} {n d u l p t : Int} {B : Nat}
    (hb : Below B ((w.alloc (.cells #[.int .i64 n, .int .i64 d, .int .i64 u, .int .i64 l, .int .i64 p, .int .i64 t] 23)).alloc (.cells #[.int .i64 0, .int .i64 0, .int .i64 0, .int .i64 0, .int .i64 0, .int .i64 0] 23)) w1)
    (hB : w.heap.size + 1 < B) : TwoB w w1 n d u l p t :=
  ⟨(bx_two hb hB).1, (bx_two hb hB).2, by have := hb.size; simpa using this, below2 hb (by omega)⟩
theorem TwoB.more {w W W' : World} {n d u l p t : Int} (h : TwoB w W n d u l p t) (hb : Below W.heap.size W W') : TwoB w W' n d u l p t :=
  ⟨h.a.below hb h.a.lt, h.b.below hb h.b.lt, Nat.le_trans h.z hb.size, h.h.trans (hb.mono h.h.size)⟩
theorem TwoB.s {w W : World} {n d u l p t : Int} (h : TwoB w W n d u l p t) : W.cell? ⟨w.heap.size, 0, none⟩ = some (.int .i64 n) ∧ W.cell? ⟨w.heap.size, 1, none⟩ = some (.int .i64 d) ∧ W.cell? ⟨w.heap.size, 2, none⟩ = some (.int .i64 u) ∧ W.cell? ⟨w.heap.size, 3, none⟩ = some (.int .i64 l) ∧ W.cell? ⟨w.heap.size, 4, none⟩ = some (.int .i64 p) ∧ W.cell? ⟨w.heap.size, 5, none⟩ = some (.int .i64 t) ∧ TwoB w W n d u l p t :=
  ⟨h.a.facts.c0, h.a.facts.c1, h.a.facts.c2, h.a.facts.c3, h.a.facts.c4, h.a.facts.c5, h⟩
theorem TwoB.ofS {w W : World} {n d u l p t : Int} (h : W.cell? ⟨w.heap.size, 0, none⟩ = some (.int .i64 n) ∧ W.cell? ⟨w.heap.size, 1, none⟩ = some (.int .i64 d) ∧ W.cell? ⟨w.heap.size, 2, none⟩ = some (.int .i64 u) ∧ W.cell? ⟨w.heap.size, 3, none⟩ = some (.int .i64 l) ∧ W.cell? ⟨w.heap.size, 4, none⟩ = some (.int .i64 p) ∧ W.cell? ⟨w.heap.size, 5, none⟩ = some (.int .i64 t) ∧ TwoB w W n d u l p t) : TwoB w W n d u l p t := h.2.2.2.2.2.2
theorem TwoB.drew {w W : World} {n d u l p t : Int} (h : TwoB w W n d u l p t) : TwoB w W.drew n d u l p t := ⟨h.a, h.b, h.z, h.h.drew⟩


set_option maxHeartbeats 1000000 in
set_option maxRecDepth 100000 in
theorem rfill_full (n d u l p t now m : Int) (w : World) (hok : (⟨n, d, u, l, p, t⟩ : Bk).Ok) (ht : t < now) (hm : min now 1125899906842623 = m) (hf :  u * d - (l * d + p) ≤ (m - t) * n) :
    Calls Try.prog 18 #[bkt n d u l p t, .int .i64 now] w fun e w' => e = .returned (bkt n d u u 0 m) ∧ Below w.heap.size w w' := by
  have P1 := Lib.hid (fun W => rcheck_yes ⟨n, d, u, l, p, t⟩ W hok)
  have P2 := Lib.hid (fun W => rroom_is ⟨n, d, u, l, p, t⟩ W hok.bd hok.p1 (by have := hok.p2; have := hok.d2; simp only at *; omega))
  have P3 := Lib.hid (fun W => rparts_is ⟨n, d, u, l, p, t⟩ W hok.bd hok.p1 (by have := hok.p2; have := hok.d2; simp only at *; omega))
  have hb := hok.bd
  obtain ⟨n1, n2, d1, d2, u1, u2, l1, l2, p1, p2, z, t1, t2⟩ := hok
  obtain ⟨a1, a2, a3, a4, a5, a6⟩ := hb
  unfold Bk.parts at a4 a5
  unfold Bk.val bkt Bk.room Bk.parts at P2
  unfold Bk.val bkt at P1 P3
  unfold Bk.parts at P3
  simp only at *
  have m1 : t ≤ m := by omega
  have m2 : m ≤ 1125899906842623 := by omega
  clear z
  unfold bkt
  have hq : (u * d - (l * d + p)) / n < m - t ∨ ¬ (u * d - (l * d + p)) / n < m - t := Classical.em _
  have hq0 : 0 ≤ (u * d - (l * d + p)) / n := Int.ediv_nonneg (by omega) (by omega)
  have hm0 : ¬ (u * d - (l * d + p)) / n < m - t → (m - t) * n ≤ u * d - (l * d + p) := fun h => by
    have := (Int.le_ediv_iff_mul_le (c := n) (a := m - t) (b := u * d - (l * d + p)) (by omega)).1 (by omega)
    omega
  rcases (show m = now ∧ now ≤ 1125899906842623 ∨ m = 1125899906842623 ∧ 1125899906842623 < now by omega) with ⟨e, hnow⟩ | ⟨e, hnow⟩
  · subst e
    clear hm
    rcases hq with hq | hq
    rotate_left
    have hm1 := hm0 hq
    all_goals
      clear hm0
      go_enter Try.func18, Try.ntmps18
      go_wp2_with (first
        | (go_at_call 16; refine (P1.out _).mono ?_; rintro e w1 ⟨rfl, hb1⟩; have K1 := TwoB.mk0 hb1 (by simp); obtain ⟨c0, c1, c2, c3, c4, c5, f0, f1, f2, f3, f4, f5⟩ := K1.a.facts; obtain ⟨e0, e1, e2, e3, e4, e5, g0, g1, g2, g3, g4, g5⟩ := K1.b.facts; have hsz := K1.z; have HK1 := Lib.hid K1; clear K1 hb1)
        | (go_at_call 33; refine (P2.out _).mono ?_; rintro e w2 ⟨rfl, hb2⟩; have K2 := HK1.out.more hb2; clear c0 c1 c2 c3 c4 c5 f0 f1 f2 f3 f4 f5 e0 e1 e2 e3 e4 e5 g0 g1 g2 g3 g4 g5 hsz; obtain ⟨c0, c1, c2, c3, c4, c5, f0, f1, f2, f3, f4, f5⟩ := K2.a.facts; obtain ⟨e0, e1, e2, e3, e4, e5, g0, g1, g2, g3, g4, g5⟩ := K2.b.facts; have hsz := K2.z; have HK2 := Lib.hid K2; clear K2 hb2 HK1))
      refine bodyPost_ret (v := .agg #[.int .i64 n, .int .i64 d, .int .i64 u, .int .i64 u, .int .i64 0, .int .i64 m]) (by simp [results, Try.results18, go_sem, *]) rfl ⟨rfl, ?_⟩
      repeat (first | (with_reducible refine Below.setCell ?_ (by simp) _) | (with_reducible refine Below.drew ?_))
      exact HK2.out.h
  · subst e
    clear hm
    rcases hq with hq | hq
    rotate_left
    have hm1 := hm0 hq
    all_goals
      clear hm0
      go_enter Try.func18, Try.ntmps18
      go_wp2_with (first
        | (go_at_call 16; refine (P1.out _).mono ?_; rintro e w1 ⟨rfl, hb1⟩; have K1 := TwoB.mk0 hb1 (by simp); obtain ⟨c0, c1, c2, c3, c4, c5, f0, f1, f2, f3, f4, f5⟩ := K1.a.facts; obtain ⟨e0, e1, e2, e3, e4, e5, g0, g1, g2, g3, g4, g5⟩ := K1.b.facts; have hsz := K1.z; have HK1 := Lib.hid K1; clear K1 hb1)
        | (go_at_call 33; refine (P2.out _).mono ?_; rintro e w2 ⟨rfl, hb2⟩; have K2 := HK1.out.more hb2; clear c0 c1 c2 c3 c4 c5 f0 f1 f2 f3 f4 f5 e0 e1 e2 e3 e4 e5 g0 g1 g2 g3 g4 g5 hsz; obtain ⟨c0, c1, c2, c3, c4, c5, f0, f1, f2, f3, f4, f5⟩ := K2.a.facts; obtain ⟨e0, e1, e2, e3, e4, e5, g0, g1, g2, g3, g4, g5⟩ := K2.b.facts; have hsz := K2.z; have HK2 := Lib.hid K2; clear K2 hb2 HK1))
      refine bodyPost_ret (v := .agg #[.int .i64 n, .int .i64 d, .int .i64 u, .int .i64 u, .int .i64 0, .int .i64 1125899906842623]) (by simp [results, Try.results18, go_sem, *]) rfl ⟨rfl, ?_⟩
      repeat (first | (with_reducible refine Below.setCell ?_ (by simp) _) | (with_reducible refine Below.drew ?_))
      exact HK2.out.h

set_option maxHeartbeats 1000000 in
set_option maxRecDepth 100000 in
theorem rfill_part (n d u l p t now m : Int) (w : World) (hok : (⟨n, d, u, l, p, t⟩ : Bk).Ok) (ht : t < now) (hm : min now 1125899906842623 = m) (hf : ¬ u * d - (l * d + p) ≤ (m - t) * n) :
    Calls Try.prog 18 #[bkt n d u l p t, .int .i64 now] w fun e w' => e = .returned (bkt n d u ((l * d + p + (m - t) * n) / d) ((l * d + p + (m - t) * n) % d) m) ∧ Below w.heap.size w w' := by
  have P1 := Lib.hid (fun W => rcheck_yes ⟨n, d, u, l, p, t⟩ W hok)
  have P2 := Lib.hid (fun W => rroom_is ⟨n, d, u, l, p, t⟩ W hok.bd hok.p1 (by have := hok.p2; have := hok.d2; simp only at *; omega))
  have P3 := Lib.hid (fun W => rparts_is ⟨n, d, u, l, p, t⟩ W hok.bd hok.p1 (by have := hok.p2; have := hok.d2; simp only at *; omega))
  have hb := hok.bd
  obtain ⟨n1, n2, d1, d2, u1, u2, l1, l2, p1, p2, z, t1, t2⟩ := hok
  obtain ⟨a1, a2, a3, a4, a5, a6⟩ := hb
  unfold Bk.parts at a4 a5
  unfold Bk.val bkt Bk.room Bk.parts at P2
  unfold Bk.val bkt at P1 P3
  unfold Bk.parts at P3
  simp only at *
  have m1 : t ≤ m := by omega
  have m2 : m ≤ 1125899906842623 := by omega
  clear z
  unfold bkt
  have hq : ¬ (u * d - (l * d + p)) / n < m - t := fun h => hf (div_lt n1 h)
  have hm0 : 0 ≤ (m - t) * n := Int.mul_nonneg (by omega) (by omega)
  rcases (show m = now ∧ now ≤ 1125899906842623 ∨ m = 1125899906842623 ∧ 1125899906842623 < now by omega) with ⟨e, hnow⟩ | ⟨e, hnow⟩
  · subst e
    clear hm
    go_enter Try.func18, Try.ntmps18
    go_wp2_with (first
      | (go_at_call 16; refine (P1.out _).mono ?_; rintro e w1 ⟨rfl, hb1⟩; have K1 := TwoB.mk0 hb1 (by simp); obtain ⟨c0, c1, c2, c3, c4, c5, f0, f1, f2, f3, f4, f5⟩ := K1.a.facts; obtain ⟨e0, e1, e2, e3, e4, e5, g0, g1, g2, g3, g4, g5⟩ := K1.b.facts; have hsz := K1.z; have HK1 := Lib.hid K1; clear K1 hb1)
      | (go_at_call 33; refine (P2.out _).mono ?_; rintro e w2 ⟨rfl, hb2⟩; have K2 := HK1.out.more hb2; clear c0 c1 c2 c3 c4 c5 f0 f1 f2 f3 f4 f5 e0 e1 e2 e3 e4 e5 g0 g1 g2 g3 g4 g5 hsz; obtain ⟨c0, c1, c2, c3, c4, c5, f0, f1, f2, f3, f4, f5⟩ := K2.a.facts; obtain ⟨e0, e1, e2, e3, e4, e5, g0, g1, g2, g3, g4, g5⟩ := K2.b.facts; have hsz := K2.z; have HK2 := Lib.hid K2; clear K2 hb2 HK1))
    have E1 : IntKind.i64.wrap ((m - t) * n) = (m - t) * n := IntWalk.i64_in _ (by omega)
    have E2 : IntKind.i64.wrap (l * d + p + (m - t) * n) = l * d + p + (m - t) * n := IntWalk.i64_in _ (by omega)
    have HB := HK2.out.h
    have HC := Lib.hid fun (W : World) (h : TwoB w W n d u l p t) => h
    go_region_held3 (fun W => W.cell? ⟨w.heap.size, 0, none⟩ = some (.int .i64 n) ∧ W.cell? ⟨w.heap.size, 1, none⟩ = some (.int .i64 d) ∧ W.cell? ⟨w.heap.size, 2, none⟩ = some (.int .i64 u) ∧ W.cell? ⟨w.heap.size, 3, none⟩ = some (.int .i64 l) ∧ W.cell? ⟨w.heap.size, 4, none⟩ = some (.int .i64 p) ∧ W.cell? ⟨w.heap.size, 5, none⟩ = some (.int .i64 t) ∧ TwoB w W n d u l p t) (first | assumption | exact TwoB.s (by assumption) | exact TwoB.s (TwoB.drew (by assumption)) | exact TwoB.s HK2.out | exact TwoB.s HK2.out.drew) ((go_at_call 34; refine (P3.out _).mono ?_; rintro e w3 ⟨rfl, hb3⟩; have hS : TwoB w w3 n d u l p t := TwoB.more (TwoB.ofS (by assumption)) hb3))
    clear c0 c1 c2 c3 c4 c5 f0 f1 f2 f3 f4 f5 e0 e1 e2 e3 e4 e5 g0 g1 g2 g3 g4 g5 hsz HB HC hb3 E1 E2 HK2
    obtain ⟨c0, c1, c2, c3, c4, c5, f0, f1, f2, f3, f4, f5⟩ := hS.a.facts
    obtain ⟨e0, e1, e2, e3, e4, e5, g0, g1, g2, g3, g4, g5⟩ := hS.b.facts
    have hsz := hS.z
    have HK3 := Lib.hid hS
    clear hS
    go_wp2
    refine bodyPost_ret (v := .agg #[.int .i64 n, .int .i64 d, .int .i64 u, .int .i64 ((l * d + p + (m - t) * n) / d), .int .i64 ((l * d + p + (m - t) * n) % d), .int .i64 m]) (by simp [results, Try.results18, go_sem, e0, e1, e2, e3, e4, e5]) rfl ⟨rfl, ?_⟩
    repeat (first | (with_reducible refine Below.setCell ?_ (by simp) _) | (with_reducible refine Below.drew ?_))
    exact HK3.out.h
  · subst e
    clear hm
    go_enter Try.func18, Try.ntmps18
    go_wp2_with (first
      | (go_at_call 16; refine (P1.out _).mono ?_; rintro e w1 ⟨rfl, hb1⟩; have K1 := TwoB.mk0 hb1 (by simp); obtain ⟨c0, c1, c2, c3, c4, c5, f0, f1, f2, f3, f4, f5⟩ := K1.a.facts; obtain ⟨e0, e1, e2, e3, e4, e5, g0, g1, g2, g3, g4, g5⟩ := K1.b.facts; have hsz := K1.z; have HK1 := Lib.hid K1; clear K1 hb1)
      | (go_at_call 33; refine (P2.out _).mono ?_; rintro e w2 ⟨rfl, hb2⟩; have K2 := HK1.out.more hb2; clear c0 c1 c2 c3 c4 c5 f0 f1 f2 f3 f4 f5 e0 e1 e2 e3 e4 e5 g0 g1 g2 g3 g4 g5 hsz; obtain ⟨c0, c1, c2, c3, c4, c5, f0, f1, f2, f3, f4, f5⟩ := K2.a.facts; obtain ⟨e0, e1, e2, e3, e4, e5, g0, g1, g2, g3, g4, g5⟩ := K2.b.facts; have hsz := K2.z; have HK2 := Lib.hid K2; clear K2 hb2 HK1))
    have E1 : IntKind.i64.wrap ((1125899906842623 - t) * n) = (1125899906842623 - t) * n := IntWalk.i64_in _ (by omega)
    have E2 : IntKind.i64.wrap (l * d + p + (1125899906842623 - t) * n) = l * d + p + (1125899906842623 - t) * n := IntWalk.i64_in _ (by omega)
    have HB := HK2.out.h
    have HC := Lib.hid fun (W : World) (h : TwoB w W n d u l p t) => h
    go_region_held3 (fun W => W.cell? ⟨w.heap.size, 0, none⟩ = some (.int .i64 n) ∧ W.cell? ⟨w.heap.size, 1, none⟩ = some (.int .i64 d) ∧ W.cell? ⟨w.heap.size, 2, none⟩ = some (.int .i64 u) ∧ W.cell? ⟨w.heap.size, 3, none⟩ = some (.int .i64 l) ∧ W.cell? ⟨w.heap.size, 4, none⟩ = some (.int .i64 p) ∧ W.cell? ⟨w.heap.size, 5, none⟩ = some (.int .i64 t) ∧ TwoB w W n d u l p t) (first | assumption | exact TwoB.s (by assumption) | exact TwoB.s (TwoB.drew (by assumption)) | exact TwoB.s HK2.out | exact TwoB.s HK2.out.drew) ((go_at_call 34; refine (P3.out _).mono ?_; rintro e w3 ⟨rfl, hb3⟩; have hS : TwoB w w3 n d u l p t := TwoB.more (TwoB.ofS (by assumption)) hb3))
    clear c0 c1 c2 c3 c4 c5 f0 f1 f2 f3 f4 f5 e0 e1 e2 e3 e4 e5 g0 g1 g2 g3 g4 g5 hsz HB HC hb3 E1 E2 HK2
    obtain ⟨c0, c1, c2, c3, c4, c5, f0, f1, f2, f3, f4, f5⟩ := hS.a.facts
    obtain ⟨e0, e1, e2, e3, e4, e5, g0, g1, g2, g3, g4, g5⟩ := hS.b.facts
    have hsz := hS.z
    have HK3 := Lib.hid hS
    clear hS
    go_wp2
    refine bodyPost_ret (v := .agg #[.int .i64 n, .int .i64 d, .int .i64 u, .int .i64 ((l * d + p + (1125899906842623 - t) * n) / d), .int .i64 ((l * d + p + (1125899906842623 - t) * n) % d), .int .i64 1125899906842623]) (by simp [results, Try.results18, go_sem, e0, e1, e2, e3, e4, e5]) rfl ⟨rfl, ?_⟩
    repeat (first | (with_reducible refine Below.setCell ?_ (by simp) _) | (with_reducible refine Below.drew ?_))
    exact HK3.out.h
end Go.Proofs.Ythcmkjiemlfpcaa
