/- QuotaWait: its walk. -/
import Derived.Test.YthcmkjiemlfpcaaQWorks
import Derived.Test.YthcmkjiemlfpcaaQPlain2
namespace Go.Proofs.Ythcmkjiemlfpcaa
open Go Go.RowKit
set_option linter.unusedVariables false

/-- The box of the bucket handed in, and another one. -/
structure TwoG (w W : World) (g : Nat) (x0 x1 x2 x3 x4 x5 y0 y1 y2 y3 y4 y5 : Int) : Prop where
  a : Bx W w.heap.size x0 x1 x2 x3 x4 x5
  b : Bx W g y0 y1 y2 y3 y4 y5
  h : Below w.heap.size w W
theorem TwoG.mk0 {w W : World} {x0 x1 x2 x3 x4 x5 : Int} (h : OneB w W x0 x1 x2 x3 x4 x5) (y0 y1 y2 y3 y4 y5 : Int) :
    TwoG w (W.alloc (.cells #[.int .i64 y0, .int .i64 y1, .int .i64 y2, .int .i64 y3, .int .i64 y4, .int .i64 y5] 23)) W.heap.size x0 x1 x2 x3 x4 x5 y0 y1 y2 y3 y4 y5 :=
  ⟨h.a.alloc _, Bx.new W y0 y1 y2 y3 y4 y5, h.h.alloc h.h.size _⟩
theorem TwoG.more {w W W' : World} {g : Nat} {x0 x1 x2 x3 x4 x5 y0 y1 y2 y3 y4 y5 : Int} (h : TwoG w W g x0 x1 x2 x3 x4 x5 y0 y1 y2 y3 y4 y5) (hb : Below W.heap.size W W') : TwoG w W' g x0 x1 x2 x3 x4 x5 y0 y1 y2 y3 y4 y5 :=
  ⟨h.a.below hb h.a.lt, h.b.below hb h.b.lt, h.h.trans (hb.mono h.h.size)⟩
theorem TwoG.drew {w W : World} {g : Nat} {x0 x1 x2 x3 x4 x5 y0 y1 y2 y3 y4 y5 : Int} (h : TwoG w W g x0 x1 x2 x3 x4 x5 y0 y1 y2 y3 y4 y5) : TwoG w W.drew g x0 x1 x2 x3 x4 x5 y0 y1 y2 y3 y4 y5 := ⟨h.a, h.b, h.h.drew⟩
theorem TwoG.s {w W : World} {g : Nat} {x0 x1 x2 x3 x4 x5 y0 y1 y2 y3 y4 y5 : Int} (h : TwoG w W g x0 x1 x2 x3 x4 x5 y0 y1 y2 y3 y4 y5) : W.cell? ⟨w.heap.size, 0, none⟩ = some (.int .i64 x0) ∧ W.cell? ⟨w.heap.size, 1, none⟩ = some (.int .i64 x1) ∧ W.cell? ⟨w.heap.size, 2, none⟩ = some (.int .i64 x2) ∧ W.cell? ⟨w.heap.size, 3, none⟩ = some (.int .i64 x3) ∧ W.cell? ⟨w.heap.size, 4, none⟩ = some (.int .i64 x4) ∧ W.cell? ⟨w.heap.size, 5, none⟩ = some (.int .i64 x5) ∧ W.cell? ⟨g, 0, none⟩ = some (.int .i64 y0) ∧ W.cell? ⟨g, 1, none⟩ = some (.int .i64 y1) ∧ W.cell? ⟨g, 2, none⟩ = some (.int .i64 y2) ∧ W.cell? ⟨g, 3, none⟩ = some (.int .i64 y3) ∧ W.cell? ⟨g, 4, none⟩ = some (.int .i64 y4) ∧ W.cell? ⟨g, 5, none⟩ = some (.int .i64 y5) ∧ TwoG w W g x0 x1 x2 x3 x4 x5 y0 y1 y2 y3 y4 y5 :=
  ⟨h.a.facts.c0, h.a.facts.c1, h.a.facts.c2, h.a.facts.c3, h.a.facts.c4, h.a.facts.c5, h.b.facts.c0, h.b.facts.c1, h.b.facts.c2, h.b.facts.c3, h.b.facts.c4, h.b.facts.c5, h⟩
theorem TwoG.ofS {w W : World} {g : Nat} {x0 x1 x2 x3 x4 x5 y0 y1 y2 y3 y4 y5 : Int} (h : W.cell? ⟨w.heap.size, 0, none⟩ = some (.int .i64 x0) ∧ W.cell? ⟨w.heap.size, 1, none⟩ = some (.int .i64 x1) ∧ W.cell? ⟨w.heap.size, 2, none⟩ = some (.int .i64 x2) ∧ W.cell? ⟨w.heap.size, 3, none⟩ = some (.int .i64 x3) ∧ W.cell? ⟨w.heap.size, 4, none⟩ = some (.int .i64 x4) ∧ W.cell? ⟨w.heap.size, 5, none⟩ = some (.int .i64 x5) ∧ W.cell? ⟨g, 0, none⟩ = some (.int .i64 y0) ∧ W.cell? ⟨g, 1, none⟩ = some (.int .i64 y1) ∧ W.cell? ⟨g, 2, none⟩ = some (.int .i64 y2) ∧ W.cell? ⟨g, 3, none⟩ = some (.int .i64 y3) ∧ W.cell? ⟨g, 4, none⟩ = some (.int .i64 y4) ∧ W.cell? ⟨g, 5, none⟩ = some (.int .i64 y5) ∧ TwoG w W g x0 x1 x2 x3 x4 x5 y0 y1 y2 y3 y4 y5) : TwoG w W g x0 x1 x2 x3 x4 x5 y0 y1 y2 y3 y4 y5 := h.2.2.2.2.2.2.2.2.2.2.2.2

set_option maxHeartbeats 1000000 in
set_option maxRecDepth 100000 in
theorem quotaWait_took (x0 x1 x2 x3 x4 x5 y0 y1 y2 y3 y4 y5 : Int) (a1 : Int) (a2 : Int) (w : World) (hok : (⟨x0, x1, x2, x3, x4, x5⟩ : Bk).Ok) (hn0 : 0 ≤ a1) (hn1 : a1 < 1125899906842624) (hn2 : x5 ≤ a1) (hy : (⟨x0, x1, x2, x3, x4, x5⟩ : Bk).fill a1 = ⟨y0, y1, y2, y3, y4, y5⟩) (h1 : 0 ≤ a2) (h2 : a2 ≤ y3) (h3 : y3 ≤ 1073741824) :
    Calls Try.prog 8 #[bkt x0 x1 x2 x3 x4 x5, .int .i64 a1, .int .i64 a2] w fun e w' => e = .returned (.bool true) ∧ Below w.heap.size w w' := by
  have P1 := Lib.hid (fun W => check_yes ⟨x0, x1, x2, x3, x4, x5⟩ W hok)
  have P2 := Lib.hid (fun W => take_is ⟨x0, x1, x2, x3, x4, x5⟩ a1 a2 W)
  have P3 := Lib.hid (fun W => fill_is ⟨x0, x1, x2, x3, x4, x5⟩ a1 W)
  rw [Bk.take_took hok h1 (by rw [hy]; exact h2), hy] at P2
  rw [hy] at P3
  clear hok hy
  unfold Bk.val bkt at P1 P2 P3
  unfold bkt
  simp only at P1 P2 P3 ⊢
  go_enter Try.func8, Try.ntmps8
  go_wp2_with fail
  refine (P1.out _).mono ?_
  rintro e w1 ⟨rfl, hb1⟩
  have K := (OneB.mk0 w x0 x1 x2 x3 x4 x5).more hb1
  obtain ⟨d0, d1, d2, d3, d4, d5, _, _, _, _, _, _⟩ := K.a.facts
  have HK := Lib.hid K
  clear K hb1
  go_wp2_with fail
  refine (P2.out _).mono ?_
  rintro e w2 ⟨rfl, hb2⟩
  have K := HK.out.more hb2
  clear hb2 HK d0 d1 d2 d3 d4 d5
  obtain ⟨d0, d1, d2, d3, d4, d5, _, _, _, _, _, _⟩ := K.a.facts
  have hz : w.heap.size < w2.heap.size := K.z
  have HK := Lib.hid K
  clear K
  go_wp2_with fail
  refine (P3.out _).mono ?_
  rintro e w3 ⟨rfl, hb3⟩
  have KB : Bx w3 w2.heap.size y0 y1 y2 (y3 - a2) y4 y5 := (Bx.new w2 y0 y1 y2 (y3 - a2) y4 y5).below hb3 (by simp)
  have KH := HK.out.h.trans ((below1 hb3 (by simp)).mono HK.out.h.size)
  clear hb3 HK d0 d1 d2 d3 d4 d5
  obtain ⟨d0, d1, d2, d3, d4, d5, _, _, _, _, _, _⟩ := KB.facts
  have hz3 : w2.heap.size < w3.heap.size := KB.lt
  have HH := Lib.hid KH
  clear KB KH
  go_wp2
  go_ret
  refine ⟨rfl, ?_⟩
  repeat (first | (with_reducible refine Below.setCell ?_ (by have := HH.out.size; simp; try omega) _) | (with_reducible refine Below.drew ?_) | (with_reducible refine Below.alloc ?_ (by have := HH.out.size; simp; try omega) _))
  with_reducible exact HH.out

set_option maxHeartbeats 1000000 in
set_option maxRecDepth 100000 in
theorem quotaWait_never (x0 x1 x2 x3 x4 x5 y0 y1 y2 y3 y4 y5 : Int) (a1 : Int) (a2 : Int) (w : World) (hok : (⟨x0, x1, x2, x3, x4, x5⟩ : Bk).Ok) (hn0 : 0 ≤ a1) (hn1 : a1 < 1125899906842624) (hn2 : x5 ≤ a1) (hy : (⟨x0, x1, x2, x3, x4, x5⟩ : Bk).fill a1 = ⟨y0, y1, y2, y3, y4, y5⟩) (h1 : a2 < 0 ∨ x2 < a2) :
    Calls Try.prog 8 #[bkt x0 x1 x2 x3 x4 x5, .int .i64 a1, .int .i64 a2] w fun e w' => e = .returned (.bool true) ∧ Below w.heap.size w w' := by
  have P1 := Lib.hid (fun W => check_yes ⟨x0, x1, x2, x3, x4, x5⟩ W hok)
  have P2 := Lib.hid (fun W => take_is ⟨x0, x1, x2, x3, x4, x5⟩ a1 a2 W)
  have P3 := Lib.hid (fun W => fill_is ⟨x0, x1, x2, x3, x4, x5⟩ a1 W)
  rw [Bk.take_never hok h1, hy] at P2
  rw [hy] at P3
  clear hok hy
  unfold Bk.val bkt at P1 P2 P3
  unfold bkt
  simp only at P1 P2 P3 ⊢
  go_enter Try.func8, Try.ntmps8
  go_wp2_with fail
  refine (P1.out _).mono ?_
  rintro e w1 ⟨rfl, hb1⟩
  have K := (OneB.mk0 w x0 x1 x2 x3 x4 x5).more hb1
  obtain ⟨d0, d1, d2, d3, d4, d5, _, _, _, _, _, _⟩ := K.a.facts
  have HK := Lib.hid K
  clear K hb1
  go_wp2_with fail
  refine (P2.out _).mono ?_
  rintro e w2 ⟨rfl, hb2⟩
  have K := HK.out.more hb2
  clear hb2 HK d0 d1 d2 d3 d4 d5
  have HK2 := Lib.hid (TwoG.mk0 K y0 y1 y2 y3 y4 y5)
  have hz : w.heap.size < w2.heap.size := K.z
  clear K
  go_wp2_with fail
  go_region_held3 (fun W => W.cell? ⟨w.heap.size, 0, none⟩ = some (.int .i64 x0) ∧ W.cell? ⟨w.heap.size, 1, none⟩ = some (.int .i64 x1) ∧ W.cell? ⟨w.heap.size, 2, none⟩ = some (.int .i64 x2) ∧ W.cell? ⟨w.heap.size, 3, none⟩ = some (.int .i64 x3) ∧ W.cell? ⟨w.heap.size, 4, none⟩ = some (.int .i64 x4) ∧ W.cell? ⟨w.heap.size, 5, none⟩ = some (.int .i64 x5) ∧ W.cell? ⟨w2.heap.size, 0, none⟩ = some (.int .i64 y0) ∧ W.cell? ⟨w2.heap.size, 1, none⟩ = some (.int .i64 y1) ∧ W.cell? ⟨w2.heap.size, 2, none⟩ = some (.int .i64 y2) ∧ W.cell? ⟨w2.heap.size, 3, none⟩ = some (.int .i64 y3) ∧ W.cell? ⟨w2.heap.size, 4, none⟩ = some (.int .i64 y4) ∧ W.cell? ⟨w2.heap.size, 5, none⟩ = some (.int .i64 y5) ∧ TwoG w W w2.heap.size x0 x1 x2 x3 x4 x5 y0 y1 y2 y3 y4 y5) (first | assumption | exact TwoG.s (by assumption) | exact TwoG.s (TwoG.drew (by assumption)) | exact TwoG.s HK2.out | exact TwoG.s HK2.out.drew) ((go_at_call 17; refine (P3.out _).mono ?_; rintro e w3 ⟨rfl, hb3⟩; have hS : TwoG w w3 w2.heap.size x0 x1 x2 x3 x4 x5 y0 y1 y2 y3 y4 y5 := TwoG.more (TwoG.ofS (by assumption)) hb3))
  clear hb3 HK2
  obtain ⟨d0, d1, d2, d3, d4, d5, _, _, _, _, _, _⟩ := hS.a.facts
  have HH := Lib.hid hS.h
  clear hS
  by_cases hlo : a2 < 0
  · go_wp2
    go_ret
    exact ⟨rfl, HH.out⟩
  · have hhi : x2 < a2 := by omega
    clear h1
    go_wp2
    go_ret
    exact ⟨rfl, HH.out⟩

set_option maxHeartbeats 1000000 in
set_option maxRecDepth 100000 in
theorem quotaWait_wait (x0 x1 x2 x3 x4 x5 y0 y1 y2 y3 y4 y5 r : Int) (a1 : Int) (a2 : Int) (w : World) (hok : (⟨x0, x1, x2, x3, x4, x5⟩ : Bk).Ok) (hn0 : 0 ≤ a1) (hn1 : a1 < 1125899906842624) (hn2 : x5 ≤ a1) (hy : (⟨x0, x1, x2, x3, x4, x5⟩ : Bk).fill a1 = ⟨y0, y1, y2, y3, y4, y5⟩) (h1 : y3 < a2) (h2 : a2 ≤ x2) (hr : r = (⟨y0, y1, y2, y3, y4, y5⟩ : Bk).wait a2) :
    Calls Try.prog 8 #[bkt x0 x1 x2 x3 x4 x5, .int .i64 a1, .int .i64 a2] w fun e w' => e = .returned (.bool true) ∧ Below w.heap.size w w' := by
  have P1 := Lib.hid (fun W => check_yes ⟨x0, x1, x2, x3, x4, x5⟩ W hok)
  have P2 := Lib.hid (fun W => take_is ⟨x0, x1, x2, x3, x4, x5⟩ a1 a2 W)
  have P3 := Lib.hid (fun W => fill_is ⟨x0, x1, x2, x3, x4, x5⟩ a1 W)
  rw [Bk.take_wait hok (by rw [hy]; exact h1) h2, hy, ← hr] at P2
  have hk := hok.fill a1
  have ht := (hok.fill_parts hn2).2
  have hs := (Bk.fill_same ⟨x0, x1, x2, x3, x4, x5⟩ a1).2.2
  rw [hy] at P3 hk ht hs
  simp only at hs
  have hu : upto a1 = a1 := by unfold upto; omega
  rw [hu] at ht
  simp only at ht
  subst ht
  have hpos : 1 ≤ r := by rw [hr]; exact hk.wait_pos h1
  have hb1 : r ≤ 2251799813685248 := by
    rw [hr]
    unfold Bk.wait
    have hb := hk.bd
    have hm := mul_bd (show 0 ≤ a2 by have := hk.l1; simp only at this; omega) (show a2 ≤ y2 by omega) (show 0 ≤ y1 by have := hk.d1; simp only at this; omega) (Int.le_refl _)
    have a3 := hb.a3
    have a5 := hb.a5
    have n1 := hk.n1
    have n2 := hk.n2
    simp only at a3 n1 n2 ⊢
    rw [ceil_le n1]
    have : 2251799813685248 * 1 ≤ 2251799813685248 * y0 := Int.mul_le_mul_of_nonneg_left n1 (by omega)
    omega
  have hthen := hk.wait_then h1 (by simp only; omega)
  rw [← hr] at hthen
  simp only at hthen
  have HT := Lib.hid hthen
  have P4 := Lib.hid (fun W => take_is ⟨y0, y1, y2, y3, y4, y5⟩ (y5 + r) a2 W)
  have P5 := Lib.hid (fun W => take_is ⟨y0, y1, y2, y3, y4, y5⟩ (y5 + r - 1) a2 W)
  clear hok hy hr hk hs hu hthen
  by_cases hfar : 1125899906842624 - y5 ≤ r
  · clear P4 P5 HT
    have hb1' : (r == 0) = false := by rw [beq_eq_false_iff_ne]; omega
    have hb2' : (r == -1) = false := by rw [beq_eq_false_iff_ne]; omega
    unfold Bk.val bkt at P1 P2 P3
    unfold bkt
    simp only at P1 P2 P3 ⊢
    go_enter Try.func8, Try.ntmps8
    go_wp2_with fail
    refine (P1.out _).mono ?_
    rintro e w1 ⟨rfl, hb1⟩
    have K := (OneB.mk0 w x0 x1 x2 x3 x4 x5).more hb1
    obtain ⟨d0, d1, d2, d3, d4, d5, _, _, _, _, _, _⟩ := K.a.facts
    have HK := Lib.hid K
    clear K hb1
    go_wp2_with fail
    refine (P2.out _).mono ?_
    rintro e w2 ⟨rfl, hb2⟩
    have K := HK.out.more hb2
    clear hb2 HK d0 d1 d2 d3 d4 d5
    have HK2 := Lib.hid (TwoG.mk0 K y0 y1 y2 y3 y4 y5)
    have hz : w.heap.size < w2.heap.size := K.z
    clear K
    go_wp2_with fail
    go_region_held3 (fun W => W.cell? ⟨w.heap.size, 0, none⟩ = some (.int .i64 x0) ∧ W.cell? ⟨w.heap.size, 1, none⟩ = some (.int .i64 x1) ∧ W.cell? ⟨w.heap.size, 2, none⟩ = some (.int .i64 x2) ∧ W.cell? ⟨w.heap.size, 3, none⟩ = some (.int .i64 x3) ∧ W.cell? ⟨w.heap.size, 4, none⟩ = some (.int .i64 x4) ∧ W.cell? ⟨w.heap.size, 5, none⟩ = some (.int .i64 x5) ∧ W.cell? ⟨w2.heap.size, 0, none⟩ = some (.int .i64 y0) ∧ W.cell? ⟨w2.heap.size, 1, none⟩ = some (.int .i64 y1) ∧ W.cell? ⟨w2.heap.size, 2, none⟩ = some (.int .i64 y2) ∧ W.cell? ⟨w2.heap.size, 3, none⟩ = some (.int .i64 y3) ∧ W.cell? ⟨w2.heap.size, 4, none⟩ = some (.int .i64 y4) ∧ W.cell? ⟨w2.heap.size, 5, none⟩ = some (.int .i64 y5) ∧ TwoG w W w2.heap.size x0 x1 x2 x3 x4 x5 y0 y1 y2 y3 y4 y5) (first | assumption | exact TwoG.s (by assumption) | exact TwoG.s (TwoG.drew (by assumption)) | exact TwoG.s HK2.out | exact TwoG.s HK2.out.drew) ((go_at_call 17; refine (P3.out _).mono ?_; rintro e w3 ⟨rfl, hb3⟩; have hS : TwoG w w3 w2.heap.size x0 x1 x2 x3 x4 x5 y0 y1 y2 y3 y4 y5 := TwoG.more (TwoG.ofS (by assumption)) hb3))
    clear hb3 HK2
    have HH := Lib.hid hS.h
    clear hS
    go_wp2
    go_ret
    exact ⟨rfl, HH.out⟩
  · have hq := HT.out (by omega)
    obtain ⟨⟨⟨z0, z1, z2, z3, z4, z5⟩, zr⟩, hz1⟩ : ∃ z, z = (⟨y0, y1, y2, y3, y4, y5⟩ : Bk).take (y5 + r) a2 := ⟨_, rfl⟩
    obtain ⟨⟨⟨v0, v1, v2, v3, v4, v5⟩, vr⟩, hv1⟩ : ∃ z, z = (⟨y0, y1, y2, y3, y4, y5⟩ : Bk).take (y5 + r - 1) a2 := ⟨_, rfl⟩
    rw [← hz1] at P4 hq
    rw [← hv1] at P5 hq
    obtain ⟨hq1, hq2⟩ := hq
    simp only at hq1 hq2
    subst hq1
    unfold Bk.val bkt at P4 P5
    simp only at P4 P5
    clear HT hz1 hv1
    have hb1' : (r == 0) = false := by rw [beq_eq_false_iff_ne]; omega
    have hb2' : (r == -1) = false := by rw [beq_eq_false_iff_ne]; omega
    unfold Bk.val bkt at P1 P2 P3
    unfold bkt
    simp only at P1 P2 P3 ⊢
    go_enter Try.func8, Try.ntmps8
    go_wp2_with fail
    refine (P1.out _).mono ?_
    rintro e w1 ⟨rfl, hb1⟩
    have K := (OneB.mk0 w x0 x1 x2 x3 x4 x5).more hb1
    obtain ⟨d0, d1, d2, d3, d4, d5, _, _, _, _, _, _⟩ := K.a.facts
    have HK := Lib.hid K
    clear K hb1
    go_wp2_with fail
    refine (P2.out _).mono ?_
    rintro e w2 ⟨rfl, hb2⟩
    have K := HK.out.more hb2
    clear hb2 HK d0 d1 d2 d3 d4 d5
    have HK2 := Lib.hid (TwoG.mk0 K y0 y1 y2 y3 y4 y5)
    have hz : w.heap.size < w2.heap.size := K.z
    clear K
    go_wp2_with fail
    go_region_held3 (fun W => W.cell? ⟨w.heap.size, 0, none⟩ = some (.int .i64 x0) ∧ W.cell? ⟨w.heap.size, 1, none⟩ = some (.int .i64 x1) ∧ W.cell? ⟨w.heap.size, 2, none⟩ = some (.int .i64 x2) ∧ W.cell? ⟨w.heap.size, 3, none⟩ = some (.int .i64 x3) ∧ W.cell? ⟨w.heap.size, 4, none⟩ = some (.int .i64 x4) ∧ W.cell? ⟨w.heap.size, 5, none⟩ = some (.int .i64 x5) ∧ W.cell? ⟨w2.heap.size, 0, none⟩ = some (.int .i64 y0) ∧ W.cell? ⟨w2.heap.size, 1, none⟩ = some (.int .i64 y1) ∧ W.cell? ⟨w2.heap.size, 2, none⟩ = some (.int .i64 y2) ∧ W.cell? ⟨w2.heap.size, 3, none⟩ = some (.int .i64 y3) ∧ W.cell? ⟨w2.heap.size, 4, none⟩ = some (.int .i64 y4) ∧ W.cell? ⟨w2.heap.size, 5, none⟩ = some (.int .i64 y5) ∧ TwoG w W w2.heap.size x0 x1 x2 x3 x4 x5 y0 y1 y2 y3 y4 y5) (first | assumption | exact TwoG.s (by assumption) | exact TwoG.s (TwoG.drew (by assumption)) | exact TwoG.s HK2.out | exact TwoG.s HK2.out.drew) ((go_at_call 17; refine (P3.out _).mono ?_; rintro e w3 ⟨rfl, hb3⟩; have hS : TwoG w w3 w2.heap.size x0 x1 x2 x3 x4 x5 y0 y1 y2 y3 y4 y5 := TwoG.more (TwoG.ofS (by assumption)) hb3))
    clear hb3 HK2
    obtain ⟨d0, d1, d2, d3, d4, d5, _, _, _, _, _, _⟩ := hS.b.facts
    have HS := Lib.hid hS
    clear hS
    go_wp2_with fail
    refine (P4.out _).mono ?_
    rintro e w4 ⟨rfl, hb4⟩
    have K := HS.out.more hb4
    clear hb4 HS d0 d1 d2 d3 d4 d5
    obtain ⟨d0, d1, d2, d3, d4, d5, _, _, _, _, _, _⟩ := K.b.facts
    have hz4 : w2.heap.size < w4.heap.size := K.b.lt
    have HS := Lib.hid K
    clear K
    go_wp2_with fail
    refine (P5.out _).mono ?_
    rintro e w5 ⟨rfl, hb5⟩
    have HH := Lib.hid (HS.out.h.trans ((below1 hb5 (by simp)).mono HS.out.h.size))
    clear hb5 HS
    go_wp2
    go_ret
    exact ⟨rfl, HH.out.alloc HH.out.size _⟩

set_option maxHeartbeats 1000000 in
set_option maxRecDepth 100000 in
theorem quotaWait_bad (x0 x1 x2 x3 x4 x5 : Int) (a1 : Int) (a2 : Int) (w : World) (hok : ¬ (⟨x0, x1, x2, x3, x4, x5⟩ : Bk).Ok) :
    Calls Try.prog 8 #[bkt x0 x1 x2 x3 x4 x5, .int .i64 a1, .int .i64 a2] w fun e w' => e = .returned (.bool true) ∧ Below w.heap.size w w' := by
  have P1 := Lib.hid (fun W => check_no ⟨x0, x1, x2, x3, x4, x5⟩ W hok)
  clear hok
  unfold Bk.val bkt at P1
  unfold bkt
  simp only at P1 ⊢
  go_enter Try.func8, Try.ntmps8
  go_wp2_with fail
  refine (P1.out _).mono ?_
  rintro e w1 ⟨rfl, hb1⟩
  have K := (OneB.mk0 w x0 x1 x2 x3 x4 x5).more hb1
  obtain ⟨d0, d1, d2, d3, d4, d5, _, _, _, _, _, _⟩ := K.a.facts
  have HH := Lib.hid K.h
  clear K hb1
  go_wp2_with (go_at_call 21; refine (works_is _).mono ?_; rintro e w2 ⟨rfl, hb2⟩)
  go_ret
  exact ⟨rfl, HH.out.trans (hb2.mono HH.out.size)⟩

set_option maxHeartbeats 1000000 in
set_option maxRecDepth 100000 in
theorem quotaWait_neg (x0 x1 x2 x3 x4 x5 : Int) (a1 : Int) (a2 : Int) (w : World) (hok : (⟨x0, x1, x2, x3, x4, x5⟩ : Bk).Ok) (h1 : a1 < 0) :
    Calls Try.prog 8 #[bkt x0 x1 x2 x3 x4 x5, .int .i64 a1, .int .i64 a2] w fun e w' => e = .returned (.bool true) ∧ Below w.heap.size w w' := by
  have P1 := Lib.hid (fun W => check_yes ⟨x0, x1, x2, x3, x4, x5⟩ W hok)
  clear hok
  unfold Bk.val bkt at P1
  unfold bkt
  simp only at P1 ⊢
  go_enter Try.func8, Try.ntmps8
  go_wp2_with fail
  refine (P1.out _).mono ?_
  rintro e w1 ⟨rfl, hb1⟩
  have K := (OneB.mk0 w x0 x1 x2 x3 x4 x5).more hb1
  obtain ⟨d0, d1, d2, d3, d4, d5, _, _, _, _, _, _⟩ := K.a.facts
  have HH := Lib.hid K.h
  clear K hb1
  go_wp2_with (go_at_call 21; refine (works_is _).mono ?_; rintro e w2 ⟨rfl, hb2⟩)
  go_ret
  exact ⟨rfl, HH.out.trans (hb2.mono HH.out.size)⟩

set_option maxHeartbeats 1000000 in
set_option maxRecDepth 100000 in
theorem quotaWait_late (x0 x1 x2 x3 x4 x5 : Int) (a1 : Int) (a2 : Int) (w : World) (hok : (⟨x0, x1, x2, x3, x4, x5⟩ : Bk).Ok) (h0 : 0 ≤ a1) (h1 : 1125899906842624 ≤ a1) :
    Calls Try.prog 8 #[bkt x0 x1 x2 x3 x4 x5, .int .i64 a1, .int .i64 a2] w fun e w' => e = .returned (.bool true) ∧ Below w.heap.size w w' := by
  have P1 := Lib.hid (fun W => check_yes ⟨x0, x1, x2, x3, x4, x5⟩ W hok)
  clear hok
  unfold Bk.val bkt at P1
  unfold bkt
  simp only at P1 ⊢
  go_enter Try.func8, Try.ntmps8
  go_wp2_with fail
  refine (P1.out _).mono ?_
  rintro e w1 ⟨rfl, hb1⟩
  have K := (OneB.mk0 w x0 x1 x2 x3 x4 x5).more hb1
  obtain ⟨d0, d1, d2, d3, d4, d5, _, _, _, _, _, _⟩ := K.a.facts
  have HH := Lib.hid K.h
  clear K hb1
  go_wp2_with (go_at_call 21; refine (works_is _).mono ?_; rintro e w2 ⟨rfl, hb2⟩)
  go_ret
  exact ⟨rfl, HH.out.trans (hb2.mono HH.out.size)⟩

set_option maxHeartbeats 1000000 in
set_option maxRecDepth 100000 in
theorem quotaWait_old (x0 x1 x2 x3 x4 x5 : Int) (a1 : Int) (a2 : Int) (w : World) (hok : (⟨x0, x1, x2, x3, x4, x5⟩ : Bk).Ok) (h0 : 0 ≤ a1) (h1 : a1 < 1125899906842624) (h2 : a1 < x5) :
    Calls Try.prog 8 #[bkt x0 x1 x2 x3 x4 x5, .int .i64 a1, .int .i64 a2] w fun e w' => e = .returned (.bool true) ∧ Below w.heap.size w w' := by
  have P1 := Lib.hid (fun W => check_yes ⟨x0, x1, x2, x3, x4, x5⟩ W hok)
  clear hok
  unfold Bk.val bkt at P1
  unfold bkt
  simp only at P1 ⊢
  go_enter Try.func8, Try.ntmps8
  go_wp2_with fail
  refine (P1.out _).mono ?_
  rintro e w1 ⟨rfl, hb1⟩
  have K := (OneB.mk0 w x0 x1 x2 x3 x4 x5).more hb1
  obtain ⟨d0, d1, d2, d3, d4, d5, _, _, _, _, _, _⟩ := K.a.facts
  have HH := Lib.hid K.h
  clear K hb1
  go_wp2_with (go_at_call 21; refine (works_is _).mono ?_; rintro e w2 ⟨rfl, hb2⟩)
  go_ret
  exact ⟨rfl, HH.out.trans (hb2.mono HH.out.size)⟩


theorem quotaWait_walk (x00 x01 x02 x03 x04 x05 : Int) (a1 : Int) (a2 : Int) (w : World) (e00 : r64 x00) (e01 : r64 x01) (e02 : r64 x02) (e03 : r64 x03) (e04 : r64 x04) (e05 : r64 x05) (w1 : -9223372036854775808 ≤ a1 ∧ a1 ≤ 9223372036854775807) (w2 : -9223372036854775808 ≤ a2 ∧ a2 ≤ 9223372036854775807) :
    Calls Try.prog 8 #[bkt x00 x01 x02 x03 x04 x05, .int .i64 a1, .int .i64 a2] w fun e w' => e = .returned (.bool true) ∧ Below w.heap.size w w' := by
  by_cases hok : (⟨x00, x01, x02, x03, x04, x05⟩ : Bk).Ok
  · by_cases h0 : a1 < 0
    · exact quotaWait_neg _ _ _ _ _ _ a1 a2 w hok h0
    by_cases h1 : 1125899906842624 ≤ a1
    · exact quotaWait_late _ _ _ _ _ _ a1 a2 w hok (by omega) h1
    by_cases h2 : a1 < x05
    · exact quotaWait_old _ _ _ _ _ _ a1 a2 w hok (by omega) (by omega) h2
    obtain ⟨y0, y1, y2, y3, y4, y5, hy⟩ : ∃ y0 y1 y2 y3 y4 y5 : Int, (⟨x00, x01, x02, x03, x04, x05⟩ : Bk).fill a1 = ⟨y0, y1, y2, y3, y4, y5⟩ := ⟨_, _, _, _, _, _, rfl⟩
    have hk := hok.fill a1
    rw [hy] at hk
    have u2 := hk.u2
    have l2 := hk.l2
    have hs := (Bk.fill_same ⟨x00, x01, x02, x03, x04, x05⟩ a1).2.2
    rw [hy] at hs
    simp only at u2 l2 hs
    by_cases h3 : a2 < 0 ∨ x02 < a2
    · exact quotaWait_never _ _ _ _ _ _ y0 y1 y2 y3 y4 y5 a1 a2 w hok (by omega) (by omega) (by omega) hy h3
    by_cases h4 : y3 < a2
    · exact quotaWait_wait _ _ _ _ _ _ y0 y1 y2 y3 y4 y5 _ a1 a2 w hok (by omega) (by omega) (by omega) hy h4 (by omega) rfl
    · exact quotaWait_took _ _ _ _ _ _ y0 y1 y2 y3 y4 y5 a1 a2 w hok (by omega) (by omega) (by omega) hy (by omega) (by omega) (by omega)
  · exact quotaWait_bad _ _ _ _ _ _ a1 a2 w hok
end Go.Proofs.Ythcmkjiemlfpcaa
