/- The walk of RecordEncodes. -/
import Derived.Test.YtjipebedibjoiaaRecEnc
import Derived.Test.YtjipebedibjoiaaRecMark
import Derived.Deep.RegionHeld3
namespace Go.Proofs.Ytjipebedibjoiaa
open Go Go.RowKit
set_option linter.unusedVariables false
set_option linter.unusedSimpArgs false

/-- What is known while the law's last line is worked out. -/
structure EncS (w W : World) (x : Rc) (A1 A4 : Option Addr) (X : List Nat) : Prop where
  below : Below w.heap.size w W
  lt : w.heap.size < W.heap.size
  bx : RBox W w.heap.size x
  r1 : Rd W A1 (b8 X)
  r4 : Rd W A4 (b8 X)
theorem EncS.more {w W W' : World} {x : Rc} {A1 A4 : Option Addr} {X : List Nat} (h : EncS w W x A1 A4 X) (hb : Below W.heap.size W W') : EncS w W' x A1 A4 X :=
  ⟨h.below.trans (hb.mono h.below.size), Nat.lt_of_lt_of_le h.lt hb.size, h.bx.below hb h.lt, h.r1.below hb, h.r4.below hb⟩
theorem EncS.drew {w W : World} {x : Rc} {A1 A4 : Option Addr} {X : List Nat} (h : EncS w W x A1 A4 X) : EncS w W.drew x A1 A4 X := h.more (below_drewN (Below.refl _ _) 1)
def EncC (w W : World) (x : Rc) (A1 A4 : Option Addr) (X : List Nat) : Prop := EncS w W x A1 A4 X
theorem EncS.s {w W : World} {k o t p s : Int} {key val : ByteArray} {A1 A4 : Option Addr} {X : List Nat} (h : EncS w W ⟨k, o, t, p, s, key, val⟩ A1 A4 X) : W.cell? ⟨w.heap.size, 0, none⟩ = some (.int .i64 k) ∧ W.cell? ⟨w.heap.size, 1, none⟩ = some (.int .i64 o) ∧ W.cell? ⟨w.heap.size, 2, none⟩ = some (.int .i64 t) ∧ W.cell? ⟨w.heap.size, 3, none⟩ = some (.int .i64 p) ∧ W.cell? ⟨w.heap.size, 4, none⟩ = some (.int .i64 s) ∧ W.cell? ⟨w.heap.size, 5, none⟩ = some (.string key) ∧ W.cell? ⟨w.heap.size, 6, none⟩ = some (.string val) ∧ EncC w W ⟨k, o, t, p, s, key, val⟩ A1 A4 X := by
  obtain ⟨x0, x1, x2, x3, x4, x5, x6⟩ := h.bx.facts
  exact ⟨x0, x1, x2, x3, x4, x5, x6, h⟩
theorem EncS.ofS {w W : World} {k o t p s : Int} {key val : ByteArray} {A1 A4 : Option Addr} {X : List Nat} (h : W.cell? ⟨w.heap.size, 0, none⟩ = some (.int .i64 k) ∧ W.cell? ⟨w.heap.size, 1, none⟩ = some (.int .i64 o) ∧ W.cell? ⟨w.heap.size, 2, none⟩ = some (.int .i64 t) ∧ W.cell? ⟨w.heap.size, 3, none⟩ = some (.int .i64 p) ∧ W.cell? ⟨w.heap.size, 4, none⟩ = some (.int .i64 s) ∧ W.cell? ⟨w.heap.size, 5, none⟩ = some (.string key) ∧ W.cell? ⟨w.heap.size, 6, none⟩ = some (.string val) ∧ EncC w W ⟨k, o, t, p, s, key, val⟩ A1 A4 X) : EncS w W ⟨k, o, t, p, s, key, val⟩ A1 A4 X := h.2.2.2.2.2.2.2
theorem renc_len (x : Rc) : (renc x).1.length ≤ 1124 := by
  unfold renc
  split
  · rename_i h
    have := bdy_len (chk_may h)
    simp only
    rw [wrap_length]
    omega
  · simp

set_option maxHeartbeats 4000000 in
set_option maxRecDepth 100000 in
theorem recordEncodes_walk (x : Rc) (w : World) :
    Calls Try.prog 4 #[x.v] w fun e w' => e = .returned (.bool true) ∧ Below w.heap.size w w' := by
  have PE := Lib.hid (fun W => recencode_is x W)
  have PR := Lib.hid (fun W => rcencode4_is x W)
  have PS := Lib.hid (fun W => recsize_is x W)
  have PC := Lib.hid (fun W => check_is x W)
  have PD := Lib.hid (fun W => rcheck_is x W)
  have hl := renc_len x
  obtain ⟨q, hq⟩ : ∃ q, q = renc x := ⟨_, rfl⟩
  unfold rsize at PS
  rw [← hq] at PE PR PS hl
  obtain ⟨z, hz⟩ : ∃ z : Int, z = ((chk x : Nat) : Int) := ⟨_, rfl⟩
  rw [← hz] at PC PD
  clear hq hz
  obtain ⟨k, o, t, p, s, key, val⟩ := x
  obtain ⟨X, y⟩ := q
  unfold Rc.v at PE PR PS PC PD ⊢
  simp only at PE PR PS PC PD hl ⊢
  obtain ⟨n, hn⟩ : ∃ n, X.length = n := ⟨_, rfl⟩
  have T0 := Lib.hid ((Below.refl w.heap.size w).alloc (Nat.le_refl _) (rcObj ⟨k, o, t, p, s, key, val⟩))
  have BX0 := Lib.hid (RBox.new w ⟨k, o, t, p, s, key, val⟩)
  have bz : (z == z) = true := by simp
  have by_ : (y == y) = true := by simp
  have bn : ((n : Int) == (n : Int)) = true := by simp
  have bm : ((n : Int) + 64 == IntKind.i64.wrap ((n : Int) + 64)) = true := by rw [IntKind.wrap_i64, beq_iff_eq]; omega
  obtain ⟨x0, x1, x2, x3, x4, x5, x6⟩ := BX0.out.facts
  simp only at x0 x1 x2 x3 x4 x5 x6
  go_enter Try.func4, Try.ntmps4
  go_wp2_with fail
  refine (PE.out _).mono ?_
  rintro e w1 ⟨A1, c1, rfl, ho1, hb1⟩
  simp only at ho1 ⊢
  rw [hn] at ho1 ⊢
  have HO1 := Lib.hid ho1
  have BX1 := Lib.hid (BX0.out.below hb1 (by simp))
  have T1 := Lib.hid (T0.out.trans (hb1.mono (by simp)))
  have hs1 : w.heap.size + 1 ≤ w1.heap.size := by have := hb1.size; simpa using this
  clear ho1 hb1 x0 x1 x2 x3 x4 x5 x6
  obtain ⟨x0, x1, x2, x3, x4, x5, x6⟩ := BX1.out.facts
  simp only at x0 x1 x2 x3 x4 x5 x6
  go_wp2_with fail
  refine (PE.out _).mono ?_
  rintro e w2 ⟨A2, c2, rfl, ho2, hb2⟩
  simp only at ho2 ⊢
  rw [hn] at ho2 ⊢
  have HO2 := Lib.hid ho2
  have BX2 := Lib.hid (BX1.out.below hb2 (by omega))
  have HB2 := Lib.hid hb2
  have hs2 := hb2.size
  clear ho2 hb2 x0 x1 x2 x3 x4 x5 x6
  obtain ⟨x0, x1, x2, x3, x4, x5, x6⟩ := BX2.out.facts
  simp only at x0 x1 x2 x3 x4 x5 x6
  go_wp2_with fail
  refine (marked4_own w1.heap.size n _ X 3 w2 HO2.out (by omega) HB2.out.size).mono ?_
  rintro e w3 ⟨rfl, hb3⟩
  have BX3 := Lib.hid (BX2.out.below hb3 (by omega))
  have HB3 := Lib.hid (HB2.out.trans hb3)
  have hs3 := hb3.size
  clear hb3 x0 x1 x2 x3 x4 x5 x6
  obtain ⟨x0, x1, x2, x3, x4, x5, x6⟩ := BX3.out.facts
  simp only at x0 x1 x2 x3 x4 x5 x6
  go_wp2_with fail
  refine (PR.out _).mono ?_
  rintro e w4 ⟨A4, c4, rfl, ho4, hb4⟩
  simp only at ho4 ⊢
  rw [hn] at ho4 ⊢
  have ES : Hid (EncS w w4 ⟨k, o, t, p, s, key, val⟩ A1 A4 X) := Lib.hid ⟨T1.out.trans ((HB3.out.mono T1.out.size).trans (hb4.mono (by omega))), by have := hb4.size; omega, BX3.out.below hb4 (by omega), (rd_own (own_below HO1.out HB3.out)).below hb4, rd_own ho4⟩
  clear ho4 hb4 x0 x1 x2 x3 x4 x5 x6 HO1 HO2 HB2 HB3 BX0 BX1 BX2 BX3 T0 T1
  go_wp2_with fail
  go_region_held3 (fun W => W.cell? ⟨w.heap.size, 0, none⟩ = some (.int .i64 k) ∧ W.cell? ⟨w.heap.size, 1, none⟩ = some (.int .i64 o) ∧ W.cell? ⟨w.heap.size, 2, none⟩ = some (.int .i64 t) ∧ W.cell? ⟨w.heap.size, 3, none⟩ = some (.int .i64 p) ∧ W.cell? ⟨w.heap.size, 4, none⟩ = some (.int .i64 s) ∧ W.cell? ⟨w.heap.size, 5, none⟩ = some (.string key) ∧ W.cell? ⟨w.heap.size, 6, none⟩ = some (.string val) ∧ EncC w W ⟨k, o, t, p, s, key, val⟩ A1 A4 X)
    (first | assumption | exact EncS.s (by assumption) | exact EncS.s (EncS.drew (by assumption)) | exact EncS.s ES.out | exact EncS.s ES.out.drew)
    (first
      | (go_at_call 25; refine (PC.out _).mono ?_; rintro e w5 ⟨rfl, hb5⟩; have hS : EncS w w5 ⟨k, o, t, p, s, key, val⟩ A1 A4 X := EncS.more (EncS.ofS (by assumption)) hb5)
      | (go_at_call 26; refine (PD.out _).mono ?_; rintro e w6 ⟨rfl, hb6⟩; have hS' : EncS w w6 ⟨k, o, t, p, s, key, val⟩ A1 A4 X := EncS.more (EncS.ofS (by assumption)) hb6)
      | (go_at_call 28; refine (PS.out _).mono ?_; rintro e w7 ⟨rfl, hb7⟩; rw [hn]; have hS'' : EncS w w7 ⟨k, o, t, p, s, key, val⟩ A1 A4 X := EncS.more (EncS.ofS (by assumption)) hb7)
      | (go_at_call 27; refine (same_yes A1 A4 n n c1 c4 X X _ (EncS.r1 (EncS.ofS (by assumption))) (EncS.r4 (EncS.ofS (by assumption))) hn hn (by omega) (by omega) rfl).mono ?_; rintro e w8 ⟨rfl, d8, rfl⟩; have hS3 : EncS w _ ⟨k, o, t, p, s, key, val⟩ A1 A4 X := EncS.more (EncS.ofS (by assumption)) (below_drewN (Below.refl _ _) d8)))
  go_wp2_with fail
  go_ret
  exact ⟨rfl, (EncS.ofS (by assumption)).below⟩
end Go.Proofs.Ytjipebedibjoiaa
