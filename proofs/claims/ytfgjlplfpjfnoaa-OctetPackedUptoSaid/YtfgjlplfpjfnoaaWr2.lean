/- Writers: the other calls. -/
import Derived.Test.YtfgjlplfpjfnoaaWr
import Derived.Test.YtfgjlplfpjfnoaaFixed
namespace Go.Proofs.Ytfgjlplfpjfnoaa
open Go Go.RowKit
set_option linter.unusedVariables false

theorem zig_nat (s : Int) (h : -9223372036854775808 ≤ s ∧ s ≤ 9223372036854775807) : Uv.zig s = (((Uv.zig s).toNat : Nat) : Int) ∧ (Uv.zig s).toNat < 18446744073709551616 := by
  have := zig_range s h
  omega


theorem varint_w (base g : Nat) (v : Value) (xs : List Nat) (s : Int) (w : World) (h : Wr base w 50 g v xs) (hs : -9223372036854775808 ≤ s ∧ s ≤ 9223372036854775807) (hl : xs.length + 10 ≤ 140737488355328) (hb : base ≤ w.heap.size) :
    Calls Try.prog 66 #[.pointer (some ⟨g, 0, none⟩), .int .i64 s] w (Wrote base w 50 g v (xs ++ Uv.uv (Uv.zig s).toNat)) := by
  obtain ⟨hz, hx⟩ := zig_nat s hs
  have PZ := Lib.hid (fun W => zigzag_any s W hs)
  rw [hz] at PZ
  obtain ⟨x, hxx⟩ : ∃ x, x = (Uv.zig s).toNat := ⟨_, rfl⟩
  rw [← hxx] at PZ hx ⊢
  clear hz hxx hs
  have P1 := Lib.hid (fun W (hW : w = W) => uvarint_w base g v xs x W (hW ▸ h) hx hl (hW ▸ hb))
  clear h
  go_enter Try.func66, Try.ntmps66
  go_wp2_with fail
  refine (PZ.out _).mono ?_
  rintro e w0 ⟨rfl, rfl⟩
  go_wp2_with fail
  refine (P1.out _ rfl).mono ?_
  intro e w2 hw2
  obtain ⟨v', rfl, h1, h2, h3⟩ := hw2
  have H1 := Lib.hid h1
  have H2 := Lib.hid h2
  have H3 := Lib.hid h3
  clear h1 h2 h3
  go_wp2
  go_end0
  exact ⟨v', rfl, H1.out, H2.out, H3.out⟩


set_option maxHeartbeats 400000 in
theorem u32_w (base g : Nat) (v : Value) (xs : List Nat) (x : Nat) (w : World) (h : Wr base w 50 g v xs) (hx : x < 4294967296) (hl : xs.length + 4 ≤ 140737488355328) (hb : base ≤ w.heap.size) :
    Calls Try.prog 68 #[.pointer (some ⟨g, 0, none⟩), .int .u32 (x : Int)] w (Wrote base w 50 g v (xs ++ fx x 4)) := by
  have P1 := Lib.hid (raw_is base g v xs (some ⟨w.heap.size, 0, none⟩) 4 4 (fx x 4) (w.alloc (.cells (b8 (fx x 4)).toArray 5)) (h.below ((Below.refl _ _).alloc (Nat.le_refl _) _)) (rd_lit w (b8 (fx x 4)) _) (fx_length 4 x) hl (by simp; omega))
  rw [show (b8 (fx x 4)).toArray = #[.int .u8 ((x : Int) / 16777216), .int .u8 ((x : Int) / 65536 % 256), .int .u8 ((x : Int) / 256 % 256), .int .u8 ((x : Int) % 256)] from by rw [fx_four, Nat.mod_eq_of_lt (a := x / 16777216) (by omega)]; simp [b8]] at P1
  clear h
  go_enter Try.func68, Try.ntmps68
  go_wp2_with fail
  refine P1.out.mono ?_
  intro e w2 hw2
  obtain ⟨v', rfl, h1, h2, h3⟩ := hw2.pre ((Below.refl _ _).alloc (Nat.le_refl _) _)
  have H1 := Lib.hid h1
  have H2 := Lib.hid h2
  have H3 := Lib.hid h3
  clear h1 h2 h3 hw2
  go_wp2
  go_end0
  exact ⟨v', rfl, H1.out, H2.out, H3.out⟩


theorem rvarint_w (base g : Nat) (v : Value) (xs : List Nat) (s : Int) (w : World) (h : Wr base w 58 g v xs) (hs : -9223372036854775808 ≤ s ∧ s ≤ 9223372036854775807) (hl : xs.length + 10 ≤ 140737488355328) (hb : base ≤ w.heap.size) :
    Calls Try.prog 67 #[.pointer (some ⟨g, 0, none⟩), .int .i64 s] w (Wrote base w 58 g v (xs ++ Uv.uv (Uv.zig s).toNat)) := by
  obtain ⟨hz, hx⟩ := zig_nat s hs
  have PZ := Lib.hid (fun W => rzigzag_any s W hs)
  rw [hz] at PZ
  obtain ⟨x, hxx⟩ : ∃ x, x = (Uv.zig s).toNat := ⟨_, rfl⟩
  rw [← hxx] at PZ hx ⊢
  clear hz hxx hs
  have hlen := Uv.uv_len_64 x hx
  have P1 := Lib.hid (fun W A c (h1 : Wr base W 58 g v xs) (h2 : Rd W A (b8 (Uv.uv x))) (h3 : base ≤ W.heap.size) => rraw_is base g v xs A (Uv.uv x).length c (Uv.uv x) W h1 h2 rfl (by omega) h3)
  have HW := Lib.hid h
  clear h
  go_enter Try.func67, Try.ntmps67
  go_wp2_with fail
  refine (PZ.out _).mono ?_
  rintro e w0 ⟨rfl, rfl⟩
  go_wp2_with fail
  refine (ruvarint_any x w hx).mono ?_
  rintro e w1 ⟨A, c, rfl, ho, hb1⟩
  have HO := Lib.hid ho
  have HB1 := Lib.hid hb1
  clear ho hb1
  go_wp2_with fail
  refine (P1.out w1 A c (HW.out.below HB1.out) (rd_own HO.out) (Nat.le_trans hb HB1.out.size)).mono ?_
  intro e w2 hw2
  obtain ⟨v', rfl, h1, h2, h3⟩ := hw2.pre HB1.out
  have H1 := Lib.hid h1
  have H2 := Lib.hid h2
  have H3 := Lib.hid h3
  clear h1 h2 h3 hw2
  go_wp2
  go_end0
  exact ⟨v', rfl, H1.out, H2.out, H3.out⟩


theorem ru32_w (base g : Nat) (v : Value) (xs : List Nat) (x : Nat) (w : World) (h : Wr base w 58 g v xs) (hx : x < 4294967296) (hl : xs.length + 4 ≤ 140737488355328) (hb : base ≤ w.heap.size) :
    Calls Try.prog 69 #[.pointer (some ⟨g, 0, none⟩), .int .u32 (x : Int)] w (Wrote base w 58 g v (xs ++ fx x 4)) := by
  have P1 := Lib.hid (fun W A c (h1 : Wr base W 58 g v xs) (h2 : Rd W A (b8 (fx x 4))) (h3 : base ≤ W.heap.size) => rraw_is base g v xs A (fx x 4).length c (fx x 4) W h1 h2 rfl (by rw [fx_length]; omega) h3)
  have PF := Lib.hid (fixed_any x 4 w (by omega) (by omega) (by omega))
  have HW := Lib.hid h
  clear h
  go_enter Try.func69, Try.ntmps69
  go_wp2_with fail
  refine PF.out.mono ?_
  rintro e w1 ⟨A, c, rfl, ho, hb1⟩
  have HO := Lib.hid ho
  have HB1 := Lib.hid hb1
  clear ho hb1
  go_wp2_with fail
  refine (P1.out w1 A c (HW.out.below HB1.out) (rd_own HO.out) (Nat.le_trans hb HB1.out.size)).mono ?_
  intro e w2 hw2
  obtain ⟨v', rfl, h1, h2, h3⟩ := hw2.pre HB1.out
  have H1 := Lib.hid h1
  have H2 := Lib.hid h2
  have H3 := Lib.hid h3
  clear h1 h2 h3 hw2
  go_wp2
  go_end0
  exact ⟨v', rfl, H1.out, H2.out, H3.out⟩


theorem ru64_w (base g : Nat) (v : Value) (xs : List Nat) (x : Nat) (w : World) (h : Wr base w 58 g v xs) (hx : x < 18446744073709551616) (hl : xs.length + 8 ≤ 140737488355328) (hb : base ≤ w.heap.size) :
    Calls Try.prog 71 #[.pointer (some ⟨g, 0, none⟩), .int .u64 (x : Int)] w (Wrote base w 58 g v (xs ++ fx x 8)) := by
  have P1 := Lib.hid (fun W A c (h1 : Wr base W 58 g v xs) (h2 : Rd W A (b8 (fx x 8))) (h3 : base ≤ W.heap.size) => rraw_is base g v xs A (fx x 8).length c (fx x 8) W h1 h2 rfl (by rw [fx_length]; omega) h3)
  have PF := Lib.hid (fixed_any x 8 w (by omega) (by omega) (by omega))
  have HW := Lib.hid h
  clear h
  go_enter Try.func71, Try.ntmps71
  go_wp2_with fail
  refine PF.out.mono ?_
  rintro e w1 ⟨A, c, rfl, ho, hb1⟩
  have HO := Lib.hid ho
  have HB1 := Lib.hid hb1
  clear ho hb1
  go_wp2_with fail
  refine (P1.out w1 A c (HW.out.below HB1.out) (rd_own HO.out) (Nat.le_trans hb HB1.out.size)).mono ?_
  intro e w2 hw2
  obtain ⟨v', rfl, h1, h2, h3⟩ := hw2.pre HB1.out
  have H1 := Lib.hid h1
  have H2 := Lib.hid h2
  have H3 := Lib.hid h3
  clear h1 h2 h3 hw2
  go_wp2
  go_end0
  exact ⟨v', rfl, H1.out, H2.out, H3.out⟩

end Go.Proofs.Ytfgjlplfpjfnoaa
