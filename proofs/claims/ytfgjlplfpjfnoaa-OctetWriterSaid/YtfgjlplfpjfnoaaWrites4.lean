/- One step of writers: a look; other kinds; every step. -/
import Derived.Test.YtfgjlplfpjfnoaaWrites3
import Derived.Test.YtfgjlplfpjfnoaaOctSame
namespace Go.Proofs.Ytfgjlplfpjfnoaa
open Go Go.RowKit
set_option linter.unusedVariables false

set_option maxHeartbeats 400000 in
set_option maxRecDepth 100000 in
theorem writes_none11 (n : Nat) (s : ByteArray) (w : World) (hn : n < 18446744073709551616) :
    Calls Try.prog 39 #[.pointer none, .pointer none, (Stp.mk 11 n s).val] w fun e w' => e = .returned (.bool true) ∧ Below w.heap.size w w' := by
  unfold Stp.val
  simp only
  have hN := fun (W : World) => ownsL_of (World.ownsRow_nil W W.heap.size 5 1)
  have HN := Lib.hid hN
  clear hN
  have b1 : Below w.heap.size w (w.alloc (.cells #[.int .i64 11, .int .u64 (n : Int), .string s] 55)) := (Below.refl _ _).alloc (Nat.le_refl _) _
  have B1 := Lib.hid b1
  clear b1
  go_enter Try.func39, Try.ntmps39
  go_wp2_with (first
    | (go_at_call 40; refine (bytes_none _).mono ?_; rintro e w9 ⟨rfl, rfl⟩)
    | (go_at_call 76; refine (rbytes_none _).mono ?_; rintro e w9 ⟨rfl, rfl⟩)
    | (go_at_call 19; refine (same_yes none none 0 0 0 0 [] [] _ (Rd.nil_ _ _) (Rd.nil_ _ _) rfl rfl (by omega) (by omega) rfl).mono ?_; rintro e w9 ⟨rfl, nn, rfl⟩)
    | (go_at_call 41; refine (len_none _).mono ?_; rintro e w9 ⟨rfl, rfl⟩)
    | (go_at_call 23; refine (marked_L _ 0 (.slice none 0 0) [] 8 _ (HN.out _) (by omega) (Nat.le_refl _)).mono ?_; rintro e w3 ⟨A3, c3, rfl, hg3⟩))
  go_ret
  refine ⟨rfl, (below_drewN B1.out nn).trans (below_of_grown hg3 ?_ (fun k hk => by cases hk))⟩
  exact B1.out.size

theorem KeptS.of_belowB {a b : World} {B : Nat} (h : Below B a b) : KeptS a b (fun k => B ≤ k) := ⟨h.os, h.tape, h.output, h.size, fun k _ hn => h.block k (by simp at hn; omega)⟩
theorem On2.old {base : Nat} {w0 W W' : World} {g1 g2 : Nat} {a1 a2 : Value} {us vs xs ys : List Nat} (h0 : Two base w0 g1 a1 us g2 a2 vs) (h : On2 base w0 g1 a1 g2 a2 W a1 xs a2 ys) (hb : Below w0.heap.size W W') : On2 base w0 g1 a1 g2 a2 W' a1 xs a2 ys :=
  ⟨h.two.kept (KeptS.of_belowB hb) (fun k hk e => by have := (h0.foot k hk).2; omega), h.kept.trans (KeptS.of_belowB hb) (fun q hq => .inr hq), h.foot⟩

set_option maxHeartbeats 400000 in
set_option maxRecDepth 100000 in
theorem writes_two11 (base g1 g2 : Nat) (v1 v2 : Value) (xs : List Nat) (n : Nat) (s : ByteArray) (w : World) (h : Two base w g1 v1 xs g2 v2 xs) (hn : n < 18446744073709551616) (hl : xs.length ≤ 140737488351232) :
    Calls Try.prog 39 #[.pointer (some ⟨g1, 0, none⟩), .pointer (some ⟨g2, 0, none⟩), (Stp.mk 11 n s).val] w fun e w' => e = .returned (.bool true) ∧ ∃ z1 z2, On2 base w g1 v1 g2 v2 w' z1 (xs ++ (Stp.mk 11 n s).out) z2 (xs ++ (Stp.mk 11 n s).out) := by
  have H0 := Lib.hid h
  have HS0 := Lib.hid (Two.on (h.below ((Below.refl _ _).alloc (Nat.le_refl _) (.cells #[.int .i64 11, .int .u64 (n : Int), .string s] 55))))
  clear h
  unfold Stp.val
  simp only
  go_enter Try.func39, Try.ntmps39
  go_wp2_with (first
    | (go_at_call 40; refine (bytes_w base g1 _ xs _ HS0.out.two.a hl).mono ?_; rintro e w1 ⟨A1, c1, rfl, ho1, hb1⟩; have HS1 := Lib.hid (HS0.out.below hb1); have HO1 := Lib.hid ho1; have hl1 := hb1.size; clear ho1 hb1)
    | (go_at_call 76; refine (rbytes_w base g2 _ xs _ HS1.out.two.b hl).mono ?_; rintro e w2 ⟨A2, c2, rfl, ho2, hb2⟩; have HS2 := Lib.hid (HS1.out.below hb2); have HO2 := Lib.hid ho2; have HP2 := Lib.hid (own_below HO1.out hb2); have hl2 := hb2.size; clear ho2 hb2)
    | (go_at_call 19; refine (same_yes A1 A2 xs.length xs.length c1 c2 xs xs _ (rd_own HP2.out) (rd_own HO2.out) rfl rfl (by omega) (by omega) rfl).mono ?_; rintro e w9 ⟨rfl, nn, rfl⟩; have HS3 := Lib.hid (HS2.out.below (below_drewN (Below.refl _ _) nn)); have HP3 := Lib.hid (own_below HP2.out (below_drewN (Below.refl _ _) nn)))
    | (go_at_call 41; refine (len_w base g1 _ xs _ HS3.out.two.a).mono ?_; rintro e w9 ⟨rfl, rfl⟩)
    | (go_at_call 23; refine (marked_own _ _ _ _ 8 _ HP3.out hl (Nat.le_trans hl1 hl2)).mono ?_; rintro e w4 ⟨A4, c4, rfl, hb4⟩; have HS4 := Lib.hid (HS3.out.old HS0.out.two hb4)))
  have HF := On2.out H0.out HS4.out
  go_ret
  refine ⟨by simp, v1, v2, ?_⟩
  simpa [Stp.out] using HF

set_option maxRecDepth 100000 in
theorem writes_none_else (k : Int) (n : Nat) (s : ByteArray) (w : World) (h0 : k ≠ 0) (h1 : k ≠ 1) (h2 : k ≠ 2) (h3 : k ≠ 3) (h4 : k ≠ 4) (h5 : k ≠ 5) (h10 : k ≠ 10) (h11 : k ≠ 11) (p q : Option Addr) :
    Calls Try.prog 39 #[.pointer p, .pointer q, (Stp.mk k n s).val] w fun e w' => e = .returned (.bool true) ∧ w' = w.alloc (.cells #[.int .i64 k, .int .u64 (n : Int), .string s] 55) := by
  unfold Stp.val
  simp only
  go_enter Try.func39, Try.ntmps39
  go_wp2
  go_ret
  exact ⟨rfl, rfl⟩

/-- One step of no writer. -/
theorem writes_none (x : Stp) (w : World) (hx : x.Ok) :
    Calls Try.prog 39 #[.pointer none, .pointer none, x.val] w fun e w' => e = .returned (.bool true) ∧ Below w.heap.size w w' := by
  obtain ⟨k, n, s⟩ := x
  obtain ⟨_, hn, hs⟩ := hx
  simp only at hn hs
  by_cases h0 : k = 0
  · subst h0; exact writes_none0 n s w hn hs
  by_cases h1 : k = 1
  · subst h1; exact writes_none1 n s w hn hs
  by_cases h2 : k = 2
  · subst h2; exact writes_none2 n s w hn hs
  by_cases h3 : k = 3
  · subst h3; exact writes_none3 n s w hn hs
  by_cases h4 : k = 4
  · subst h4; exact writes_none4 n s w hn hs
  by_cases h5 : k = 5
  · subst h5; exact writes_none5 n s w hn hs
  by_cases h10 : k = 10
  · subst h10; exact writes_none10 n s w hn hs
  by_cases h11 : k = 11
  · subst h11; exact writes_none11 n s w hn
  refine (writes_none_else k n s w h0 h1 h2 h3 h4 h5 h10 h11 none none).mono ?_
  rintro e w' ⟨he, rfl⟩
  exact ⟨he, (Below.refl _ _).alloc (Nat.le_refl _) _⟩

/-- One step of two writers. -/
theorem writes_two (base g1 g2 : Nat) (v1 v2 : Value) (xs : List Nat) (x : Stp) (w : World) (h : Two base w g1 v1 xs g2 v2 xs) (hx : x.Ok) (hl : xs.length + 10 + x.s.size ≤ 140737488351232) :
    Calls Try.prog 39 #[.pointer (some ⟨g1, 0, none⟩), .pointer (some ⟨g2, 0, none⟩), x.val] w fun e w' => e = .returned (.bool true) ∧ ∃ z1 z2, On2 base w g1 v1 g2 v2 w' z1 (xs ++ x.out) z2 (xs ++ x.out) := by
  obtain ⟨k, n, s⟩ := x
  obtain ⟨_, hn, hs⟩ := hx
  simp only at hn hs hl
  by_cases h0 : k = 0
  · subst h0; exact writes_two0 base g1 g2 v1 v2 xs n s w h hn hs hl
  by_cases h1 : k = 1
  · subst h1; exact writes_two1 base g1 g2 v1 v2 xs n s w h hn hs hl
  by_cases h2 : k = 2
  · subst h2; exact writes_two2 base g1 g2 v1 v2 xs n s w h hn hs hl
  by_cases h3 : k = 3
  · subst h3; exact writes_two3 base g1 g2 v1 v2 xs n s w h hn hs hl
  by_cases h4 : k = 4
  · subst h4; exact writes_two4 base g1 g2 v1 v2 xs n s w h hn hs hl
  by_cases h5 : k = 5
  · subst h5; exact writes_two5 base g1 g2 v1 v2 xs n s w h hn hs hl
  by_cases h10 : k = 10
  · subst h10; exact writes_two10 base g1 g2 v1 v2 xs n s w h hn hs hl
  by_cases h11 : k = 11
  · subst h11; exact writes_two11 base g1 g2 v1 v2 xs n s w h hn (by omega)
  refine (writes_none_else k n s w h0 h1 h2 h3 h4 h5 h10 h11 _ _).mono ?_
  rintro e w' ⟨he, rfl⟩
  refine ⟨he, v1, v2, ?_⟩
  simp only [Stp.out, h0, h1, h2, h3, h4, h5, h10, if_false, List.append_nil]
  exact h.on.below ((Below.refl _ _).alloc (Nat.le_refl _) _)
end Go.Proofs.Ytfgjlplfpjfnoaa
