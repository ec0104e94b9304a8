/- One step of two writers. (Printed by gen_writes.py.) -/
import Derived.Test.YtfgjlplfpjfnoaaStep
namespace Go.Proofs.Ytfgjlplfpjfnoaa
open Go Go.RowKit
set_option linter.unusedVariables false

set_option maxRecDepth 100000 in
theorem writes_two0 (base g1 g2 : Nat) (v1 v2 : Value) (xs : List Nat) (n : Nat) (s : ByteArray) (w : World) (h : Two base w g1 v1 xs g2 v2 xs) (hn : n < 18446744073709551616) (hs : s.size ≤ 140737488351232) (hl : xs.length + 10 + s.size ≤ 140737488351232) :
    Calls Try.prog 39 #[.pointer (some ⟨g1, 0, none⟩), .pointer (some ⟨g2, 0, none⟩), (Stp.mk 0 n s).val] w fun e w' => e = .returned (.bool true) ∧ ∃ z1 z2, On2 base w g1 v1 g2 v2 w' z1 (xs ++ (Stp.mk 0 n s).out) z2 (xs ++ (Stp.mk 0 n s).out) := by
  have H0 := Lib.hid h
  have HS0 := Lib.hid (Two.on (h.below ((Below.refl _ _).alloc (Nat.le_refl _) (.cells #[.int .i64 0, .int .u64 (n : Int), .string s] 55))))
  clear h
  unfold Stp.val
  simp only
  have e1 := wrap_u8 n
  go_enter Try.func39, Try.ntmps39
  go_wp2_with (first
    | (go_at_call 62; refine (byte_is base g1 _ xs (n % 256) _ HS0.out.two.a  (by omega) HS0.out.two.a.hb).mono ?_; intro e w1 hw1; obtain ⟨z1, rfl, hS1⟩ := HS0.out.left hw1; obtain ⟨c10, c11, c12⟩ := (On2.bx (x := ⟨0, n, s⟩) H0.out hS1).facts; simp only at c10 c11 c12; have HS1 := Lib.hid hS1; clear hw1 hS1)
    | (go_at_call 63; refine (rbyte_is base g2 _ xs (n % 256) _ HS1.out.two.b  (by omega) HS1.out.two.b.hb).mono ?_; intro e w2 hw2; obtain ⟨z2, rfl, hS2⟩ := HS1.out.right hw2; obtain ⟨c20, c21, c22⟩ := (On2.bx (x := ⟨0, n, s⟩) H0.out hS2).facts; simp only at c20 c21 c22; have HS2 := Lib.hid hS2; clear hw2 hS2))
  go_ret
  have HF := On2.out H0.out HS2.out
  refine ⟨rfl, z1, z2, ?_⟩
  simpa [Stp.out, List.append_assoc] using HF

set_option maxRecDepth 100000 in
theorem writes_two1 (base g1 g2 : Nat) (v1 v2 : Value) (xs : List Nat) (n : Nat) (s : ByteArray) (w : World) (h : Two base w g1 v1 xs g2 v2 xs) (hn : n < 18446744073709551616) (hs : s.size ≤ 140737488351232) (hl : xs.length + 10 + s.size ≤ 140737488351232) :
    Calls Try.prog 39 #[.pointer (some ⟨g1, 0, none⟩), .pointer (some ⟨g2, 0, none⟩), (Stp.mk 1 n s).val] w fun e w' => e = .returned (.bool true) ∧ ∃ z1 z2, On2 base w g1 v1 g2 v2 w' z1 (xs ++ (Stp.mk 1 n s).out) z2 (xs ++ (Stp.mk 1 n s).out) := by
  have H0 := Lib.hid h
  have HS0 := Lib.hid (Two.on (h.below ((Below.refl _ _).alloc (Nat.le_refl _) (.cells #[.int .i64 1, .int .u64 (n : Int), .string s] 55))))
  clear h
  unfold Stp.val
  simp only
  go_enter Try.func39, Try.ntmps39
  go_wp2_with (first
    | (go_at_call 64; refine (uvarint_w base g1 _ xs n _ HS0.out.two.a hn (by omega) HS0.out.two.a.hb).mono ?_; intro e w1 hw1; obtain ⟨z1, rfl, hS1⟩ := HS0.out.left hw1; obtain ⟨c10, c11, c12⟩ := (On2.bx (x := ⟨1, n, s⟩) H0.out hS1).facts; simp only at c10 c11 c12; have HS1 := Lib.hid hS1; clear hw1 hS1)
    | (go_at_call 65; refine (ruvarint_w base g2 _ xs n _ HS1.out.two.b hn (by omega) HS1.out.two.b.hb).mono ?_; intro e w2 hw2; obtain ⟨z2, rfl, hS2⟩ := HS1.out.right hw2; obtain ⟨c20, c21, c22⟩ := (On2.bx (x := ⟨1, n, s⟩) H0.out hS2).facts; simp only at c20 c21 c22; have HS2 := Lib.hid hS2; clear hw2 hS2))
  go_ret
  have HF := On2.out H0.out HS2.out
  refine ⟨rfl, z1, z2, ?_⟩
  simpa [Stp.out, List.append_assoc] using HF

set_option maxRecDepth 100000 in
theorem writes_two2 (base g1 g2 : Nat) (v1 v2 : Value) (xs : List Nat) (n : Nat) (s : ByteArray) (w : World) (h : Two base w g1 v1 xs g2 v2 xs) (hn : n < 18446744073709551616) (hs : s.size ≤ 140737488351232) (hl : xs.length + 10 + s.size ≤ 140737488351232) :
    Calls Try.prog 39 #[.pointer (some ⟨g1, 0, none⟩), .pointer (some ⟨g2, 0, none⟩), (Stp.mk 2 n s).val] w fun e w' => e = .returned (.bool true) ∧ ∃ z1 z2, On2 base w g1 v1 g2 v2 w' z1 (xs ++ (Stp.mk 2 n s).out) z2 (xs ++ (Stp.mk 2 n s).out) := by
  have H0 := Lib.hid h
  have HS0 := Lib.hid (Two.on (h.below ((Below.refl _ _).alloc (Nat.le_refl _) (.cells #[.int .i64 2, .int .u64 (n : Int), .string s] 55))))
  clear h
  unfold Stp.val
  simp only
  have e1 := wrap_sg hn
  go_enter Try.func39, Try.ntmps39
  go_wp2_with (first
    | (go_at_call 66; refine (varint_w base g1 _ xs (sg n) _ HS0.out.two.a (sg_in hn) (by omega) HS0.out.two.a.hb).mono ?_; intro e w1 hw1; obtain ⟨z1, rfl, hS1⟩ := HS0.out.left hw1; obtain ⟨c10, c11, c12⟩ := (On2.bx (x := ⟨2, n, s⟩) H0.out hS1).facts; simp only at c10 c11 c12; have HS1 := Lib.hid hS1; clear hw1 hS1)
    | (go_at_call 67; refine (rvarint_w base g2 _ xs (sg n) _ HS1.out.two.b (sg_in hn) (by omega) HS1.out.two.b.hb).mono ?_; intro e w2 hw2; obtain ⟨z2, rfl, hS2⟩ := HS1.out.right hw2; obtain ⟨c20, c21, c22⟩ := (On2.bx (x := ⟨2, n, s⟩) H0.out hS2).facts; simp only at c20 c21 c22; have HS2 := Lib.hid hS2; clear hw2 hS2))
  go_ret
  have HF := On2.out H0.out HS2.out
  refine ⟨rfl, z1, z2, ?_⟩
  simpa [Stp.out, List.append_assoc] using HF

set_option maxRecDepth 100000 in
theorem writes_two3 (base g1 g2 : Nat) (v1 v2 : Value) (xs : List Nat) (n : Nat) (s : ByteArray) (w : World) (h : Two base w g1 v1 xs g2 v2 xs) (hn : n < 18446744073709551616) (hs : s.size ≤ 140737488351232) (hl : xs.length + 10 + s.size ≤ 140737488351232) :
    Calls Try.prog 39 #[.pointer (some ⟨g1, 0, none⟩), .pointer (some ⟨g2, 0, none⟩), (Stp.mk 3 n s).val] w fun e w' => e = .returned (.bool true) ∧ ∃ z1 z2, On2 base w g1 v1 g2 v2 w' z1 (xs ++ (Stp.mk 3 n s).out) z2 (xs ++ (Stp.mk 3 n s).out) := by
  have H0 := Lib.hid h
  have HS0 := Lib.hid (Two.on (h.below ((Below.refl _ _).alloc (Nat.le_refl _) (.cells #[.int .i64 3, .int .u64 (n : Int), .string s] 55))))
  clear h
  unfold Stp.val
  simp only
  have e1 := wrap_u32 n
  go_enter Try.func39, Try.ntmps39
  go_wp2_with (first
    | (go_at_call 68; refine (u32_w base g1 _ xs (n % 4294967296) _ HS0.out.two.a (Nat.mod_lt _ (by decide)) (by omega) HS0.out.two.a.hb).mono ?_; intro e w1 hw1; obtain ⟨z1, rfl, hS1⟩ := HS0.out.left hw1; obtain ⟨c10, c11, c12⟩ := (On2.bx (x := ⟨3, n, s⟩) H0.out hS1).facts; simp only at c10 c11 c12; have HS1 := Lib.hid hS1; clear hw1 hS1)
    | (go_at_call 69; refine (ru32_w base g2 _ xs (n % 4294967296) _ HS1.out.two.b (Nat.mod_lt _ (by decide)) (by omega) HS1.out.two.b.hb).mono ?_; intro e w2 hw2; obtain ⟨z2, rfl, hS2⟩ := HS1.out.right hw2; obtain ⟨c20, c21, c22⟩ := (On2.bx (x := ⟨3, n, s⟩) H0.out hS2).facts; simp only at c20 c21 c22; have HS2 := Lib.hid hS2; clear hw2 hS2))
  go_ret
  have HF := On2.out H0.out HS2.out
  refine ⟨rfl, z1, z2, ?_⟩
  simpa [Stp.out, List.append_assoc] using HF

set_option maxRecDepth 100000 in
theorem writes_two4 (base g1 g2 : Nat) (v1 v2 : Value) (xs : List Nat) (n : Nat) (s : ByteArray) (w : World) (h : Two base w g1 v1 xs g2 v2 xs) (hn : n < 18446744073709551616) (hs : s.size ≤ 140737488351232) (hl : xs.length + 10 + s.size ≤ 140737488351232) :
    Calls Try.prog 39 #[.pointer (some ⟨g1, 0, none⟩), .pointer (some ⟨g2, 0, none⟩), (Stp.mk 4 n s).val] w fun e w' => e = .returned (.bool true) ∧ ∃ z1 z2, On2 base w g1 v1 g2 v2 w' z1 (xs ++ (Stp.mk 4 n s).out) z2 (xs ++ (Stp.mk 4 n s).out) := by
  have H0 := Lib.hid h
  have HS0 := Lib.hid (Two.on (h.below ((Below.refl _ _).alloc (Nat.le_refl _) (.cells #[.int .i64 4, .int .u64 (n : Int), .string s] 55))))
  clear h
  unfold Stp.val
  simp only
  go_enter Try.func39, Try.ntmps39
  go_wp2_with (first
    | (go_at_call 70; refine (u64_w base g1 _ xs n _ HS0.out.two.a hn (by omega) HS0.out.two.a.hb).mono ?_; intro e w1 hw1; obtain ⟨z1, rfl, hS1⟩ := HS0.out.left hw1; obtain ⟨c10, c11, c12⟩ := (On2.bx (x := ⟨4, n, s⟩) H0.out hS1).facts; simp only at c10 c11 c12; have HS1 := Lib.hid hS1; clear hw1 hS1)
    | (go_at_call 71; refine (ru64_w base g2 _ xs n _ HS1.out.two.b hn (by omega) HS1.out.two.b.hb).mono ?_; intro e w2 hw2; obtain ⟨z2, rfl, hS2⟩ := HS1.out.right hw2; obtain ⟨c20, c21, c22⟩ := (On2.bx (x := ⟨4, n, s⟩) H0.out hS2).facts; simp only at c20 c21 c22; have HS2 := Lib.hid hS2; clear hw2 hS2))
  go_ret
  have HF := On2.out H0.out HS2.out
  refine ⟨rfl, z1, z2, ?_⟩
  simpa [Stp.out, List.append_assoc] using HF

set_option maxRecDepth 100000 in
theorem writes_two5 (base g1 g2 : Nat) (v1 v2 : Value) (xs : List Nat) (n : Nat) (s : ByteArray) (w : World) (h : Two base w g1 v1 xs g2 v2 xs) (hn : n < 18446744073709551616) (hs : s.size ≤ 140737488351232) (hl : xs.length + 10 + s.size ≤ 140737488351232) :
    Calls Try.prog 39 #[.pointer (some ⟨g1, 0, none⟩), .pointer (some ⟨g2, 0, none⟩), (Stp.mk 5 n s).val] w fun e w' => e = .returned (.bool true) ∧ ∃ z1 z2, On2 base w g1 v1 g2 v2 w' z1 (xs ++ (Stp.mk 5 n s).out) z2 (xs ++ (Stp.mk 5 n s).out) := by
  have H0 := Lib.hid h
  have HS0 := Lib.hid (Two.on (h.below ((Below.refl _ _).alloc (Nat.le_refl _) (.cells #[.int .i64 5, .int .u64 (n : Int), .string s] 55))))
  clear h
  unfold Stp.val
  simp only
  go_enter Try.func39, Try.ntmps39
  go_wp2_with (first
    | (go_at_call 72; refine (text_w base g1 _ xs s _ HS0.out.two.a  (by omega) HS0.out.two.a.hb).mono ?_; intro e w1 hw1; obtain ⟨z1, rfl, hS1⟩ := HS0.out.left hw1; obtain ⟨c10, c11, c12⟩ := (On2.bx (x := ⟨5, n, s⟩) H0.out hS1).facts; simp only at c10 c11 c12; have HS1 := Lib.hid hS1; clear hw1 hS1)
    | (go_at_call 73; refine (rtext_w base g2 _ xs s _ HS1.out.two.b  (by omega) HS1.out.two.b.hb).mono ?_; intro e w2 hw2; obtain ⟨z2, rfl, hS2⟩ := HS1.out.right hw2; obtain ⟨c20, c21, c22⟩ := (On2.bx (x := ⟨5, n, s⟩) H0.out hS2).facts; simp only at c20 c21 c22; have HS2 := Lib.hid hS2; clear hw2 hS2))
  go_ret
  have HF := On2.out H0.out HS2.out
  refine ⟨rfl, z1, z2, ?_⟩
  simpa [Stp.out, List.append_assoc] using HF

end Go.Proofs.Ytfgjlplfpjfnoaa
