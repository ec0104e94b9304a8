/- OctetTaken: its walk. -/
import Derived.Test.YtfgjlplfpjfnoaaOctRead
import Derived.Test.YtfgjlplfpjfnoaaOctUv
import Derived.Test.YtfgjlplfpjfnoaaOctSame
import Derived.Deep.RegionWith
namespace Go.Proofs.Ytfgjlplfpjfnoaa
open Go Go.RowKit
set_option linter.unusedVariables false

theorem sameB_refl (xs : List Nat) : sameB xs xs = true := by simp [sameB]

/-- The reading of two closed bytes. -/
theorem ru_two : Uv.ru 0 0 [172, 2] = (300, 2, 0) := by decide

set_option maxHeartbeats 400000 in
set_option maxRecDepth 100000 in
theorem octetTaken_walk (A0 : Option Addr) (c0 : Nat) (b0 : List Nat) (w : World) (c0l : b0.length ≤ c0) (r0 : Rd w A0 (b8 b0)) (y0 : By b0) (l0 : b0.length ≤ 140737488351232) :
    Calls Try.prog 3 #[.slice A0 b0.length c0] w fun e w' => e = .returned (.bool true) ∧ Below w.heap.size w w' := by
  rcases Uv.ru_err b0 0 0 with h0 | ⟨e1, e2, h0⟩
  · obtain ⟨v, e1, e2, e3, e4, _, e6⟩ := Uv.ru_taken b0 0 0 y0 (by omega) (by omega) h0
    simp only [Nat.zero_add, Nat.pow_zero, Nat.mul_one] at e1 e2 e6
    have hread := readUvarint_is A0 b0.length c0 b0 w v (Uv.uv v).length 0 r0 y0 rfl (by omega) (Prod.ext e1 (Prod.ext e2 h0))
    have hpos := Uv.uv_pos v
    obtain ⟨n, hn⟩ : ∃ n, n = (Uv.uv v).length := ⟨_, rfl⟩
    rw [← hn] at hread e3 e4 hpos
    have hlen := Uv.uv_len_64 v e6
    have H := Lib.hid hread
    have H4 := Lib.hid e4
    have HN := Lib.hid hn
    have R1 := Lib.hid r0
    have h3 : (0 : Int) ≤ (n : Int) := by omega
    have h4 : (n : Int) ≤ (c0 : Int) := by omega
    clear hread h0 e1 e2 e4 hn r0
    go_enter Try.func3, Try.ntmps3
    go_wp2_with fail
    refine H.out.mono ?_
    rintro e w' ⟨rfl, rfl⟩
    go_wp2_with fail
    go_region_with (first
      | (go_at_call 20; refine (uvarint_any v _ e6).mono ?_; rintro e w1 ⟨A, c, rfl, hown, hbel⟩)
      | (go_at_call 19; (refine (same_yes A A0 _ n c c0 (Uv.uv v) (b0.take n) _ (rd_own hown) (by rw [b8_take]; exact (R1.out.take_ n).below (undrew hbel)) rfl (by simp; omega) (by omega) (by omega) H4.out.symm).mono ?_); rintro e w2 ⟨rfl, k, rfl⟩))
    go_wp2
    go_ret
    exact ⟨rfl, below_drewN (undrew hbel) k⟩
  · have hx : (Uv.ru 0 0 b0).2.2 ≠ 0 := by omega
    obtain ⟨x, hx0⟩ : ∃ x, x = (Uv.ru 0 0 b0).2.2 := ⟨_, rfl⟩
    have hread := readUvarint_is A0 b0.length c0 b0 w 0 0 x r0 y0 rfl (by omega) (Prod.ext e1 (Prod.ext e2 hx0.symm))
    rw [← hx0] at h0 hx
    have H := Lib.hid hread
    clear hread hx0 e1 e2 r0
    have hb : ((x : Int) != 0) = true := by rw [bne_iff_ne]; omega
    rcases h0 with h0 | h0
    all_goals
      first
        | (have h10 : ((x : Int) == 10) = true := by rw [beq_iff_eq]; omega)
        | (have h10 : ((x : Int) == 10) = false := by rw [beq_eq_false_iff_ne]; omega
           have h11 : ((x : Int) == 11) = true := by rw [beq_iff_eq]; omega)
      clear h0 hx
      go_enter Try.func3, Try.ntmps3
      go_wp2_with fail
      refine H.out.mono ?_
      rintro e w' ⟨rfl, rfl⟩
      go_wp2_with fail
      refine (readUvarint_is _ 2 2 [172, 2] _ 300 2 0 (rd_own (base := w.heap.size) (e := 5) (size := 1) (World.ownsRow_lit w #[.int .u8 172, .int .u8 2] 2 (Nat.le_refl _) (by decide) rfl)) (By.of_all (by decide)) rfl (by omega) ru_two).mono ?_
      rintro e w' ⟨rfl, rfl⟩
      go_wp2
      go_ret
      exact ⟨rfl, (Below.refl _ _).alloc (Nat.le_refl _) _⟩
end Go.Proofs.Ytfgjlplfpjfnoaa
