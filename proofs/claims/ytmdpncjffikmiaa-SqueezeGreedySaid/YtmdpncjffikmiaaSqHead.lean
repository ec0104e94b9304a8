/- head, Bound. -/
import Derived.Test.YtmdpncjffikmiaaSqBack
import Derived.Test.YtmdpncjffikmiaaS2
import Derived.Lib.SlBytesConst
namespace Go.Proofs.Ytmdpncjffikmiaa
open Go Go.RowKit
set_option linter.unusedVariables false
set_option linter.unusedSimpArgs false

set_option maxHeartbeats 1000000 in
set_option maxRecDepth 100000 in
theorem bound_is (n : Nat) (w : World) (hn : n ≤ 4096) : Calls Try.prog 40 #[.int .i64 (n : Int)] w fun e w' => e = .returned (.int .i64 ((bnd n : Nat) : Int)) ∧ Below w.heap.size w w' := by
  by_cases h0 : n = 0
  · subst h0
    go_enter Try.func40, Try.ntmps40
    go_wp2_with fail
    go_ret
    exact ⟨rfl, Below.refl _ _⟩
  · have P1 := Lib.hid (uvarint_any n w (by omega))
    have P2 := Lib.hid (fun W => uvarint_any (2 * n) W (by omega))
    have HE : Hid (bnd n = (Uv.uv n).length + (Uv.uv (2 * n)).length + n) := Lib.hid (if_neg h0)
    have hl1 := uv2 (v := n) (by omega)
    have hl2 := uv2 (v := 2 * n) (by omega)
    rw [show ((2 * n : Nat) : Int) = 2 * (n : Int) by omega] at P2
    obtain ⟨a, ha⟩ : ∃ a, a = Uv.uv n := ⟨_, rfl⟩
    obtain ⟨b, hb⟩ : ∃ b, b = Uv.uv (2 * n) := ⟨_, rfl⟩
    rw [← ha] at P1 HE hl1
    rw [← hb] at P2 HE hl2
    obtain ⟨q, hq⟩ : ∃ q, q = bnd n := ⟨_, rfl⟩
    rw [← hq] at HE ⊢
    have hne : ((n : Int) == 0) = false := by rw [beq_eq_false_iff_ne]; omega
    clear ha hb hq h0
    go_enter Try.func40, Try.ntmps40
    go_wp2_with fail
    refine P1.out.mono ?_
    rintro e w1 ⟨A1, c1, rfl, ho1, hb1⟩
    have HB1 := Lib.hid hb1
    clear ho1 hb1 P1
    go_wp2_with fail
    refine (P2.out _).mono ?_
    rintro e w2 ⟨A2, c2, rfl, ho2, hb2⟩
    have HB2 := Lib.hid (HB1.out.trans (hb2.mono HB1.out.size))
    clear ho2 hb2 P2
    go_wp2_with fail
    go_ret
    exact ⟨ret_i (by rw [HE.out]; omega), HB2.out⟩

set_option maxHeartbeats 1000000 in
set_option maxRecDepth 100000 in
theorem bound_out (n : Int) (w : World) (hn : n < 0 ∨ 4096 < n) : Calls Try.prog 40 #[.int .i64 n] w fun e w' => e = .returned (.int .i64 0) ∧ Below w.heap.size w w' := by
  by_cases h0 : n < 0
  · go_enter Try.func40, Try.ntmps40
    go_wp2_with fail
    go_ret
    exact ⟨rfl, Below.refl _ _⟩
  · have h1 : 4096 < n := by omega
    have h2 : 0 ≤ n := by omega
    clear hn h0
    go_enter Try.func40, Try.ntmps40
    go_wp2_with fail
    go_ret
    exact ⟨rfl, Below.refl _ _⟩

/-- A literal slice of bytes. -/
theorem rd_lit8 {w : World} {xs : List Nat} {cs : Array Value} {fz : Nat × Nat} (h : cs = (b8 xs).toArray) : Rd (w.alloc (.cells cs 5 fz)) (some ⟨w.heap.size, 0, none⟩) (b8 xs) := by
  subst h
  intro _
  refine ⟨w.heap.size, 0, rfl, by simp, fun k u hu => ?_⟩
  rw [Nat.zero_add, cell_of_row _ _ k _ _ _ (heap_alloc_new w _)]
  simpa using hu

set_option maxHeartbeats 2000000 in
set_option maxRecDepth 100000 in
theorem head_is (w : World) : Calls Try.prog 45 #[] w fun e w' => e = .returned (.bool true) ∧ Below w.heap.size w w' := by
  obtain ⟨s, hs⟩ : ∃ s : List Nat, s = [97, 97, 97, 97, 97, 97] := ⟨_, rfl⟩
  obtain ⟨y, hy⟩ : ∃ y : List Nat, y = [6, 2, 97, 11, 1] := ⟨_, rfl⟩
  have HS : Hid (#[.int .u8 97, .int .u8 97, .int .u8 97, .int .u8 97, .int .u8 97, .int .u8 97] = (b8 s).toArray ∧ s.length = 6 ∧ By s) := Lib.hid (by subst hs; exact ⟨rfl, rfl, By.of_all rfl⟩)
  have HY : Hid (#[.int .u8 6, .int .u8 2, .int .u8 97, .int .u8 11, .int .u8 1] = (b8 y).toArray ∧ y.length = 5 ∧ By y) := Lib.hid (by subst hy; exact ⟨rfl, rfl, By.of_all rfl⟩)
  have HE : Hid (enc s = (y, 0)) := Lib.hid (by subst hs hy; rw [enc_short (by simp)]; exact Prod.ext head_enc rfl)
  have HD : Hid (dec y = (s, 0)) := Lib.hid (by subst hs hy; rw [← head_enc]; exact dec_enc (t := [97, 97, 97, 97, 97, 97]) (By.of_all rfl) (by simp))
  clear hs hy
  have kc := fun (w : World) (C : Array Value) (n c : Nat) => Lib.run_convert_bytes_const (P := Try.prog) w 23 5 C n c Try.underlying23 Try.underlying5
  go_enter Try.func45, Try.ntmps45
  go_wp2_with fail
  refine (encode_is (some ⟨w.heap.size, 0, none⟩) 6 6 s _ (rd_lit8 HS.out.1) HS.out.2.1 HS.out.2.2 (by omega) (by omega)).mono ?_
  rw [HE.out]
  rintro e w1 ⟨A1, c1, rfl, ho1, hb1⟩
  simp only [HY.out.2.1] at ho1 ⊢
  have HO1 := Lib.hid (rd_own ho1)
  have HB1 := Lib.hid (((Below.refl w.heap.size w).alloc (Nat.le_refl _) (.cells #[.int .u8 97, .int .u8 97, .int .u8 97, .int .u8 97, .int .u8 97, .int .u8 97] 5 (6, 7))).trans (hb1.mono (by simp)))
  have hs1 := HB1.out.size
  clear ho1 hb1
  go_wp2_with fail
  refine (decode_is (some ⟨w1.heap.size, 0, none⟩) 5 5 y _ (rd_lit8 HY.out.1) HY.out.2.1 HY.out.2.2 (by omega)).mono ?_
  rw [HD.out]
  rintro e w2 ⟨A2, c2, rfl, ho2, hb2⟩
  simp only [HS.out.2.1] at ho2 ⊢
  have HO2 := Lib.hid (rd_own ho2)
  have hb12 : Below w1.heap.size w1 w2 := ((Below.refl w1.heap.size w1).alloc (Nat.le_refl _) (.cells #[.int .u8 6, .int .u8 2, .int .u8 97, .int .u8 11, .int .u8 1] 5)).trans (hb2.mono (by simp))
  have HO12 := Lib.hid (HO1.out.below hb12)
  have HB2 := Lib.hid (HB1.out.trans (hb12.mono hs1))
  have hs2 := HB2.out.size
  clear ho2 hb2 hb12
  go_wp2_with fail
  refine (lsame_yes A1 (some ⟨w2.heap.size, 0, none⟩) 5 5 c1 5 y y _ (HO12.out.below ((Below.refl _ _).alloc (Nat.le_refl _) _)) (rd_lit8 HY.out.1) HY.out.2.1 HY.out.2.1 (by omega) (by omega) rfl).mono ?_
  rintro e w3 ⟨rfl, d3, rfl⟩
  have HB3 := Lib.hid (below_drewN (HB2.out.alloc hs2 (.cells #[.int .u8 6, .int .u8 2, .int .u8 97, .int .u8 11, .int .u8 1] 5)) d3)
  have HO23 := Lib.hid (HO2.out.below (below_drewN ((Below.refl w2.heap.size w2).alloc (Nat.le_refl _) (.cells #[.int .u8 6, .int .u8 2, .int .u8 97, .int .u8 11, .int .u8 1] 5)) d3))
  obtain ⟨wo, hwo⟩ : ∃ wo : World, wo = (w2.alloc (.cells #[.int .u8 6, .int .u8 2, .int .u8 97, .int .u8 11, .int .u8 1] 5)).drewN d3 := ⟨_, rfl⟩
  rw [← hwo] at HB3 HO23 ⊢
  have hs3 := HB3.out.size
  clear hwo
  go_wp2_with fail
  refine (lsame_yes A2 (some ⟨wo.heap.size, 0, none⟩) 6 6 c2 6 s s _ (HO23.out.below ((Below.refl _ _).alloc (Nat.le_refl _) _)) (rd_lit8 HS.out.1) HS.out.2.1 HS.out.2.1 (by omega) (by omega) rfl).mono ?_
  rintro e w4 ⟨rfl, d4, rfl⟩
  go_wp2_with fail
  go_ret
  exact ⟨rfl, below_drewN (HB3.out.alloc hs3 _) d4⟩
end Go.Proofs.Ytmdpncjffikmiaa
