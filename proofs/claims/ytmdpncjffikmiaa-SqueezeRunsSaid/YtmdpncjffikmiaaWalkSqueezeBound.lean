/- The walk of SqueezeBound. -/
import Derived.Test.YtmdpncjffikmiaaSqPt
import Derived.Test.YtmdpncjffikmiaaSqPlRead
namespace Go.Proofs.Ytmdpncjffikmiaa
open Go Go.RowKit
set_option linter.unusedVariables false
set_option linter.unusedSimpArgs false

set_option maxHeartbeats 1000000 in
theorem lnumber_is (v : Nat) (w : World) (hv : v ≤ 4611686018427387904) : Calls Try.prog 41 #[.int .i64 (v : Int)] w fun e w' => e = .returned (.int .i64 (((Uv.uv v).length : Nat) : Int)) ∧ w = w' := by
  obtain ⟨q, hq⟩ : ∃ q, q = (Uv.uv v).length := ⟨_, rfl⟩
  have HQ : Hid (1 + (Uv.uv v).length = q + 1) := Lib.hid (by omega)
  have hq10 : q ≤ 10 := by rw [hq]; exact Uv.uv_len_64 v (by omega)
  rw [← hq]
  clear hq
  go_enter Try.func41, Try.ntmps41
  go_wp2
  go_loop [0, 3] (fun u0 u3 => ∃ x k : Nat, u0 = .int .i64 x ∧ u3 = .int .i64 k ∧ x ≤ v ∧ k ≤ 10 ∧ Hid (k + (Uv.uv x).length = q + 1)) (fun u0 _ => (intOf u0).toNat)
  case atStart => exact ⟨v, 1, rfl, rfl, Nat.le_refl _, by omega, HQ⟩
  case round =>
    clear HQ
    obtain ⟨x, k, rfl, rfl, hx, hk, HQ⟩ := hrel
    by_cases h : 128 ≤ x
    · have h1 : (128 : Int) ≤ (x : Int) := by omega
      have HN : Hid (k + 1 + (Uv.uv (x / 128)).length = q + 1) := Lib.hid (by have h2 := HQ.out; rw [Uv.uv_big h, List.length_cons] at h2; omega)
      have hk10 : k + 1 ≤ 10 := by have h2 := Uv.uv_pos (x / 128); have h3 := HN.out; omega
      go_wp2
      go_round
      case rel => exact ⟨x / 128, k + 1, by go_num, by go_num, by omega, hk10, HN⟩
      case measure => simp [intOf]; omega
    · have h1 : ¬ (128 : Int) ≤ (x : Int) := by omega
      have hkq : k = q := by have h2 := HQ.out; rw [Uv.uv_small (by omega)] at h2; simp only [List.length_cons, List.length_nil] at h2; omega
      go_wp2
      go_ret
      exact ⟨rfl, rfl⟩
theorem enc_nil : enc [] = ([0], 0) := by
  rw [enc_short (by simp)]
  simp [tokens, tok, flush, blk, Uv.uv_small]

set_option maxHeartbeats 4000000 in
set_option maxRecDepth 100000 in
theorem squeezeBound_walk (a0 : Int) (w : World) (w0 : -9223372036854775808 ≤ a0 ∧ a0 ≤ 9223372036854775807) :
    Calls Try.prog 9 #[.int .i64 a0] w fun e w' => e = .returned (.bool true) ∧ Below w.heap.size w w' := by
  by_cases hout : a0 < 0 ∨ 4096 < a0
  · have PB : Hid (∀ W, Calls Try.prog 40 #[.int .i64 a0] W fun e w' => e = .returned (.int .i64 0) ∧ Below W.heap.size W w') := Lib.hid (fun W => bound_out a0 W hout)
    have PB0 : Hid (∀ W, Calls Try.prog 40 #[.int .i64 0] W fun e w' => e = .returned (.int .i64 1) ∧ Below W.heap.size W w') := Lib.hid (fun W => bound_is 0 W (by omega))
    have PB1 : Hid (∀ W, Calls Try.prog 40 #[.int .i64 4096] W fun e w' => e = .returned (.int .i64 4100) ∧ Below W.heap.size W w') := Lib.hid (fun W => by
      have h := bound_is 4096 W (by omega)
      have e : bnd 4096 = 4100 := by
        unfold bnd
        rw [if_neg (by omega), Uv.uv_big (by omega), Uv.uv_small (by omega), Uv.uv_big (by omega), Uv.uv_small (by omega)]
        rfl
      rw [e] at h
      exact h)
    have PB2 : Hid (∀ W, Calls Try.prog 40 #[.int .i64 4097] W fun e w' => e = .returned (.int .i64 0) ∧ Below W.heap.size W w') := Lib.hid (fun W => bound_out 4097 W (by omega))
    have hreach : ∀ a : Int, True := fun _ => trivial
    clear hreach
    by_cases hn : a0 < 0
    all_goals
      go_enter Try.func9, Try.ntmps9
      have hgt : ¬ a0 < 0 → 4096 < a0 := fun h => by omega
      first
        | (have hgt2 := hgt hn; clear hgt hout)
        | clear hgt hout
      go_wp2_with fail
      refine (PB.out w).mono ?_
      rintro e w1 ⟨rfl, hb1⟩
      have B1 := Lib.hid hb1
      clear hb1
      go_wp2_with fail
      refine (PB0.out w1).mono ?_
      rintro e w2 ⟨rfl, hb2⟩
      have B2 := Lib.hid (B1.out.trans (hb2.mono B1.out.size))
      clear hb2
      go_wp2_with fail
      refine (PB1.out w2).mono ?_
      rintro e w3 ⟨rfl, hb3⟩
      have B3 := Lib.hid (B2.out.trans (hb3.mono B2.out.size))
      clear hb3
      go_wp2_with fail
      refine (PB2.out w3).mono ?_
      rintro e w4 ⟨rfl, hb4⟩
      have B4 := Lib.hid (B3.out.trans (hb4.mono B3.out.size))
      clear hb4
      go_wp2_with fail
      go_ret
      exact ⟨rfl, B4.out⟩
  · obtain ⟨n, rfl⟩ : ∃ n : Nat, a0 = (n : Int) := ⟨a0.toNat, by omega⟩
    have hn4 : n ≤ 4096 := by omega
    have PB := Lib.hid (bound_is n w hn4)
    clear hout w0
    by_cases h0 : n = 0
    · subst h0
      have HE := Lib.hid enc_nil
      have PB0 : Hid (Calls Try.prog 40 #[.int .i64 0] w fun e w' => e = .returned (.int .i64 1) ∧ Below w.heap.size w w') := Lib.hid PB.out
      obtain ⟨z, hz⟩ : ∃ z : List Nat, z = [0] := ⟨_, rfl⟩
      have HZ : Hid (#[.int .u8 0] = (b8 z).toArray ∧ z.length = 1) := Lib.hid (by subst hz; exact ⟨rfl, rfl⟩)
      rw [← hz] at HE
      clear PB hz
      go_enter Try.func9, Try.ntmps9
      go_wp2_with fail
      refine PB0.out.mono ?_
      rintro e w1 ⟨rfl, hb1⟩
      have B1 := Lib.hid hb1
      clear hb1
      go_wp2_with fail
      refine (encode_is none 0 0 [] w1 (Rd.nil_ _ _) rfl (fun b hb => by cases hb) (by omega) (Nat.le_refl _)).mono ?_
      rw [HE.out]
      rintro e w2 ⟨A2, c2, rfl, ho2, hb2⟩
      simp only [HZ.out.2] at ho2 ⊢
      have O2 := Lib.hid (rd_own ho2)
      have B2 := Lib.hid (B1.out.trans (hb2.mono B1.out.size))
      have hs2 := B2.out.size
      clear ho2 hb2
      go_wp2_with fail
      refine (lsame_yes A2 (some ⟨w2.heap.size, 0, none⟩) 1 1 c2 1 z z _ (O2.out.below ((Below.refl _ _).alloc (Nat.le_refl _) _)) (rd_lit8 HZ.out.1) HZ.out.2 HZ.out.2 (by omega) (by omega) rfl).mono ?_
      rintro e w3 ⟨rfl, d3, rfl⟩
      go_wp2_with fail
      go_ret
      exact ⟨rfl, below_drewN (B2.out.alloc hs2 _) d3⟩
    · have hnp : 0 < n := by omega
      obtain ⟨he1, he2⟩ := enc_pt hn4 hnp
      have HE : Hid (enc (pt n) = (Uv.uv n ++ (Uv.uv (2 * n) ++ pt n), 0)) := Lib.hid he1
      have HB : Hid (bnd n = (Uv.uv n).length + (Uv.uv (2 * n)).length + n) := Lib.hid (if_neg h0)
      have P1 := Lib.hid (fun W => lnumber_is n W (by omega))
      have P2 := Lib.hid (fun W => lnumber_is (2 * n) W (by omega))
      rw [show ((2 * n : Nat) : Int) = 2 * (n : Int) by omega] at P2
      have hl1 := uv2 (v := n) (by omega)
      have hl2 := uv2 (v := 2 * n) (by omega)
      obtain ⟨a, ha⟩ : ∃ a, a = (Uv.uv n).length := ⟨_, rfl⟩
      obtain ⟨b, hb⟩ : ∃ b, b = (Uv.uv (2 * n)).length := ⟨_, rfl⟩
      obtain ⟨Y, hY⟩ : ∃ Y, Y = Uv.uv n ++ (Uv.uv (2 * n) ++ pt n) := ⟨_, rfl⟩
      obtain ⟨q, hq⟩ : ∃ q, q = bnd n := ⟨_, rfl⟩
      rw [← ha] at P1 HB hl1
      rw [← hb] at P2 HB hl2
      rw [← hY] at HE he2
      rw [← hq] at PB HB he2
      have HYL := Lib.hid he2
      have hqn : (q : Int) = (a : Int) + (b : Int) + (n : Int) := by have := HB.out; omega
      have HQN := Lib.hid hqn
      have hne : ((q : Int) != (a : Int) + (b : Int) + (n : Int)) = false := by rw [bne_eq_false_iff_eq]; exact hqn
      have hn0 : ((n : Int) == 0) = false := by rw [beq_eq_false_iff_ne]; omega
      clear ha hb hY hq he1 he2 hqn h0
      go_enter Try.func9, Try.ntmps9
      go_wp2_with fail
      refine PB.out.mono ?_
      rintro e w1 ⟨rfl, hb1⟩
      have B1 := Lib.hid hb1
      clear hb1
      go_wp2_with fail
      refine (P1.out w1).mono ?_
      rintro e w' ⟨rfl, rfl⟩
      go_wp2_with fail
      refine (P2.out w1).mono ?_
      rintro e w' ⟨rfl, rfl⟩
      go_wp2_with fail
      go_loopw [6, 7] (fun v i wr => ∃ k : Nat, k ≤ n ∧ i = .int .i64 k ∧ Hid (wr.ownsRow w.heap.size 5 1 v k (b8 (pt k))) ∧ Hid (Below w.heap.size w wr)) (fun _ i _ => n - (intOf i).toNat)
      case atStart => exact ⟨0, Nat.zero_le _, rfl, Lib.hid (World.ownsRow_nil _ _ _ _), B1⟩
      case round =>
        obtain ⟨k, hk, rfl, HO, HW⟩ := hrel
        have hs := HW.out.size
        by_cases hkn : k < n
        · have HPT : Hid (pt (k + 1) = pt k ++ [pb k]) := Lib.hid (by unfold pt; rw [List.range_succ, List.map_append]; rfl)
          by_cases hp : k % 2 = 0
          · have hp2 : ((k : Int) % 2 == 0) = true := by rw [beq_iff_eq]; omega
            have hz : ((k : Int) / 2) % 256 = ((pb k : Nat) : Int) := by unfold pb; rw [if_pos hp]; omega
            have HZ := Lib.hid hz
            clear hz hp
            go_wp2_with (at_builtin; go_loud ((refine push8 wr rfl (.tmp 67) (.tmp 71) (by rfl) w.heap.size u6 k (pt k) (by rfl) HO.out _ (pb k) HZ.out (by rfl) (by omega) hs ?_); intro v2 w2 ho2 hg2 hn2; have HO2 := Lib.hid ho2; have HW2 := Lib.hid (HW.out.trans (below_of_grown hg2 hs (fun q hq => (HO.out.lt q hq).1))); clear ho2 hg2 hn2))
            go_roundw
            case rel => exact ⟨k + 1, by omega, by go_num, Lib.hid (by rw [HPT.out]; exact HO2.out), HW2⟩
            case measure => simp [intOf]; omega
          · have hp2 : ((k : Int) % 2 == 0) = false := by rw [beq_eq_false_iff_ne]; omega
            have hz : ((k : Int) / 512) = ((pb k : Nat) : Int) := by unfold pb; rw [if_neg hp]; omega
            have HZ := Lib.hid hz
            clear hz hp
            go_wp2_with (at_builtin; go_loud ((refine push8 wr rfl (.tmp 73) (.tmp 77) (by rfl) w.heap.size u6 k (pt k) (by rfl) HO.out _ (pb k) HZ.out (by rfl) (by omega) hs ?_); intro v2 w2 ho2 hg2 hn2; have HO2 := Lib.hid ho2; have HW2 := Lib.hid (HW.out.trans (below_of_grown hg2 hs (fun q hq => (HO.out.lt q hq).1))); clear ho2 hg2 hn2))
            go_roundw
            case rel => exact ⟨k + 1, by omega, by go_num, Lib.hid (by rw [HPT.out]; exact HO2.out), HW2⟩
            case measure => simp [intOf]; omega
        · have hke : k = n := by omega
          subst hke
          obtain ⟨A6, c6, rfl, _⟩ := own_shape HO.out
          have hcap := (own_cap HO.out).1
          have P9 := Lib.hid (encode_is A6 k c6 (pt k) wr (rd_own HO.out) (pt_length k) (pt_by k) (by omega) hcap)
          rw [HE.out] at P9
          have hyq : ((Y.length : Int) == (q : Int)) = true := by rw [beq_iff_eq]; have := HYL.out; omega
          go_wp2_with fail
          refine P9.out.mono ?_
          rintro e w2 ⟨A2, c2, rfl, ho2, hb2⟩
          have HW2 := Lib.hid (HW.out.trans (hb2.mono hs))
          clear ho2 hb2
          go_wp2_with fail
          go_ret
          exact ⟨rfl, HW2.out⟩
end Go.Proofs.Ytmdpncjffikmiaa
