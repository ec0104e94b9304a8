/- OctetOrder: its walk. -/
import Derived.Test.YtfgjlplfpjfnoaaOctAft2
import Derived.Test.YtfgjlplfpjfnoaaOrdPlain
namespace Go.Proofs.Ytfgjlplfpjfnoaa
open Go Go.RowKit
set_option linter.unusedVariables false

theorem compare_is (a b : ByteArray) (w : World) (z : Int) (la : a.size ≤ 140737488355328) (lb : b.size ≤ 140737488355328) (h : cmp (sb a) (sb b) = z) :
    Calls Try.prog 32 #[.string a, .string b] w fun e w' => e = .returned (.int .i64 z) ∧ ∃ n, w' = w.drewN n := by
  rw [← h]
  exact compare_any a b w la lb
theorem begins_is (s p : ByteArray) (w : World) (b : Bool) (ls : s.size ≤ 140737488355328) (lp : p.size ≤ 140737488355328) (h : begB s p = b) :
    Calls Try.prog 35 #[.string s, .string p] w fun e w' => e = .returned (.bool b) ∧ w = w' := by
  rw [← h]
  exact begins_any s p w ls lp

theorem aft_size (s : ByteArray) : (aftS s).size ≤ s.size := by
  unfold aftS
  split
  · exact Nat.zero_le _
  · rw [strOf_size]
    unfold aft
    have := lst_le (sb s)
    rw [sb_length] at this
    simp [sb_length]
    omega

/-- What the last part of the law asks of what stands above p. -/
theorem order_after (a p : ByteArray) (w : World) (la : a.size ≤ 140737488351232) (lp : p.size ≤ 140737488351232) :
    (lst (sb p) = 0 → 0 ≤ cmp (sb a) (sb p) ∨ begB a p = false) ∧ (0 < lst (sb p) → (decide (0 ≤ cmp (sb a) (sb p)) && decide (cmp (sb a) (sb (aftS p)) < 0)) = begB a p) := by
  constructor
  · intro h
    by_cases hb : (sb a).take (sb p).length = sb p
    · exact .inl (cmp_begin _ _ hb)
    · exact .inr (by unfold begB; exact decide_eq_false hb)
  · intro h
    have e : sb (aftS p) = aft (sb p) := by
      unfold aftS
      rw [if_neg (by omega)]
      exact sb_strOf (aft_by (sb_by p) h)
    rw [e]
    have key := aft_inside (sb p) (sb a) (sb_by p) (sb_by a) h
    unfold begB
    rw [Bool.eq_iff_iff]
    simp only [Bool.and_eq_true, decide_eq_true_eq]
    exact key

set_option maxHeartbeats 2000000 in
set_option maxRecDepth 100000 in
theorem octetOrder_walk (a0 : ByteArray) (a1 : ByteArray) (a2 : ByteArray) (a3 : ByteArray) (w : World) (w0 : a0.size ≤ 140737488351232) (w1 : a1.size ≤ 140737488351232) (w2 : a2.size ≤ 140737488351232) (w3 : a3.size ≤ 140737488351232) :
    Calls Try.prog 9 #[.string a0, .string a1, .string a2, .string a3] w fun e w' => e = .returned (.bool true) ∧ Below w.heap.size w w' := by
  have hz := cmp_zero (sb a0) (sb a1)
  have hs := cmp_swap (sb a0) (sb a1)
  have hr := cmp_range (sb a0) (sb a1)
  have ht := cmp_trans (sb a0) (sb a1) (sb a2)
  have heq := sb_eq_iff a0 a1
  have hle := less_eq a0 a1
  obtain ⟨x, hx⟩ : ∃ x, cmp (sb a0) (sb a1) = x := ⟨_, rfl⟩
  obtain ⟨y, hy⟩ : ∃ y, cmp (sb a1) (sb a2) = y := ⟨_, rfl⟩
  obtain ⟨z, hzz⟩ : ∃ z, cmp (sb a0) (sb a2) = z := ⟨_, rfl⟩
  rw [hx] at hs hr ht hle hz
  rw [hy] at ht
  rw [hzz] at ht
  have c1 := Lib.hid fun W => compare_is a0 a1 W x (by omega) (by omega) hx
  have c2 := Lib.hid fun W => compare_is a1 a0 W (-x) (by omega) (by omega) hs
  have c3 := Lib.hid fun W => compare_is a1 a2 W y (by omega) (by omega) hy
  have c4 := Lib.hid fun W => compare_is a0 a2 W z (by omega) (by omega) hzz
  have hx2 : -9223372036854775807 ≤ x ∧ x ≤ 9223372036854775807 := by omega
  have q1 : (a0.toList == a1.toList) = (x == 0) := by
    rw [heq, Bool.eq_iff_iff, beq_iff_eq, decide_eq_true_eq]
    exact hz.symm
  have q2 : Op.bytesLess a0.toList a1.toList = decide (x < 0) := hle
  have HO := Lib.hid (order_after a0 a3 w w0 w3)
  clear hx hs hy hzz heq hle hz
  obtain ⟨hx3, hx4⟩ := hx2
  by_cases h1 : x ≤ 0
  · by_cases h2 : y ≤ 0
    · have h3 : ¬ (0 : Int) < z := by have := ht h1 h2; omega
      clear ht hr
      go_enter Try.func9, Try.ntmps9
      go_wp2_with fail
      refine (c1.out _).mono ?_
      rintro e w4 ⟨rfl, n4, rfl⟩
      go_wp2_with fail
      refine (c2.out _).mono ?_
      rintro e w4 ⟨rfl, n5, rfl⟩
      go_wp2_with fail
      refine (c3.out _).mono ?_
      rintro e w4 ⟨rfl, n6, rfl⟩
      go_wp2_with fail
      refine (c4.out _).mono ?_
      rintro e w4 ⟨rfl, n7, rfl⟩
      go_wp2_with fail
      refine (after_any a3 _ w3).mono ?_
      rintro e w5 ⟨rfl, b5⟩
      have B5 : Below w.heap.size w w5 := undrewN b5
      clear b5
      by_cases hl : lst (sb a3) = 0
      · have e1 : aftS a3 = ⟨#[]⟩ := by unfold aftS; rw [if_pos hl]
        have e2 : aftOk a3 = false := by unfold aftOk; simp [hl]
        rw [e1, e2]
        have hlz := lst_zero (sb a3) hl
        have hA := HO.out.1 hl
        have HZ := Lib.hid hlz
        clear e1 e2 hl hlz
        obtain ⟨p, hp⟩ : ∃ p, cmp (sb a0) (sb a3) = p := ⟨_, rfl⟩
        obtain ⟨bg, hbg⟩ : ∃ b, begB a0 a3 = b := ⟨_, rfl⟩
        rw [hp, hbg] at hA
        have c5 := Lib.hid fun W => compare_is a0 a3 W p (by omega) (by omega) hp
        have c6 := Lib.hid fun W => begins_is a0 a3 W bg (by omega) (by omega) hbg
        clear hp hbg
        go_wp2_with fail
        go_loop [13] (fun i => ∃ k : Nat, k ≤ a3.size ∧ i = .int .i64 k) (fun i => a3.size - (intOf i).toNat)
        case atStart => exact ⟨0, Nat.zero_le _, rfl⟩
        case round =>
          obtain ⟨k, hk, rfl⟩ := hrel
          by_cases hlt : k < a3.size
          · have hg := HZ.out k _ (sb_get a3 k hlt)
            have hb : (((a3[k]'hlt).toNat : Int) != 255) = false := by rw [bne_eq_false_iff_eq]; omega
            have t0 : (0 : Int) ≤ (k : Int) := by omega
            clear hg
            go_wp2_with fail
            go_round
            case rel => exact ⟨k + 1, by omega, by go_num⟩
            case measure => simp [intOf]; omega
          · go_wp2_with fail
            refine (c5.out _).mono ?_
            rintro e w6 ⟨rfl, n6, rfl⟩
            by_cases hp0 : 0 ≤ p
            · clear hA
              go_wp2_with fail
              go_ret
              exact ⟨rfl, below_drewN B5 _⟩
            · have hbf : bg = false := by
                rcases hA with h | h
                · exact absurd h hp0
                · exact h
              subst hbf
              clear hA
              go_wp2_with fail
              refine (c6.out _).mono ?_
              rintro e w7 ⟨rfl, rfl⟩
              go_wp2_with fail
              go_ret
              exact ⟨rfl, below_drewN B5 _⟩
      · have e2 : aftOk a3 = true := by unfold aftOk; simp [hl]
        rw [e2]
        have hB := HO.out.2 (by omega)
        have hsz := aft_size a3
        clear e2 hl
        obtain ⟨p, hp⟩ : ∃ p, cmp (sb a0) (sb a3) = p := ⟨_, rfl⟩
        obtain ⟨q, hq⟩ : ∃ q, cmp (sb a0) (sb (aftS a3)) = q := ⟨_, rfl⟩
        obtain ⟨bg, hbg⟩ : ∃ b, begB a0 a3 = b := ⟨_, rfl⟩
        rw [hp, hq, hbg] at hB
        have c5 := Lib.hid fun W => compare_is a0 a3 W p (by omega) (by omega) hp
        have c6 := Lib.hid fun W => begins_is a0 a3 W bg (by omega) (by omega) hbg
        have c7 := Lib.hid fun W => compare_is a0 (aftS a3) W q (by omega) (by omega) hq
        clear hp hq hbg hsz
        have HB := Lib.hid hB
        clear hB
        go_wp2_with fail
        refine (c5.out _).mono ?_
        rintro e w6 ⟨rfl, n6, rfl⟩
        by_cases hp0 : 0 ≤ p
        · have hb2 : decide (q < 0) = bg := by have := HB.out; simpa [hp0] using this
          go_wp2_with fail
          refine (c7.out _).mono ?_
          rintro e w7 ⟨rfl, n7, rfl⟩
          subst hb2
          go_wp2_with fail
          refine (c6.out _).mono ?_
          rintro e w8 ⟨rfl, rfl⟩
          go_wp2_with fail
          go_ret
          exact ⟨rfl, below_drewN B5 _⟩
        · have hb2 : false = bg := by have := HB.out; simpa [hp0] using this
          subst hb2
          go_wp2_with fail
          refine (c6.out _).mono ?_
          rintro e w8 ⟨rfl, rfl⟩
          go_wp2_with fail
          go_ret
          exact ⟨rfl, below_drewN B5 _⟩
    · clear ht hr
      go_enter Try.func9, Try.ntmps9
      go_wp2_with fail
      refine (c1.out _).mono ?_
      rintro e w4 ⟨rfl, n4, rfl⟩
      go_wp2_with fail
      refine (c2.out _).mono ?_
      rintro e w4 ⟨rfl, n5, rfl⟩
      go_wp2_with fail
      refine (c3.out _).mono ?_
      rintro e w4 ⟨rfl, n6, rfl⟩
      go_wp2_with fail
      refine (after_any a3 _ w3).mono ?_
      rintro e w5 ⟨rfl, b5⟩
      have B5 : Below w.heap.size w w5 := undrewN b5
      clear b5
      by_cases hl : lst (sb a3) = 0
      · have e1 : aftS a3 = ⟨#[]⟩ := by unfold aftS; rw [if_pos hl]
        have e2 : aftOk a3 = false := by unfold aftOk; simp [hl]
        rw [e1, e2]
        have hlz := lst_zero (sb a3) hl
        have hA := HO.out.1 hl
        have HZ := Lib.hid hlz
        clear e1 e2 hl hlz
        obtain ⟨p, hp⟩ : ∃ p, cmp (sb a0) (sb a3) = p := ⟨_, rfl⟩
        obtain ⟨bg, hbg⟩ : ∃ b, begB a0 a3 = b := ⟨_, rfl⟩
        rw [hp, hbg] at hA
        have c5 := Lib.hid fun W => compare_is a0 a3 W p (by omega) (by omega) hp
        have c6 := Lib.hid fun W => begins_is a0 a3 W bg (by omega) (by omega) hbg
        clear hp hbg
        go_wp2_with fail
        go_loop [13] (fun i => ∃ k : Nat, k ≤ a3.size ∧ i = .int .i64 k) (fun i => a3.size - (intOf i).toNat)
        case atStart => exact ⟨0, Nat.zero_le _, rfl⟩
        case round =>
          obtain ⟨k, hk, rfl⟩ := hrel
          by_cases hlt : k < a3.size
          · have hg := HZ.out k _ (sb_get a3 k hlt)
            have hb : (((a3[k]'hlt).toNat : Int) != 255) = false := by rw [bne_eq_false_iff_eq]; omega
            have t0 : (0 : Int) ≤ (k : Int) := by omega
            clear hg
            go_wp2_with fail
            go_round
            case rel => exact ⟨k + 1, by omega, by go_num⟩
            case measure => simp [intOf]; omega
          · go_wp2_with fail
            refine (c5.out _).mono ?_
            rintro e w6 ⟨rfl, n6, rfl⟩
            by_cases hp0 : 0 ≤ p
            · clear hA
              go_wp2_with fail
              go_ret
              exact ⟨rfl, below_drewN B5 _⟩
            · have hbf : bg = false := by
                rcases hA with h | h
                · exact absurd h hp0
                · exact h
              subst hbf
              clear hA
              go_wp2_with fail
              refine (c6.out _).mono ?_
              rintro e w7 ⟨rfl, rfl⟩
              go_wp2_with fail
              go_ret
              exact ⟨rfl, below_drewN B5 _⟩
      · have e2 : aftOk a3 = true := by unfold aftOk; simp [hl]
        rw [e2]
        have hB := HO.out.2 (by omega)
        have hsz := aft_size a3
        clear e2 hl
        obtain ⟨p, hp⟩ : ∃ p, cmp (sb a0) (sb a3) = p := ⟨_, rfl⟩
        obtain ⟨q, hq⟩ : ∃ q, cmp (sb a0) (sb (aftS a3)) = q := ⟨_, rfl⟩
        obtain ⟨bg, hbg⟩ : ∃ b, begB a0 a3 = b := ⟨_, rfl⟩
        rw [hp, hq, hbg] at hB
        have c5 := Lib.hid fun W => compare_is a0 a3 W p (by omega) (by omega) hp
        have c6 := Lib.hid fun W => begins_is a0 a3 W bg (by omega) (by omega) hbg
        have c7 := Lib.hid fun W => compare_is a0 (aftS a3) W q (by omega) (by omega) hq
        clear hp hq hbg hsz
        have HB := Lib.hid hB
        clear hB
        go_wp2_with fail
        refine (c5.out _).mono ?_
        rintro e w6 ⟨rfl, n6, rfl⟩
        by_cases hp0 : 0 ≤ p
        · have hb2 : decide (q < 0) = bg := by have := HB.out; simpa [hp0] using this
          go_wp2_with fail
          refine (c7.out _).mono ?_
          rintro e w7 ⟨rfl, n7, rfl⟩
          subst hb2
          go_wp2_with fail
          refine (c6.out _).mono ?_
          rintro e w8 ⟨rfl, rfl⟩
          go_wp2_with fail
          go_ret
          exact ⟨rfl, below_drewN B5 _⟩
        · have hb2 : false = bg := by have := HB.out; simpa [hp0] using this
          subst hb2
          go_wp2_with fail
          refine (c6.out _).mono ?_
          rintro e w8 ⟨rfl, rfl⟩
          go_wp2_with fail
          go_ret
          exact ⟨rfl, below_drewN B5 _⟩
  · clear ht hr
    go_enter Try.func9, Try.ntmps9
    go_wp2_with fail
    refine (c1.out _).mono ?_
    rintro e w4 ⟨rfl, n4, rfl⟩
    go_wp2_with fail
    refine (c2.out _).mono ?_
    rintro e w4 ⟨rfl, n5, rfl⟩
    go_wp2_with fail
    refine (after_any a3 _ w3).mono ?_
    rintro e w5 ⟨rfl, b5⟩
    have B5 : Below w.heap.size w w5 := undrewN b5
    clear b5
    by_cases hl : lst (sb a3) = 0
    · have e1 : aftS a3 = ⟨#[]⟩ := by unfold aftS; rw [if_pos hl]
      have e2 : aftOk a3 = false := by unfold aftOk; simp [hl]
      rw [e1, e2]
      have hlz := lst_zero (sb a3) hl
      have hA := HO.out.1 hl
      have HZ := Lib.hid hlz
      clear e1 e2 hl hlz
      obtain ⟨p, hp⟩ : ∃ p, cmp (sb a0) (sb a3) = p := ⟨_, rfl⟩
      obtain ⟨bg, hbg⟩ : ∃ b, begB a0 a3 = b := ⟨_, rfl⟩
      rw [hp, hbg] at hA
      have c5 := Lib.hid fun W => compare_is a0 a3 W p (by omega) (by omega) hp
      have c6 := Lib.hid fun W => begins_is a0 a3 W bg (by omega) (by omega) hbg
      clear hp hbg
      go_wp2_with fail
      go_loop [13] (fun i => ∃ k : Nat, k ≤ a3.size ∧ i = .int .i64 k) (fun i => a3.size - (intOf i).toNat)
      case atStart => exact ⟨0, Nat.zero_le _, rfl⟩
      case round =>
        obtain ⟨k, hk, rfl⟩ := hrel
        by_cases hlt : k < a3.size
        · have hg := HZ.out k _ (sb_get a3 k hlt)
          have hb : (((a3[k]'hlt).toNat : Int) != 255) = false := by rw [bne_eq_false_iff_eq]; omega
          have t0 : (0 : Int) ≤ (k : Int) := by omega
          clear hg
          go_wp2_with fail
          go_round
          case rel => exact ⟨k + 1, by omega, by go_num⟩
          case measure => simp [intOf]; omega
        · go_wp2_with fail
          refine (c5.out _).mono ?_
          rintro e w6 ⟨rfl, n6, rfl⟩
          by_cases hp0 : 0 ≤ p
          · clear hA
            go_wp2_with fail
            go_ret
            exact ⟨rfl, below_drewN B5 _⟩
          · have hbf : bg = false := by
              rcases hA with h | h
              · exact absurd h hp0
              · exact h
            subst hbf
            clear hA
            go_wp2_with fail
            refine (c6.out _).mono ?_
            rintro e w7 ⟨rfl, rfl⟩
            go_wp2_with fail
            go_ret
            exact ⟨rfl, below_drewN B5 _⟩
    · have e2 : aftOk a3 = true := by unfold aftOk; simp [hl]
      rw [e2]
      have hB := HO.out.2 (by omega)
      have hsz := aft_size a3
      clear e2 hl
      obtain ⟨p, hp⟩ : ∃ p, cmp (sb a0) (sb a3) = p := ⟨_, rfl⟩
      obtain ⟨q, hq⟩ : ∃ q, cmp (sb a0) (sb (aftS a3)) = q := ⟨_, rfl⟩
      obtain ⟨bg, hbg⟩ : ∃ b, begB a0 a3 = b := ⟨_, rfl⟩
      rw [hp, hq, hbg] at hB
      have c5 := Lib.hid fun W => compare_is a0 a3 W p (by omega) (by omega) hp
      have c6 := Lib.hid fun W => begins_is a0 a3 W bg (by omega) (by omega) hbg
      have c7 := Lib.hid fun W => compare_is a0 (aftS a3) W q (by omega) (by omega) hq
      clear hp hq hbg hsz
      have HB := Lib.hid hB
      clear hB
      go_wp2_with fail
      refine (c5.out _).mono ?_
      rintro e w6 ⟨rfl, n6, rfl⟩
      by_cases hp0 : 0 ≤ p
      · have hb2 : decide (q < 0) = bg := by have := HB.out; simpa [hp0] using this
        go_wp2_with fail
        refine (c7.out _).mono ?_
        rintro e w7 ⟨rfl, n7, rfl⟩
        subst hb2
        go_wp2_with fail
        refine (c6.out _).mono ?_
        rintro e w8 ⟨rfl, rfl⟩
        go_wp2_with fail
        go_ret
        exact ⟨rfl, below_drewN B5 _⟩
      · have hb2 : false = bg := by have := HB.out; simpa [hp0] using this
        subst hb2
        go_wp2_with fail
        refine (c6.out _).mono ?_
        rintro e w8 ⟨rfl, rfl⟩
        go_wp2_with fail
        go_ret
        exact ⟨rfl, below_drewN B5 _⟩
end Go.Proofs.Ytfgjlplfpjfnoaa
