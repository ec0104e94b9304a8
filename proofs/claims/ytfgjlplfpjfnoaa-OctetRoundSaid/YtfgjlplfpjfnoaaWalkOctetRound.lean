/- OctetRound: its walk. -/
import Derived.Test.YtfgjlplfpjfnoaaOctRead
import Derived.Test.YtfgjlplfpjfnoaaOctUv
import Derived.Test.YtfgjlplfpjfnoaaOctSame
import Derived.Test.YtfgjlplfpjfnoaaOctZig
namespace Go.Proofs.Ytfgjlplfpjfnoaa
open Go Go.RowKit
set_option linter.unusedVariables false

theorem ru_whole (v : Nat) (t : List Nat) (h : v < 18446744073709551616) : Uv.ru 0 0 (Uv.uv v ++ t) = (v, (Uv.uv v).length, 0) := by
  have := Uv.ru_uv t v 0 0 (by simpa using h) (by omega) (by omega)
  simpa using this

theorem uv_take_ne (v u : Nat) (h : v ≠ u) (hl : (Uv.uv v).length ≤ (Uv.uv u).length) : Uv.uv v ≠ (Uv.uv u).take (Uv.uv v).length := by
  intro e
  apply h
  refine Uv.uv_begins v u ((Uv.uv u).drop (Uv.uv v).length) ?_
  rw [e, List.length_take, Nat.min_eq_left hl]
  exact (List.take_append_drop _ _).symm

set_option maxHeartbeats 1000000 in
set_option maxRecDepth 100000 in
theorem octetRound_walk (a0 : Nat) (a1 : Nat) (A2 : Option Addr) (c2 : Nat) (b2 : List Nat) (a3 : Int) (w : World) (w0 : a0 < 18446744073709551616) (w1 : a1 < 18446744073709551616) (c2l : b2.length ≤ c2) (r2 : Rd w A2 (b8 b2)) (y2 : By b2) (l2 : b2.length ≤ 140737488351232) (w3 : -9223372036854775808 ≤ a3 ∧ a3 ≤ 9223372036854775807) :
    Calls Try.prog 5 #[.int .u64 (a0 : Int), .int .u64 (a1 : Int), .slice A2 b2.length c2, .int .i64 a3] w fun e w' => e = .returned (.bool true) ∧ Below w.heap.size w w' := by
  have hz := Lib.hid w3
  have hzr := zig_range a3 w3
  have hza := Lib.hid (zag_range a0 w0)
  have la := Uv.uv_len_64 a0 w0
  have lb := Uv.uv_len_64 a1 w1
  have pa := Uv.uv_pos a0
  have hmono := Lib.hid (Uv.uv_len_mono a0 a1)
  clear w3
  go_enter Try.func5, Try.ntmps5
  go_wp2_with fail
  refine (uvarint_any a0 w w0).mono ?_
  rintro e w4 ⟨X, cx, rfl, hx4, hb4⟩
  go_wp2_with fail
  refine (uvarint_any a1 w4 w1).mono ?_
  rintro e w5 ⟨Y, cy, rfl, hy5, hb5⟩
  obtain ⟨gx, rfl, hgx0, hgx1, hgxc, _⟩ := own_pos hx4 pa
  obtain ⟨gy, rfl, hgy0, hgy1, hgyc, _⟩ := own_pos hy5 (by have := Uv.uv_pos a1; omega)
  have hB5 := hb4.trans (hb5.mono hb4.size)
  have hx5 := own_below hx4 hb5
  clear hx4
  have h0 := own_lit w5 w5.heap.size [] 5 0 (Nat.le_refl _) (by decide) rfl
  have hr1 : Rd (w5.alloc (.cells [].toArray 5)) (some ⟨gx, 0, none⟩) (b8 (Uv.uv a0)) := (rd_own hx5).below ((Below.refl _ _).alloc (Nat.le_refl _) _)
  go_wp2_with (first
    | (at_builtin; refine app8 _ rfl (.tmp 23) (.tmp 24) rfl w5.heap.size _ 0 [] rfl h0 (some ⟨gx, 0, none⟩) _ cx (Uv.uv a0) rfl rfl hr1 (by omega) (by simp) ?_; intro v6 w6 hown6 hg6 _; have b6 : Below w5.heap.size w5 w6 := ((Below.refl _ _).alloc (Nat.le_refl _) _).trans (below_of_grown hg6 (by simp) (fun k hk => (h0.lt k hk).1)))
    | (at_builtin; refine app8 _ rfl (.tmp 25) (.tmp 26) rfl w5.heap.size v6 _ _ rfl hown6 A2 b2.length c2 b2 rfl rfl (r2.below (hB5.trans (b6.mono hB5.size))) (by omega) b6.size ?_; intro v7 w7 hown7 hg7 _))
  obtain ⟨A7, c7, hv7, _⟩ := own_shape hown7
  subst hv7
  have hB57 : Below w5.heap.size w5 w7 := b6.trans (below_of_grown hg7 b6.size (fun k hk => (hown6.lt k hk).1))
  refine (readUvarint_is A7 _ c7 (Uv.uv a0 ++ b2) w7 _ _ _ (rd_own hown7) (By.append (Uv.uv_lt a0) y2) (by simp) (by omega) (ru_whole a0 b2 w0)).mono ?_
  rintro e w7' ⟨rfl, rfl⟩
  have hB7 := hB5.trans (hB57.mono hB5.size)
  have hx7 := own_below hx5 hB57
  have hy7 := own_below hy5 hB57
  clear hown7 hown6 hg6 hg7 h0 hr1 hx5 hy5 b6 hB57 hB5 hb4 hb5 r2
  have hs0 : (0 : Int) ≤ ((Uv.uv a0).length : Int) := by omega
  have d1 : decide (((Uv.uv a0).length : Int) < 1) = false := by simp; omega
  have d2 : decide ((10 : Int) < ((Uv.uv a0).length : Int)) = false := by simp; omega
  have tail : ∀ W : World, W = w7 ∨ (∃ n, W = w7.drewN n) → Below w.heap.size w W ∧ Rd W (some ⟨gx, 0, none⟩) (b8 (Uv.uv a0)) := by
    rintro W (rfl | ⟨n, rfl⟩)
    · exact ⟨hB7, rd_own hx7⟩
    · exact ⟨below_drewN hB7 n, rd_own hx7⟩
  have T := Lib.hid tail
  clear tail
  by_cases hq : a0 = a1
  · have hne : ((a0 : Int) != (a1 : Int)) = false := by rw [bne_eq_false_iff_eq]; omega
    have hlt : ¬ ((a0 : Int) < (a1 : Int)) := by omega
    clear hq
    go_wp2_with fail
    obtain ⟨hB8, hr8⟩ := T.out w7 (.inl rfl)
    clear hx7 hy7 hB7
    go_loop [14] (fun i => ∃ k : Nat, k ≤ (Uv.uv a0).length ∧ i = .int .i64 k) (fun i => (Uv.uv a0).length - (intOf i).toNat)
    case atStart => exact ⟨0, Nat.zero_le _, rfl⟩
    case round =>
      obtain ⟨k, hk, rfl⟩ := hrel
      by_cases hlt' : k < (Uv.uv a0).length
      · have t0 : (0 : Int) ≤ (k : Int) := by omega
        have t1 : (k : Int) ≤ (cx : Int) := by omega
        go_wp2_with fail
        refine (readUvarint_is (some ⟨gx, 0, none⟩) k cx ((Uv.uv a0).take k) _ 0 0 10 (by rw [b8_take]; exact hr8.take_ _) (By.take (Uv.uv_lt a0) k) (by simp; omega) (by omega) (Uv.ru_cut a0 0 0 k (by simpa using w0) (by omega) (by omega) hlt')).mono ?_
        rintro e w9 ⟨rfl, rfl⟩
        go_wp2_with fail
        go_round
        case rel => exact ⟨k + 1, by omega, by go_num⟩
        case measure => simp [intOf]; omega
      · go_wp2_with fail
        refine (zigzag_any a3 _ hz.out).mono ?_
        rintro e w9 ⟨rfl, rfl⟩
        go_wp2_with fail
        refine (unzigzag_int (Uv.zig a3) _ hzr.1 hzr.2).mono ?_
        rintro e w9 ⟨rfl, rfl⟩
        rw [Uv.zag_zig]
        go_wp2_with fail
        refine (unzigzag_any a0 _ w0).mono ?_
        rintro e w9 ⟨rfl, rfl⟩
        go_wp2_with fail
        refine (zigzag_any (Uv.zag (a0 : Int)) _ hza.out).mono ?_
        rintro e w9 ⟨rfl, rfl⟩
        rw [Uv.zig_zag _ (by omega)]
        go_wp2_with fail
        go_ret
        exact ⟨rfl, hB8⟩
  · have hne : ((a0 : Int) != (a1 : Int)) = true := by rw [bne_iff_ne]; omega
    by_cases hle : (Uv.uv a0).length ≤ (Uv.uv a1).length
    · have hno := Lib.hid (uv_take_ne a0 a1 hq hle)
      have hs1 : ((Uv.uv a0).length : Int) ≤ (cy : Int) := by omega
      by_cases hlt : a0 < a1
      all_goals
        clear hq
        go_wp2_with fail
        refine (same_no (some ⟨gx, 0, none⟩) (some ⟨gy, 0, none⟩) _ _ cx cy (Uv.uv a0) ((Uv.uv a1).take (Uv.uv a0).length) w7 (rd_own hx7) (by rw [b8_take]; exact (rd_own hy7).take_ _) rfl (by simp; omega) (by omega) (by omega) hno.out).mono ?_
        rintro e w8 ⟨rfl, n8, rfl⟩
        go_wp2_with fail
        obtain ⟨hB8, hr8⟩ := T.out (w7.drewN n8) (.inr ⟨n8, rfl⟩)
        clear hx7 hy7 hB7
        go_loop [14] (fun i => ∃ k : Nat, k ≤ (Uv.uv a0).length ∧ i = .int .i64 k) (fun i => (Uv.uv a0).length - (intOf i).toNat)
        case atStart => exact ⟨0, Nat.zero_le _, rfl⟩
        case round =>
          obtain ⟨k, hk, rfl⟩ := hrel
          by_cases hlt' : k < (Uv.uv a0).length
          · have t0 : (0 : Int) ≤ (k : Int) := by omega
            have t1 : (k : Int) ≤ (cx : Int) := by omega
            go_wp2_with fail
            refine (readUvarint_is (some ⟨gx, 0, none⟩) k cx ((Uv.uv a0).take k) _ 0 0 10 (by rw [b8_take]; exact hr8.take_ _) (By.take (Uv.uv_lt a0) k) (by simp; omega) (by omega) (Uv.ru_cut a0 0 0 k (by simpa using w0) (by omega) (by omega) hlt')).mono ?_
            rintro e w9 ⟨rfl, rfl⟩
            go_wp2_with fail
            go_round
            case rel => exact ⟨k + 1, by omega, by go_num⟩
            case measure => simp [intOf]; omega
          · go_wp2_with fail
            refine (zigzag_any a3 _ hz.out).mono ?_
            rintro e w9 ⟨rfl, rfl⟩
            go_wp2_with fail
            refine (unzigzag_int (Uv.zig a3) _ hzr.1 hzr.2).mono ?_
            rintro e w9 ⟨rfl, rfl⟩
            rw [Uv.zag_zig]
            go_wp2_with fail
            refine (unzigzag_any a0 _ w0).mono ?_
            rintro e w9 ⟨rfl, rfl⟩
            go_wp2_with fail
            refine (zigzag_any (Uv.zag (a0 : Int)) _ hza.out).mono ?_
            rintro e w9 ⟨rfl, rfl⟩
            rw [Uv.zig_zag _ (by omega)]
            go_wp2_with fail
            go_ret
            exact ⟨rfl, hB8⟩
    · have hlt : ¬ ((a0 : Int) < (a1 : Int)) := by have := hmono.out; omega
      clear hq
      go_wp2_with fail
      obtain ⟨hB8, hr8⟩ := T.out w7 (.inl rfl)
      clear hx7 hy7 hB7
      go_loop [14] (fun i => ∃ k : Nat, k ≤ (Uv.uv a0).length ∧ i = .int .i64 k) (fun i => (Uv.uv a0).length - (intOf i).toNat)
      case atStart => exact ⟨0, Nat.zero_le _, rfl⟩
      case round =>
        obtain ⟨k, hk, rfl⟩ := hrel
        by_cases hlt' : k < (Uv.uv a0).length
        · have t0 : (0 : Int) ≤ (k : Int) := by omega
          have t1 : (k : Int) ≤ (cx : Int) := by omega
          go_wp2_with fail
          refine (readUvarint_is (some ⟨gx, 0, none⟩) k cx ((Uv.uv a0).take k) _ 0 0 10 (by rw [b8_take]; exact hr8.take_ _) (By.take (Uv.uv_lt a0) k) (by simp; omega) (by omega) (Uv.ru_cut a0 0 0 k (by simpa using w0) (by omega) (by omega) hlt')).mono ?_
          rintro e w9 ⟨rfl, rfl⟩
          go_wp2_with fail
          go_round
          case rel => exact ⟨k + 1, by omega, by go_num⟩
          case measure => simp [intOf]; omega
        · go_wp2_with fail
          refine (zigzag_any a3 _ hz.out).mono ?_
          rintro e w9 ⟨rfl, rfl⟩
          go_wp2_with fail
          refine (unzigzag_int (Uv.zig a3) _ hzr.1 hzr.2).mono ?_
          rintro e w9 ⟨rfl, rfl⟩
          rw [Uv.zag_zig]
          go_wp2_with fail
          refine (unzigzag_any a0 _ w0).mono ?_
          rintro e w9 ⟨rfl, rfl⟩
          go_wp2_with fail
          refine (zigzag_any (Uv.zag (a0 : Int)) _ hza.out).mono ?_
          rintro e w9 ⟨rfl, rfl⟩
          rw [Uv.zig_zag _ (by omega)]
          go_wp2_with fail
          go_ret
          exact ⟨rfl, hB8⟩
end Go.Proofs.Ytfgjlplfpjfnoaa
