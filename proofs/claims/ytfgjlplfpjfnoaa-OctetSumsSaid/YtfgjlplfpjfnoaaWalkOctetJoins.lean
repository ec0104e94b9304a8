/- OctetJoins: its walk (arguments of bounded bulk). -/
import Derived.Test.YtfgjlplfpjfnoaaMat
import Derived.Test.YtfgjlplfpjfnoaaWalkOctetLinear
namespace Go.Proofs.Ytfgjlplfpjfnoaa
open Go Go.RowKit
set_option linter.unusedVariables false

theorem ext_is (s : Nat) (A : Option Addr) (n c : Nat) (bs : List Nat) (w : World) (z : Nat) (hs : s < 4294967296) (hr : Rd w A (b8 bs)) (hby : By bs) (hn : bs.length = n) (hl : n ≤ 140737488355328) (hz : z = Crc.ext s bs) :
    Calls Try.prog 43 #[.int .u32 (s : Int), .slice A n c] w fun e w' => e = .returned (.int .u32 (z : Int)) ∧ Below w.heap.size w w' := by
  subst hz
  exact extend_any s A n c bs w hs hr hby hn hl

theorem join_is (a b : Nat) (n : Int) (w : World) (z : Nat) (ha : a < 4294967296) (hb : b < 4294967296) (hn : -9223372036854775808 ≤ n) (hn' : n ≤ 9223372036854775807) (hz : z = Crc.join a b n.toNat) :
    Calls Try.prog 44 #[.int .u32 (a : Int), .int .u32 (b : Int), .int .i64 n] w fun e w' => e = .returned (.int .u32 (z : Int)) ∧ Below w.heap.size w w' := by
  subst hz
  exact join_any a b n w ha hb hn hn'

theorem join_lt (a b n : Nat) (ha : a < 4294967296) (hb : b < 4294967296) : Crc.join a b n < 4294967296 :=
  Crc.xor_lt (n := 32) (Crc.Mi_lt _ ha) hb

set_option maxHeartbeats 2000000 in
set_option maxRecDepth 100000 in
theorem octetJoinsU_walk (A0 : Option Addr) (c0 : Nat) (b0 : List Nat) (A1 : Option Addr) (c1 : Nat) (b1 : List Nat) (a2 : Nat) (a3 : Nat) (a4 : Nat) (a5 : Int) (a6 : Int) (w : World) (c0l : b0.length ≤ c0) (r0 : Rd w A0 (b8 b0)) (y0 : By b0) (l0 : b0.length ≤ 140737488351232) (c1l : b1.length ≤ c1) (r1 : Rd w A1 (b8 b1)) (y1 : By b1) (l1 : b1.length ≤ 140737488351232) (w2 : a2 < 4294967296) (w3 : a3 < 4294967296) (w4 : a4 < 4294967296) (w5 : -9223372036854775808 ≤ a5 ∧ a5 ≤ 9223372036854775807) (w6 : -9223372036854775808 ≤ a6 ∧ a6 ≤ 9223372036854775807) (ub : b0.length + b1.length ≤ 1048576) :
    Calls Try.prog 12 #[.slice A0 b0.length c0, .slice A1 b1.length c1, .int .u32 (a2 : Int), .int .u32 (a3 : Int), .int .u32 (a4 : Int), .int .i64 a5, .int .i64 a6] w fun e w' => e = .returned (.bool true) ∧ Below w.heap.size w w' := by
  obtain ⟨x, hx⟩ : ∃ x, x = Crc.ext 0 b0 := ⟨_, rfl⟩
  obtain ⟨y, hy⟩ : ∃ y, y = Crc.ext 0 b1 := ⟨_, rfl⟩
  obtain ⟨z, hz⟩ : ∃ z, z = Crc.ext 0 (b0 ++ b1) := ⟨_, rfl⟩
  have x32 : x < 4294967296 := by rw [hx]; exact Crc.ext_lt (by decide) y0
  have y32 : y < 4294967296 := by rw [hy]; exact Crc.ext_lt (by decide) y1
  have z32 : z < 4294967296 := by rw [hz]; exact Crc.ext_lt (by decide) (By.append y0 y1)
  have e1 : z = Crc.ext x b1 := by rw [hz, hx]; exact Crc.ext_append 0 b0 b1
  have e2 : z = Crc.join x y (b1.length : Int).toNat := by rw [e1, hy, Int.toNat_natCast]; exact Crc.ext_join x b1
  have e3 : z = Crc.ext z [] := (Crc.ext_nil z).symm
  have HX := Lib.hid hx
  have HY := Lib.hid hy
  have HZ := Lib.hid hz
  have H1 := Lib.hid e1
  have H2 := Lib.hid e2
  have H3 := Lib.hid e3
  clear hx hy hz e1 e2 e3
  have h0 := own_lit w w.heap.size [] 5 0 (Nat.le_refl _) (by decide) rfl
  have hr1 : Rd (w.alloc (.cells [].toArray 5)) A0 (b8 b0) := r0.below ((Below.refl _ _).alloc (Nat.le_refl _) _)
  have hcase : (a5 < 0 ∨ a6 < 0 ∨ 2305843009213693952 < a5 ∨ 2305843009213693952 < a6) ∨ (0 ≤ a5 ∧ 0 ≤ a6 ∧ a5 ≤ 2305843009213693952 ∧ a6 ≤ 2305843009213693952) := by omega
  go_enter Try.func12, Try.ntmps12
  go_wp2_with (first
    | (at_builtin; refine app8 _ rfl (.tmp 19) (.tmp 20) rfl w.heap.size _ 0 [] rfl h0 A0 _ c0 b0 rfl rfl hr1 (by omega) (by simp) ?_; intro v6 w6 hown6 hg6 _; have b6 : Below w.heap.size w w6 := ((Below.refl _ _).alloc (Nat.le_refl _) _).trans (below_of_grown hg6 (by simp) (fun k hk => (h0.lt k hk).1)))
    | (at_builtin; refine app8 _ rfl (.tmp 21) (.tmp 22) rfl w.heap.size v6 _ _ rfl hown6 A1 b1.length c1 b1 rfl rfl (r1.below b6) (by omega) b6.size ?_; intro v7 w7 hown7 hg7 _))
  obtain ⟨A7, c7, hv7, _⟩ := own_shape hown7
  subst hv7
  have b7 : Below w.heap.size w w7 := b6.trans (below_of_grown hg7 b6.size (fun k hk => (hown6.lt k hk).1))
  refine (sum_is A7 _ c7 (b0 ++ b1) w7 z (rd_own hown7) (By.append y0 y1) (by simp) (by omega) HZ.out).mono ?_
  rintro e w8 ⟨rfl, b8w⟩
  have b8' := b7.trans (b8w.mono b7.size)
  clear hown7 hown6 hg6 hg7 h0 hr1 b6 b7 b8w
  go_wp2_with fail
  refine (sum_is A0 _ c0 b0 w8 x (r0.below b8') y0 rfl (by omega) HX.out).mono ?_
  rintro e w9 ⟨rfl, b9⟩
  have b9' := b8'.trans (b9.mono b8'.size)
  clear b8' b9
  go_wp2_with fail
  refine (ext_is x A1 _ c1 b1 w9 z x32 (r1.below b9') y1 rfl (by omega) H1.out).mono ?_
  rintro e w10 ⟨rfl, b10⟩
  have b10' := b9'.trans (b10.mono b9'.size)
  clear b9' b10
  go_wp2_with fail
  refine (sum_is A0 _ c0 b0 w10 x (r0.below b10') y0 rfl (by omega) HX.out).mono ?_
  rintro e w11 ⟨rfl, b11⟩
  have b11' := b10'.trans (b11.mono b10'.size)
  clear b10' b11
  go_wp2_with fail
  refine (sum_is A1 _ c1 b1 w11 y (r1.below b11') y1 rfl (by omega) HY.out).mono ?_
  rintro e w12 ⟨rfl, b12⟩
  have b12' := b11'.trans (b12.mono b11'.size)
  clear b11' b12
  go_wp2_with fail
  refine (join_is x y b1.length w12 z x32 y32 (by omega) (by omega) H2.out).mono ?_
  rintro e w13 ⟨rfl, b13⟩
  have b13' := b12'.trans (b13.mono b12'.size)
  clear b12' b13
  go_wp2_with fail
  refine (ext_is z none 0 0 [] w13 z z32 (Rd.nil_ _ _) (fun b hb => by cases hb) rfl (by omega) H3.out).mono ?_
  rintro e w14 ⟨rfl, b14⟩
  have b14' := b13'.trans (b14.mono b13'.size)
  clear b13' b14 HX HY HZ H1 H2 H3 r0 r1 y0 y1
  rcases hcase with hbad | ⟨g1, g2, g3, g4⟩
  · obtain ⟨q, hq⟩ : ∃ q, q = Crc.join a2 a3 (-1 : Int).toNat := ⟨_, rfl⟩
    have hqx : bits .xor .u32 (a2 : Int) (a3 : Int) = (q : Int) := by
      rw [hq, u32_xor_nat a2 a3 w2 w3, show (-1 : Int).toNat = 0 from rfl]; unfold Crc.join; rw [Nat.mul_zero, Crc.Mi_none]
    have HQ := Lib.hid hq
    clear hq
    have hbad' : (decide (a5 < 0) = true) ∨ (decide (a5 < 0) = false ∧ decide (a6 < 0) = true) ∨ (decide (a5 < 0) = false ∧ decide (a6 < 0) = false ∧ decide (2305843009213693952 < a5) = true) ∨ (decide (a5 < 0) = false ∧ decide (a6 < 0) = false ∧ decide (2305843009213693952 < a5) = false ∧ decide (2305843009213693952 < a6) = true) := by
      simp only [decide_eq_true_eq, decide_eq_false_iff_not]; omega
    clear hbad
    rcases hbad' with t1 | ⟨t1, t2⟩ | ⟨t1, t2, t3⟩ | ⟨t1, t2, t3, t4⟩
    all_goals
      go_wp2_with fail
      refine (join_is a2 a3 (-1) w14 q w2 w3 (by omega) (by omega) HQ.out).mono ?_
      rintro e w15 ⟨rfl, b15⟩
      have b15' := b14'.trans (b15.mono b14'.size)
      clear b14' b15
      go_wp2_with fail
      go_ret
      exact ⟨by first | rfl | exact ret_i rfl | simp, b15'⟩
  · obtain ⟨p, hp⟩ : ∃ p, p = Crc.join a2 a3 a5.toNat := ⟨_, rfl⟩
    obtain ⟨q, hq⟩ : ∃ q, q = Crc.join a3 a4 a6.toNat := ⟨_, rfl⟩
    obtain ⟨r, hr⟩ : ∃ r, r = Crc.join p a4 a6.toNat := ⟨_, rfl⟩
    have p32 : p < 4294967296 := by rw [hp]; exact join_lt _ _ _ w2 w3
    have q32 : q < 4294967296 := by rw [hq]; exact join_lt _ _ _ w3 w4
    have hr2 : r = Crc.join a2 q (a5 + a6).toNat := by
      rw [hr, hp, hq, show (a5 + a6).toNat = a5.toNat + a6.toNat from by omega]
      exact Crc.join_assoc a2 a3 a4 a5.toNat a6.toNat
    have HP := Lib.hid hp
    have HQ := Lib.hid hq
    have HR := Lib.hid hr
    have HR2 := Lib.hid hr2
    clear hp hq hr hr2
    have t1 : decide (a5 < 0) = false := by simp; omega
    have t2 : decide (a6 < 0) = false := by simp; omega
    have t3 : decide (2305843009213693952 < a5) = false := by simp; omega
    have t4 : decide (2305843009213693952 < a6) = false := by simp; omega
    go_wp2_with fail
    refine (join_is a2 a3 a5 w14 p w2 w3 (by omega) (by omega) HP.out).mono ?_
    rintro e w15 ⟨rfl, b15⟩
    have b15' := b14'.trans (b15.mono b14'.size)
    clear b14' b15
    go_wp2_with fail
    refine (join_is p a4 a6 w15 r p32 w4 (by omega) (by omega) HR.out).mono ?_
    rintro e w16 ⟨rfl, b16⟩
    have b16' := b15'.trans (b16.mono b15'.size)
    clear b15' b16
    go_wp2_with fail
    refine (join_is a3 a4 a6 w16 q w3 w4 (by omega) (by omega) HQ.out).mono ?_
    rintro e w17 ⟨rfl, b17⟩
    have b17' := b16'.trans (b17.mono b16'.size)
    clear b16' b17
    go_wp2_with fail
    refine (join_is a2 q (a5 + a6) w17 r w2 q32 (by omega) (by omega) HR2.out).mono ?_
    rintro e w18 ⟨rfl, b18⟩
    have b18' := b17'.trans (b18.mono b17'.size)
    clear b17' b18
    go_wp2_with fail
    go_ret
    exact ⟨by first | rfl | exact ret_i rfl | simp, b18'⟩
end Go.Proofs.Ytfgjlplfpjfnoaa
