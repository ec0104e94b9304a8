/- The reference's Patch: what it returns. -/
import Derived.Test.YtfgjlplfpjfnoaaRefSums
namespace Go.Proofs.Ytfgjlplfpjfnoaa
open Go Go.RowKit
set_option linter.unusedVariables false

def backs : Nat → Nat → Nat
  | 0, y => y
  | i + 1, y => less1 (backs i y)
theorem backs_lt {y : Nat} (h : y < 4294967296) : ∀ i, backs i y < 4294967296
  | 0 => h
  | i + 1 => less1_lt (backs_lt h i)
theorem Mi_backs {y : Nat} (h : y < 4294967296) : ∀ i, Crc.Mi i (backs i y) = y
  | 0 => by rw [Crc.Mi_none]; rfl
  | i + 1 => by rw [Crc.Mi_more, backs, M_less1 (backs_lt h i), Mi_backs h i]

/-- The bytes of a number, the lowest first. -/
def leTo (y k : Nat) : List Nat := (List.range k).map fun i => y / 256 ^ i % 256
theorem leTo_more (y k : Nat) : leTo y (k + 1) = leTo y k ++ [y / 256 ^ k % 256] := by simp [leTo, List.range_succ]
theorem leTo_lt (y k : Nat) : ∀ b ∈ leTo y k, b < 256 := by
  intro b hb
  obtain ⟨i, _, rfl⟩ := List.mem_map.1 hb
  exact Nat.mod_lt _ (by omega)
theorem byte_off (y : Nat) : y % 256 ^^^ 256 * (y / 256) = y := by
  apply Nat.eq_of_testBit_eq
  intro j
  rw [Nat.testBit_xor, show 256 * (y / 256) = 2 ^ 8 * (y / 256) from rfl, Nat.testBit_two_pow_mul, show (256 : Nat) = 2 ^ 8 from rfl, Nat.testBit_mod_two_pow, ← Nat.shiftRight_eq_div_pow, Nat.testBit_shiftRight]
  by_cases hj : 8 ≤ j
  · rw [show 8 + (j - 8) = j from by omega]; simp [hj, show ¬ j < 8 from by omega]
  · simp [hj, show j < 8 from by omega]
theorem num_le (y : Nat) (h : y < 4294967296) : Pat.num (leTo y 4) = y := by
  have e : leTo y 4 = [y % 256, y / 256 % 256, y / 256 / 256 % 256, y / 256 / 256 / 256 % 256] := by
    simp [leTo, List.range_succ, Nat.div_div_eq_div_mul]
  rw [e]
  simp only [Pat.num, Nat.mul_zero, Nat.xor_zero]
  have e3 : y / 256 / 256 / 256 % 256 = y / 256 / 256 / 256 := by omega
  rw [e3, byte_off (y / 256 / 256), byte_off (y / 256), byte_off y]

/-- The bytes found by going back are those that the table finds. -/
theorem le_patch (bs : List Nat) (want s y0 r z : Nat) (hw : want < 4294967296) (hby : By bs) (hs : s = Crc.ext 0 bs) (hy0 : y0 = want ^^^ Crc.ones) (hr : r = s ^^^ Crc.ones) (hz : z = backs 32 y0 ^^^ r) : leTo z 4 = Pat.patch bs want := by
  have hs32 : s < 2 ^ 32 := by rw [hs]; exact Crc.ext_lt (by omega) hby
  have hy32 : y0 < 2 ^ 32 := by rw [hy0]; exact Crc.xor_lt hw Crc.ones_lt
  have hr32 : r < 2 ^ 32 := by rw [hr]; exact Crc.xor_lt hs32 Crc.ones_lt
  have hz32 : z < 2 ^ 32 := by rw [hz]; exact Crc.xor_lt (backs_lt hy32 32) hr32
  have hp : Pat.patch bs want = Pat.rowTo y0 r 8 := by rw [hy0, hr, hs]; rfl
  rw [hp]
  have hrow := Pat.reg_row y0 r hy32 hr32
  have h2 : Crc.reg r (leTo z 4) = y0 := by
    rw [Pat.reg_num, num_le z hz32, show (leTo z 4).length = 4 from by simp [leTo], hz, Nat.xor_comm (backs 32 y0) r, ← Nat.xor_assoc, Nat.xor_self, Nat.zero_xor]
    exact Mi_backs hy32 32
  rw [Pat.reg_num] at hrow
  rw [Pat.reg_num, ← hrow, show (leTo z 4).length = 4 from by simp [leTo], show (Pat.rowTo y0 r 8).length = 4 from rfl] at h2
  have t32 : Pat.num (leTo z 4) < 2 ^ 32 := by rw [num_le z hz32]; exact hz32
  have u32 : Pat.num (Pat.rowTo y0 r 8) < 2 ^ 32 := Pat.num_lt (Pat.rowTo y0 r 8) (Pat.row_by hy32 8)
  have h3 := Crc.Mi_inj (Crc.xor_lt hr32 t32) (Crc.xor_lt hr32 u32) h2
  have h6 : r ^^^ (r ^^^ Pat.num (leTo z 4)) = r ^^^ (r ^^^ Pat.num (Pat.rowTo y0 r 8)) := by rw [h3]
  rw [← Nat.xor_assoc, Nat.xor_self, Nat.zero_xor, ← Nat.xor_assoc, Nat.xor_self, Nat.zero_xor] at h6
  exact Pat.num_inj _ _ (leTo_lt z 4) (Pat.row_by hy32 8) (by rw [show (leTo z 4).length = 4 from by simp [leTo]]; rfl) h6

set_option maxHeartbeats 800000 in
set_option maxRecDepth 100000 in
theorem rpatch_any (A : Option Addr) (n c : Nat) (bs : List Nat) (want : Nat) (w : World) (hr : Rd w A (b8 bs)) (hby : By bs) (hn : bs.length = n) (hl : n ≤ 140737488355328) (hw : want < 4294967296) :
    Calls Try.prog 52 #[.slice A n c, .int .u32 (want : Int)] w fun e w' => Got8 w w' e (Pat.patch bs want) := by
  obtain ⟨y0, hy0⟩ : ∃ y0, y0 = want ^^^ Crc.ones := ⟨_, rfl⟩
  have hy32 : y0 < 4294967296 := by rw [hy0]; exact Crc.xor_lt (n := 32) hw Crc.ones_lt
  have hx : bits .xor .u32 IntKind.u32.max (want : Int) = (y0 : Int) := by rw [hy0]; exact xor_max want hw
  obtain ⟨s, hs⟩ : ∃ s, s = Crc.ext 0 bs := ⟨_, rfl⟩
  obtain ⟨r, hrr⟩ : ∃ r, r = s ^^^ Crc.ones := ⟨_, rfl⟩
  have hs32 : s < 4294967296 := by rw [hs]; exact Crc.ext_lt (by omega) hby
  have hr32 : r < 4294967296 := by rw [hrr]; exact Crc.xor_lt (n := 32) hs32 Crc.ones_lt
  have hsx : bits .xor .u32 IntKind.u32.max (s : Int) = (r : Int) := by rw [hrr]; exact xor_max s hs32
  obtain ⟨q, hq⟩ : ∃ q, q = backs 32 y0 := ⟨_, rfl⟩
  have hq32 : q < 4294967296 := by rw [hq]; exact backs_lt hy32 32
  obtain ⟨z, hz⟩ : ∃ z, z = q ^^^ r := ⟨_, rfl⟩
  have hz32 : z < 4294967296 := by rw [hz]; exact Crc.xor_lt (n := 32) hq32 hr32
  have hqz : bits .xor .u32 (q : Int) (r : Int) = (z : Int) := by rw [hz]; exact u32_xor_nat q r hq32 hr32
  have HP := Lib.hid (le_patch bs want s y0 r z hw hby hs hy0 hrr (by rw [hz, hq]))
  have HS := Lib.hid hs
  have HQ := Lib.hid hq
  clear hy0 hs hrr hq hz
  go_enter Try.func52, Try.ntmps52
  go_wp2_with fail
  go_loop [5, 6] (fun x i => ∃ j y : Nat, j ≤ 32 ∧ i = .int .i64 j ∧ x = .int .u32 (y : Int) ∧ y < 4294967296 ∧ Hid (y = backs j y0)) (fun _ i => 32 - (intOf i).toNat)
  case atStart => exact ⟨0, y0, by omega, rfl, by first | rfl | rw [hx], hy32, rfl⟩
  case round =>
    obtain ⟨j, y, hj, rfl, rfl, hy, HY⟩ := hrel
    by_cases hj8 : j < 32
    · obtain ⟨y1, hy1⟩ : ∃ y1, y1 = less1 y := ⟨_, rfl⟩
      have hnext : y1 = backs (j + 1) y0 := by rw [hy1, HY.out]; rfl
      have hm32 : y1 < 4294967296 := by rw [hy1]; exact less1_lt hy
      have HN := Lib.hid hnext
      have HY1 := Lib.hid hy1
      clear hnext hy1
      go_wp2_with fail
      refine (back_is y y1 _ hy HY1.out).mono ?_
      rintro e w' ⟨rfl, rfl⟩
      go_wp2_with fail
      go_round
      case rel => exact ⟨j + 1, y1, by omega, by go_num, rfl, hm32, HN⟩
      case measure => simp [intOf]; omega
    · have hj88 : j = 32 := by omega
      subst hj88
      have hyq : y = q := by rw [HY.out, HQ.out]
      subst hyq
      go_wp2_with fail
      refine (rsum_is A n c bs w s hr hby hn hl HS.out).mono ?_
      rintro e w' ⟨rfl, rfl⟩
      go_wp2_with fail
      obtain ⟨wo, hwo⟩ : ∃ wo : World, wo = w := ⟨_, rfl⟩
      have hown0 : w.ownsRow w.heap.size 5 1 (.slice none 0 0) 0 (b8 (leTo z 0)) := World.ownsRow_nil _ _ _ _
      go_loopw [5, 8, 9] (fun x t i wr => ∃ k y : Nat, k ≤ 4 ∧ i = .int .i64 k ∧ x = .int .u32 (y : Int) ∧ y < 4294967296 ∧ Hid (y = z / 256 ^ k) ∧ Hid (wr.ownsRow w.heap.size 5 1 t k (b8 (leTo z k))) ∧ Below w.heap.size w wr) (fun _ _ i _ => 4 - (intOf i).toNat)
      case atStart => exact ⟨0, z, by omega, rfl, by first | rfl | rw [hqz], hz32, by simp [Hid], hown0, Below.refl _ _⟩
      case round =>
        obtain ⟨k, y2, hk, rfl, rfl, hy2, HY2, H, hb⟩ := hrel
        have hsz := hb.size
        by_cases hlt : k < 4
        · have hbyte : y2 % 256 = z / 256 ^ k % 256 := by rw [HY2.out]
          have hnext : y2 / 256 = z / 256 ^ (k + 1) := by rw [HY2.out, Nat.div_div_eq_div_mul, Nat.pow_succ]
          obtain ⟨b, hbb⟩ : ∃ b, b = y2 % 256 := ⟨_, rfl⟩
          rw [← hbb] at hbyte
          have hb256 : b < 256 := by omega
          have HM := Lib.hid (show leTo z k ++ [b] = leTo z (k + 1) by rw [leTo_more, hbyte])
          have HN := Lib.hid hnext
          have HBB := Lib.hid hbb
          clear hbyte hnext hbb
          go_wp2_with (at_builtin; go_loud (refine push8 wr rfl (.tmp 28) (.tmp 32) rfl w.heap.size u8 k (leTo z k) rfl H.out _ b (by have := HBB.out; omega) rfl (by omega) (by omega) ?_); intro v' w1 hown1 hg1 _)
          have hb1 := hb.trans (below_of_grown hg1 hsz (fun j hj => (H.out.lt j hj).1))
          rw [HM.out] at hown1
          have HO := Lib.hid hown1
          clear hg1 H hown1
          go_wp2_with fail
          go_roundw
          case rel => exact ⟨k + 1, y2 / 256, by omega, by go_num, by go_num, by omega, HN, HO, hb1⟩
          case measure => simp [intOf]; omega
        · have hk4 : k = 4 := by omega
          subst hk4
          go_wp2_with fail
          go_ret
          exact got8_mk H.out (by rw [← HP.out]; simp [leTo]) (by rw [HP.out]) hb
end Go.Proofs.Ytfgjlplfpjfnoaa
