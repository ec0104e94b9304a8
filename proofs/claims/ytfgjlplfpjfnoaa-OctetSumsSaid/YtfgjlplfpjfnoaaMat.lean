/- octet's matrix: of, twice, Join: what they return. -/
import Derived.Test.YtfgjlplfpjfnoaaSums
import Derived.Deep.RegionWith
import Derived.Deep.RegionHeld
import Derived.RegionTactic
import Derived.BigRegion
namespace Go.Proofs.Ytfgjlplfpjfnoaa
open Go Go.RowKit
set_option linter.unusedVariables false

theorem bit_split (i x : Nat) : 2 ^ i * x = (if x % 2 = 1 then 2 ^ i else 0) ^^^ 2 ^ (i + 1) * (x / 2) := by
  have h : x = x % 2 ^^^ 2 * (x / 2) := by
    apply Nat.eq_of_testBit_eq
    intro j
    rw [Nat.testBit_xor]
    cases j with
    | zero => simp [Nat.testBit_zero]
    | succ j =>
      have e1 : (x % 2).testBit (j + 1) = false := Nat.testBit_lt_two_pow (Nat.lt_of_lt_of_le (Nat.mod_lt _ (by omega)) (by rw [Nat.pow_succ]; have := Nat.one_le_two_pow (n := j); omega))
      rw [e1, Bool.false_xor, Nat.testBit_succ, Nat.testBit_succ]
      congr 1
      omega
  have h2 : ∀ a b : Nat, 2 ^ i * (a ^^^ b) = 2 ^ i * a ^^^ 2 ^ i * b := by
    intro a b
    apply Nat.eq_of_testBit_eq
    intro j
    simp only [Nat.testBit_xor, Nat.testBit_two_pow_mul]
    by_cases hj : i ≤ j <;> simp [hj]
  conv => lhs; rw [h]
  rw [h2]
  congr 1
  · split
    · rename_i h1; rw [h1, Nat.mul_one]
    · rw [show x % 2 = 0 from by omega, Nat.mul_zero]
  · rw [Nat.pow_succ, Nat.mul_assoc]

theorem Mi_step (K i x : Nat) : Crc.Mi K (2 ^ i * x) = (if x % 2 = 1 then Crc.Mi K (2 ^ i) else 0) ^^^ Crc.Mi K (2 ^ (i + 1) * (x / 2)) := by
  rw [bit_split i x, Crc.Mi_xor]
  congr 1
  split
  · rfl
  · exact Crc.Mi_zero K

def matv (K : Nat) : List Value := (List.range 32).map fun i => v32 (Crc.Mi K (2 ^ i))
theorem matv_length (K : Nat) : (matv K).length = 32 := by simp [matv]
theorem matv_get (K i : Nat) (h : i < 32) : (matv K)[i]? = some (.int .u32 ((Crc.Mi K (2 ^ i) : Nat) : Int)) := by
  unfold matv
  rw [List.getElem?_map, List.getElem?_range h]
  rfl
/-- A block that bears the matrix of so many steps. -/
def Mat (w : World) (g : Nat) (t : TypeId) (K : Nat) : Prop := w.heap[g]? = some (.cells (matv K).toArray t (0, 0))
theorem Mat.cell {w : World} {g : Nat} {t : TypeId} {K : Nat} (h : Mat w g t K) {i : Nat} (hi : i < 32) : w.cell? ⟨g, i, none⟩ = some (.int .u32 ((Crc.Mi K (2 ^ i) : Nat) : Int)) := by
  rw [cell_of_row w g i _ _ _ h]
  simpa using matv_get K i hi
theorem Mat.lt {w : World} {g : Nat} {t : TypeId} {K : Nat} (h : Mat w g t K) : g < w.heap.size := (Array.getElem?_eq_some_iff.1 h).1
theorem Mat.below {w w' : World} {g : Nat} {t : TypeId} {K : Nat} (h : Mat w g t K) (hb : Below w.heap.size w w') : Mat w' g t K := (hb.block g h.lt).trans h

theorem pow_lt_32 {i : Nat} (h : i < 32) : 2 ^ i < 4294967296 := Nat.pow_lt_pow_right (a := 2) (n := 32) (by omega) h

set_option maxHeartbeats 800000 in
set_option maxRecDepth 100000 in
theorem of_any (g K X : Nat) (w : World) (hm : Mat w g 103 K) (hX : X < 4294967296) :
    Calls Try.prog 81 #[.pointer (some ⟨g, 0, none⟩), .int .u32 (X : Int)] w fun e w' => e = .returned (.int .u32 ((Crc.Mi K X : Nat) : Int)) ∧ w = w' := by
  go_enter Try.func81, Try.ntmps81
  go_wp2_with fail
  go_loop [1, 5, 6] (fun vx vy vi => ∃ i x y : Nat, vi = .int .i64 (i : Int) ∧ vx = .int .u32 (x : Int) ∧ vy = .int .u32 (y : Int) ∧ i ≤ 32 ∧ Hid (x < 2 ^ (32 - i)) ∧ x < 4294967296 ∧ y < 4294967296 ∧ Hid (Crc.Mi K X = y ^^^ Crc.Mi K (2 ^ i * x))) (fun vx _ _ => (intOf vx).toNat)
  case atStart => exact ⟨0, X, 0, rfl, rfl, rfl, by omega, hX, hX, by omega, by simp [Hid]⟩
  case round =>
    obtain ⟨i, x, y, rfl, rfl, rfl, hi, HX, hx, hy, H⟩ := hrel
    by_cases h0 : x = 0
    · have hF : Crc.Mi K X = y := by rw [H.out, h0, Nat.mul_zero, Crc.Mi_zero, Nat.xor_zero]
      have hb : ((x : Int) != 0) = false := by rw [bne_eq_false_iff_eq]; omega
      have HF := Lib.hid hF
      clear hF H h0
      go_wp2_with fail
      go_ret
      exact ⟨by rw [HF.out]; rfl, rfl⟩
    · have hb : ((x : Int) != 0) = true := by rw [bne_iff_ne]; omega
      have hpos : 0 < x := by omega
      have hi32 : i < 32 := by
        rcases Nat.lt_or_ge i 32 with h | h
        · exact h
        · have := HX.out
          rw [show 32 - i = 0 from by omega] at this
          omega
      have hS := Mi_step K i x
      have hnext : x / 2 < 2 ^ (32 - (i + 1)) := by
        have := HX.out
        rw [show 32 - i = (32 - (i + 1)) + 1 from by omega, Nat.pow_succ] at this
        omega
      have HN := Lib.hid hnext
      have ha := and1_u32 x hx
      by_cases ho : x % 2 = 1
      · rw [if_pos ho] at hS
        have hb2 : (bits .and .u32 (x : Int) 1 != 0) = true := by rw [ha, bne_iff_ne]; omega
        have hc := hm.cell hi32
        obtain ⟨t, ht⟩ : ∃ t, t = Crc.Mi K (2 ^ i) := ⟨_, rfl⟩
        have ht32 : t < 4294967296 := by rw [ht]; exact Crc.Mi_lt K (pow_lt_32 hi32)
        rw [← ht] at hc hS
        have hxy := u32_xor_nat y t hy ht32
        have hz32 : y ^^^ t < 4294967296 := Crc.xor_lt (n := 32) hy ht32
        obtain ⟨z, hz⟩ : ∃ z, z = y ^^^ t := ⟨_, rfl⟩
        rw [← hz] at hxy hz32
        have hF : Crc.Mi K X = z ^^^ Crc.Mi K (2 ^ (i + 1) * (x / 2)) := by rw [H.out, hS, hz, Nat.xor_assoc]
        have HF := Lib.hid hF
        clear hF hS H ha ho ht hz h0 hnext
        go_wp2_with fail
        go_round
        case rel => exact ⟨i + 1, x / 2, z, by go_num, by go_num, rfl, by omega, HN, by omega, hz32, HF⟩
        case measure => simp [intOf]; omega
      · rw [if_neg ho, Nat.zero_xor] at hS
        have hb2 : (bits .and .u32 (x : Int) 1 != 0) = false := by rw [ha, bne_eq_false_iff_eq]; omega
        have hF : Crc.Mi K X = y ^^^ Crc.Mi K (2 ^ (i + 1) * (x / 2)) := by rw [H.out, hS]
        have HF := Lib.hid hF
        clear hF hS H ha ho hnext
        go_wp2_with fail
        go_round
        case rel => exact ⟨i + 1, x / 2, y, by go_num, by go_num, rfl, by omega, HN, by omega, hy, HF⟩
        case measure => simp [intOf]; omega

def matTo (K k : Nat) : List Value := (List.range k).map (fun i => v32 (Crc.Mi K (2 ^ i))) ++ List.replicate (32 - k) (v32 0)
theorem matTo_length (K k : Nat) (h : k ≤ 32) : (matTo K k).length = 32 := by simp [matTo]; omega
theorem matTo_get (K k : Nat) (h : k < 32) : (matTo K k)[k]? = some (v32 0) := by
  unfold matTo
  rw [List.getElem?_append_right (by simp), List.getElem?_replicate, if_pos (by simp; omega)]
theorem matTo_set (K k : Nat) (h : k < 32) : (matTo K k).set k (v32 (Crc.Mi K (2 ^ k))) = matTo K (k + 1) := by
  unfold matTo
  rw [List.set_append_right _ _ (by simp)]
  obtain ⟨m, hm⟩ : ∃ m, 32 - k = m + 1 := ⟨31 - k, by omega⟩
  rw [hm, show 32 - (k + 1) = m from by omega, List.range_succ]
  simp [List.replicate_succ]
theorem matTo_full (K : Nat) : matTo K 32 = matv K := by simp [matTo, matv]
theorem matTo_zero (K : Nat) : matTo K 0 = List.replicate 32 (v32 0) := by simp [matTo]

def TwicePost (w : World) (t : TypeId) (K : Nat) (e : Ending) (w' : World) : Prop :=
  ∃ g, e = .returned (.pointer (some ⟨g, 0, none⟩)) ∧ w.heap.size ≤ g ∧ Mat w' g t K ∧ Below w.heap.size w w'

set_option maxHeartbeats 800000 in
set_option maxRecDepth 100000 in
theorem twice_any (g K : Nat) (w : World) (hm : Mat w g 103 K) :
    Calls Try.prog 80 #[.pointer (some ⟨g, 0, none⟩)] w fun e w' => TwicePost w 103 (K + K) e w' := by
  have hgl := hm.lt
  go_enter Try.func80, Try.ntmps80
  go_wp2_with fail
  go_loopw [7] (fun vi wr => ∃ i : Nat, i ≤ 32 ∧ vi = .int .i64 (i : Int) ∧ Hid (wr.heap[w.heap.size]? = some (.cells (matTo (K + K) i).toArray 103 (0, 0))) ∧ Below w.heap.size w wr) (fun vi _ => 32 - (intOf vi).toNat)
  case atStart => exact ⟨0, by omega, rfl, by rw [matTo_zero]; exact heap_alloc_new w _, (Below.refl _ _).alloc (Nat.le_refl _) _⟩
  case round =>
    obtain ⟨i, hi, rfl, H, hb⟩ := hrel
    by_cases hlt : i < 32
    · have hmr : Mat wr g 103 K := (hb.block g hgl).trans hm
      have hc := hmr.cell hlt
      obtain ⟨t, ht⟩ : ∃ t, t = Crc.Mi K (2 ^ i) := ⟨_, rfl⟩
      have ht32 : t < 4294967296 := by rw [ht]; exact Crc.Mi_lt K (pow_lt_32 hlt)
      rw [← ht] at hc
      have hz : Crc.Mi K t = Crc.Mi (K + K) (2 ^ i) := by rw [ht, Crc.Mi_add]
      have hcz : wr.cell? ⟨w.heap.size, i, none⟩ = some (.int .u32 0) := by
        rw [cell_of_row wr _ i _ _ _ H.out]
        simpa [v32] using matTo_get (K + K) i hlt
      have hf : wr.frozen? ⟨w.heap.size, i, none⟩ = false := frozen_of_row wr _ i _ _ H.out
      have hne : g ≠ w.heap.size := by omega
      have HM := Lib.hid (show Mat wr.drew g 103 K from hmr)
      have HZ := Lib.hid hz
      have i0 : (0 : Int) ≤ (i : Int) := by omega
      have i1 : (i : Int) < 32 := by omega
      clear ht hz hmr hm
      go_wp2_with fail
      go_region_with (go_at_call 81; refine (of_any g K t _ HM.out ht32).mono ?_; rintro e w' ⟨rfl, rfl⟩)
      rw [HZ.out]
      go_wp2_with fail
      go_roundw
      case rel =>
        refine ⟨i + 1, by omega, by go_num, ?_, (hb.setCell (Nat.le_refl _) _).drew⟩
        have := heap_setCell_same wr w.heap.size i _ _ (v32 (Crc.Mi (K + K) (2 ^ i))) H.out
        rw [List.setIfInBounds_toArray, matTo_set (K + K) i hlt] at this
        exact this
      case measure => simp [intOf]; omega
    · have hi32 : i = 32 := by omega
      subst hi32
      have hM := H.out
      rw [matTo_full] at hM
      have HM := Lib.hid hM
      clear hM H
      go_wp2_with fail
      go_ret
      exact ⟨_, rfl, Nat.le_refl _, HM.out, hb⟩

theorem Mi_one (x : Nat) : Crc.Mi 1 x = Crc.M x := by
  have := Crc.Mi_more 0 x
  rw [Crc.Mi_none] at this
  exact this

/-- A turn of the reckoning by a number's binary digits. -/
theorem join_odd (K n a : Nat) (h : n % 2 = 1) : Crc.Mi (K * n) a = Crc.Mi ((K + K) * (n / 2)) (Crc.Mi K a) := by
  have e : K * n = K + (K + K) * (n / 2) := by
    have h2 : n = 2 * (n / 2) + 1 := by omega
    generalize n / 2 = m at h2 ⊢
    subst h2
    rw [Nat.mul_add, Nat.mul_one, Nat.add_comm, ← Nat.mul_assoc, Nat.mul_two]
  rw [e, Crc.Mi_add]
theorem join_even (K n a : Nat) (h : n % 2 = 0) : Crc.Mi (K * n) a = Crc.Mi ((K + K) * (n / 2)) a := by
  have e : K * n = (K + K) * (n / 2) := by
    have h2 : n = 2 * (n / 2) := by omega
    generalize n / 2 = m at h2 ⊢
    subst h2
    rw [← Nat.mul_assoc, Nat.mul_two]
  rw [e]

theorem i64_and_one (n : Nat) (h : n < 9223372036854775808) : bits .and .i64 (n : Int) 1 = ((n % 2 : Nat) : Int) := by
  have h1 : (BitVec.ofInt 64 (n : Int)).toNat = n := ofInt_u64 n (by omega)
  show IntKind.i64.wrap ((BitVec.ofInt 64 (n : Int) &&& BitVec.ofInt 64 1).toNat : Int) = _
  rw [BitVec.toNat_and, h1, show (BitVec.ofInt 64 1).toNat = 1 from by decide, nat_mask1, IntKind.wrap_i64]
  omega

def JoinPost (w : World) (z : Nat) (e : Ending) (w' : World) : Prop := e = .returned (.int .u32 (z : Int)) ∧ Below w.heap.size w w'

set_option maxHeartbeats 1600000 in
set_option maxRecDepth 100000 in
theorem join_any (a b : Nat) (n : Int) (w : World) (ha : a < 4294967296) (hb : b < 4294967296) (hn : -9223372036854775808 ≤ n) (hn' : n ≤ 9223372036854775807) :
    Calls Try.prog 44 #[.int .u32 (a : Int), .int .u32 (b : Int), .int .i64 n] w fun e w' => JoinPost w (Crc.join a b n.toNat) e w' := by
  have hcase : ∃ N : Nat, n.toNat = N ∧ N < 9223372036854775808 ∧ ((0 ≤ n ∧ n = (N : Int)) ∨ (n < 0 ∧ N = 0)) := ⟨n.toNat, rfl, by omega, by omega⟩
  obtain ⟨N, hN, hN63, hcase⟩ := hcase
  rw [hN]
  clear hN
  rcases hcase with ⟨hpos, hnN⟩ | ⟨hneg, hz⟩
  all_goals
    first
      | (have HZ := Lib.hid hz
         clear hz)
      | (subst hnN
         have HZ : True := trivial)
    go_enter Try.func44, Try.ntmps44
    go_wp2_with fail
    go_loopw [11] (fun vi wr => ∃ i : Nat, i ≤ 32 ∧ vi = .int .i64 (i : Int) ∧ Hid (wr.heap[w.heap.size]? = some (.cells (matTo 1 i).toArray 103 (0, 0))) ∧ Below w.heap.size w wr) (fun vi _ => 32 - (intOf vi).toNat)
    case atStart => exact ⟨0, by omega, rfl, by rw [matTo_zero]; exact heap_alloc_new w _, (Below.refl _ _).alloc (Nat.le_refl _) _⟩
    case round =>
      obtain ⟨i, hi, rfl, H, hbel⟩ := hrel
      by_cases hlt : i < 32
      · have hcz : wr.cell? ⟨w.heap.size, i, none⟩ = some (.int .u32 0) := by
          rw [cell_of_row wr _ i _ _ _ H.out]
          simpa [v32] using matTo_get 1 i hlt
        have hf : wr.frozen? ⟨w.heap.size, i, none⟩ = false := frozen_of_row wr _ i _ _ H.out
        have i0 : (0 : Int) ≤ (i : Int) := by omega
        have i1 : (i : Int) < 32 := by omega
        obtain ⟨t, ht⟩ : ∃ t, t = 2 ^ i := ⟨_, rfl⟩
        have ht32 : t < 4294967296 := by rw [ht]; exact pow_lt_32 hlt
        have hM : Crc.M t = Crc.Mi 1 (2 ^ i) := by rw [ht, Mi_one]
        have hp : IntKind.u32.wrap ((2 : Int) ^ i) = (t : Int) := by
          have h3 : ((2 : Int) ^ i) = ((2 ^ i : Nat) : Int) := (Int.natCast_pow 2 i).symm
          rw [h3, ← ht]
          exact IntWalk.u32_in _ (by omega)
        have HM := Lib.hid hM
        clear ht hM
        go_wp2_with fail
        go_region_with (go_at_call 79; ((with_reducible refine (step_any t _ ht32).mono ?_)); rintro e w' ⟨rfl, rfl⟩)
        rw [HM.out]
        go_wp2_with fail
        go_roundw
        case rel =>
          refine ⟨i + 1, by omega, by go_num, ?_, (hbel.setCell (Nat.le_refl _) _).drew⟩
          have := heap_setCell_same wr w.heap.size i _ _ (v32 (Crc.Mi 1 (2 ^ i))) H.out
          rw [List.setIfInBounds_toArray, matTo_set 1 i hlt] at this
          exact this
        case measure => simp [intOf]; omega
      · have hi32 : i = 32 := by omega
        have hge : 32 ≤ i := by omega
        have hM := H.out
        rw [hi32, matTo_full] at hM
        have HM := Lib.hid (show Mat wr w.heap.size 103 (2 ^ 0) from hM)
        clear hM H hi32
        obtain ⟨wo, hwo⟩ : ∃ wo : World, wo = wr := ⟨_, rfl⟩
        rw [← hwo] at HM hbel ⊢
        clear hwo
        go_wp2_with fail
        go_loopw [7, 22] (fun vm vi wr => ∃ (i g : Nat), i ≤ 3 ∧ vi = .int .i64 (i : Int) ∧ vm = .pointer (some ⟨g, 0, none⟩) ∧ Hid (Mat wr g 103 (2 ^ i)) ∧ Below w.heap.size w wr) (fun _ vi _ => 3 - (intOf vi).toNat)
        case atStart => exact ⟨0, _, by omega, rfl, rfl, HM, hbel⟩
        case round =>
          obtain ⟨j, g, hj, rfl, rfl, H, hbel2⟩ := hrel
          by_cases hlt3 : j < 3
          · go_wp2_with fail
            refine (twice_any g (2 ^ j) _ H.out).mono ?_
            rintro e w2 ⟨g2, rfl, hg2, hM2, hb2⟩
            have HM2 := Lib.hid hM2
            clear hM2
            go_wp2_with fail
            go_roundw
            case rel => exact ⟨j + 1, g2, by omega, by go_num, rfl, by rw [Nat.pow_succ, Nat.mul_two]; exact HM2, hbel2.trans (hb2.mono hbel2.size)⟩
            case measure => simp [intOf]; omega
          · have hj3 : j = 3 := by omega
            have hge3 : 3 ≤ j := by omega
            have hM8 := H.out
            rw [hj3] at hM8
            have HM8 := Lib.hid (show Mat wr g 103 8 from hM8)
            clear hM8 hj3 H
            obtain ⟨wo2, hwo⟩ : ∃ wo2 : World, wo2 = wr := ⟨_, rfl⟩
            rw [← hwo] at HM8 hbel2 ⊢
            clear hwo HM hbel
            go_wp2_with fail
            go_loopw [0, 2, 7] (fun va vn vm wr => ∃ (x k K g : Nat), va = .int .u32 (x : Int) ∧ vn = .int .i64 (k : Int) ∧ vm = .pointer (some ⟨g, 0, none⟩) ∧ x < 4294967296 ∧ k ≤ N ∧ Hid (Mat wr g 103 K) ∧ Hid (Crc.Mi (8 * N) a = Crc.Mi (K * k) x) ∧ Below w.heap.size w wr) (fun _ vn _ _ => (intOf vn).toNat)
            case atStart => exact ⟨a, N, 8, g, rfl, by first | rfl | (rw [HZ.out]; rfl), rfl, ha, Nat.le_refl _, HM8, rfl, hbel2⟩
            case round =>
              obtain ⟨x, k, K, gk, rfl, rfl, rfl, hx, hk, HM, HE, hbel3⟩ := hrel
              by_cases h0 : 0 < k
              · have hand := i64_and_one k (by omega)
                by_cases ho : k % 2 = 1
                · have hbt : (bits .and .i64 (k : Int) 1 != 0) = true := by rw [hand, bne_iff_ne]; omega
                  have hnext := HE.out.trans (join_odd K k x ho)
                  obtain ⟨y, hy⟩ : ∃ y, y = Crc.Mi K x := ⟨_, rfl⟩
                  have hy32 : y < 4294967296 := by rw [hy]; exact Crc.Mi_lt K hx
                  rw [← hy] at hnext
                  have HY := Lib.hid hy
                  have HN := Lib.hid hnext
                  clear hand ho hnext hy
                  go_wp2_with fail
                  refine (of_any gk K x _ HM.out hx).mono ?_
                  rintro e w3 ⟨rfl, rfl⟩
                  rw [← HY.out]
                  go_wp2_with fail
                  refine (twice_any gk K _ HM.out).mono ?_
                  rintro e w4 ⟨g4, rfl, hg4, hM4, hb4⟩
                  have HM4 := Lib.hid hM4
                  clear hM4
                  go_wp2_with fail
                  go_roundw
                  case rel => exact ⟨y, k / 2, K + K, g4, rfl, by go_num, rfl, hy32, by omega, HM4, HN, hbel3.trans (hb4.mono hbel3.size)⟩
                  case measure => simp [intOf]; omega
                · have hbt : (bits .and .i64 (k : Int) 1 != 0) = false := by rw [hand, bne_eq_false_iff_eq]; omega
                  have hnext := HE.out.trans (join_even K k x (by omega))
                  have HN := Lib.hid hnext
                  clear hand ho hnext
                  go_wp2_with fail
                  refine (twice_any gk K _ HM.out).mono ?_
                  rintro e w4 ⟨g4, rfl, hg4, hM4, hb4⟩
                  have HM4 := Lib.hid hM4
                  clear hM4
                  go_wp2_with fail
                  go_roundw
                  case rel => exact ⟨x, k / 2, K + K, g4, rfl, by go_num, rfl, hx, by omega, HM4, HN, hbel3.trans (hb4.mono hbel3.size)⟩
                  case measure => simp [intOf]; omega
              · have hfin : Crc.join a b N = x ^^^ b := by
                  unfold Crc.join
                  rw [HE.out, show k = 0 from by omega, Nat.mul_zero, Crc.Mi_none]
                have hxb := u32_xor_nat x b hx hb
                rw [← hfin] at hxb
                have HX := Lib.hid hxb
                clear hxb hfin
                go_wp2_with fail
                go_ret
                exact ⟨ret_i HX.out, hbel3⟩
end Go.Proofs.Ytfgjlplfpjfnoaa
