/- The reference's Join: what it returns. -/
import Derived.Test.YtfgjlplfpjfnoaaRefTwice
namespace Go.Proofs.Ytfgjlplfpjfnoaa
open Go Go.RowKit
set_option linter.unusedVariables false

theorem mat_set {w : World} {g : Nat} {t : TypeId} {K K' : Nat} (h : Mat w g t K) : Mat (w.setRow g (matv K').toArray) g t K' := setRow_heap w g _ _ _ (0, 0) h
theorem below_setRow {B : Nat} {w w' : World} (h : Below B w w') (g : Nat) (hg : B ≤ g) (cs : Array Value) : Below B w (w'.setRow g cs) :=
  h.trans ⟨rfl, rfl, rfl, by simp, fun i hi => setRow_other w' g i _ (by omega)⟩

set_option maxHeartbeats 1600000 in
set_option maxRecDepth 100000 in
theorem rjoin_is (a b : Nat) (n : Int) (w : World) (r : Nat) (ha : a < 4294967296) (hb : b < 4294967296) (hn : -9223372036854775808 ≤ n) (hn' : n ≤ 9223372036854775807) (hr : r = Crc.join a b n.toNat) :
    Calls Try.prog 51 #[.int .u32 (a : Int), .int .u32 (b : Int), .int .i64 n] w fun e w' => e = .returned (.int .u32 (r : Int)) ∧ Below w.heap.size w w' := by
  have hrr : r = Crc.Mi (8 * n.toNat) a ^^^ b := by rw [hr]; rfl
  have HRR := Lib.hid hrr
  clear hr hrr
  go_enter Try.func51, Try.ntmps51
  go_wp2_with fail
  go_loopw [8] (fun vi wr => ∃ i : Nat, i ≤ 32 ∧ vi = .int .i64 (i : Int) ∧ Hid (wr.heap[w.heap.size]? = some (.cells (matTo 1 i).toArray 102 (0, 0))) ∧ Below w.heap.size w wr) (fun vi _ => 32 - (intOf vi).toNat)
  case atStart => exact ⟨0, by omega, rfl, by rw [matTo_zero]; exact heap_alloc_new w _, (Below.refl _ _).alloc (Nat.le_refl _) _⟩
  case round =>
    obtain ⟨i, hi, rfl, H, hbel⟩ := hrel
    by_cases hlt : i < 32
    · have hcz : wr.cell? ⟨w.heap.size, i, none⟩ = some (.int .u32 0) := by
        rw [cell_of_row wr _ i _ _ _ H.out]
        simpa [v32] using matTo_get 1 i hlt
      have hf : wr.frozen? ⟨w.heap.size, i, none⟩ = false := frozen_of_row wr _ i _ _ H.out
      have i0 : (0 : Int) ≤ (i : Int) := by omega
      have i1 : (i : Int) < 32 := by omega
      obtain ⟨t, ht⟩ : ∃ t, t = 2 ^ i := ⟨_, rfl⟩
      have ht32 : t < 4294967296 := by rw [ht]; exact pow_lt_32 hlt
      have hM : Crc.M t = Crc.Mi 1 (2 ^ i) := by rw [ht, Mi_one]
      have hp : IntKind.u32.wrap ((2 : Int) ^ i) = (t : Int) := by
        have h3 : ((2 : Int) ^ i) = ((2 ^ i : Nat) : Int) := (Int.natCast_pow 2 i).symm
        rw [h3, ← ht]
        exact IntWalk.u32_in _ (by omega)
      have HM := Lib.hid hM
      clear ht hM
      go_wp2_with fail
      refine (rM_any t _ ht32).mono ?_
      rintro e w' ⟨rfl, rfl⟩
      rw [HM.out]
      go_wp2_with fail
      go_roundw
      case rel =>
        refine ⟨i + 1, by omega, by go_num, ?_, (hbel.setCell (Nat.le_refl _) _)⟩
        have := heap_setCell_same wr w.heap.size i _ _ (v32 (Crc.Mi 1 (2 ^ i))) H.out
        rw [List.setIfInBounds_toArray, matTo_set 1 i hlt] at this
        exact this
      case measure => simp [intOf]; omega
    · have hi32 : i = 32 := by omega
      subst hi32
      have hM := H.out
      rw [matTo_full] at hM
      have HM := Lib.hid (show Mat wr w.heap.size 102 1 from hM)
      clear hM H
      have hsz := hbel.size
      go_wp2_with (refine wpList_load_row rfl 102 (.tmp 7) rfl w.heap.size rfl _ _ _ _ HM.out Try.underlying102 rfl (info32.trans (by simp [matv_length])) ?_)
      refine (rtwice_any 1 wr).mono ?_
      rintro e w1 ⟨rfl, hb1⟩
      have HM1 := Lib.hid (HM.out.below hb1)
      have hbel1 := hbel.trans (hb1.mono hbel.size)
      clear HM hbel hb1
      go_wp2_with fail
      refine (rtwice_any (1 + 1) w1).mono ?_
      rintro e w2 ⟨rfl, hb2⟩
      have HM2 := Lib.hid (HM1.out.below hb2)
      have hbel2 := hbel1.trans (hb2.mono hbel1.size)
      clear HM1 hbel1 hb2
      go_wp2_with fail
      refine (rtwice_any (1 + 1 + (1 + 1)) w2).mono ?_
      rintro e w3 ⟨rfl, hb3⟩
      have HM3 := Lib.hid (HM2.out.below hb3)
      have hbel3 := hbel2.trans (hb3.mono hbel2.size)
      clear HM2 hbel2 hb3
      go_wp2_with (refine wpList_store_row rfl 102 (.tmp 7) (.tmp 22) rfl w.heap.size (matv (1 + 1 + (1 + 1) + (1 + 1 + (1 + 1)))).toArray rfl rfl _ _ HM3.out (info32.trans (by simp [matv_length])) (by simp [matv_length]) (matv_one _) ?_)
      have HM4 := Lib.hid (show Mat (w3.setRow w.heap.size (matv (1 + 1 + (1 + 1) + (1 + 1 + (1 + 1)))).toArray) w.heap.size 102 8 from mat_set HM3.out)
      have hbel4 := below_setRow hbel3 w.heap.size (Nat.le_refl _) (matv (1 + 1 + (1 + 1) + (1 + 1 + (1 + 1)))).toArray
      clear HM3 hbel3
      go_loopw [0, 9] (fun va vn wr => ∃ (x K : Nat) (k : Int), va = .int .u32 (x : Int) ∧ vn = .int .i64 k ∧ x < 4294967296 ∧ k ≤ 9223372036854775807 ∧ -9223372036854775808 ≤ k ∧ Hid (Mat wr w.heap.size 102 K) ∧ Hid (r = Crc.Mi (K * k.toNat) x ^^^ b) ∧ Below w.heap.size w wr) (fun _ vn _ => (intOf vn).toNat)
      case atStart => exact ⟨a, 8, n, rfl, rfl, ha, hn', hn, HM4, HRR, hbel4⟩
      case round =>
        obtain ⟨x, K, k, rfl, rfl, hx, hk, hk', HM, HE, hbel⟩ := hrel
        by_cases h0 : 0 < k
        · obtain ⟨m, hm⟩ : ∃ m : Nat, k = (m : Int) := ⟨k.toNat, by omega⟩
          subst hm
          have hE := HE.out
          rw [Int.toNat_natCast] at hE
          by_cases ho : m % 2 = 1
          · have hbt : ((m : Int) % 2 == 1) = true := by rw [beq_iff_eq]; omega
            rw [join_odd K m x ho] at hE
            obtain ⟨y, hy⟩ : ∃ y, y = Crc.Mi K x := ⟨_, rfl⟩
            have hy32 : y < 4294967296 := by rw [hy]; exact Crc.Mi_lt K hx
            rw [← hy] at hE
            have HY := Lib.hid hy
            have HN := Lib.hid hE
            clear hE hy HE ho
            go_wp2_with (refine wpList_load_row rfl 102 (.tmp 7) rfl w.heap.size rfl _ _ _ _ HM.out Try.underlying102 rfl (info32.trans (by simp [matv_length])) ?_)
            refine (rof_any K x y _ hx HY.out).mono ?_
            rintro e w5 ⟨rfl, hb5⟩
            have HM5 := Lib.hid (HM.out.below hb5)
            have hbel5 := hbel.trans (hb5.mono hbel.size)
            clear HM hbel hb5
            go_wp2_with (refine wpList_load_row rfl 102 (.tmp 7) rfl w.heap.size rfl _ _ _ _ HM5.out Try.underlying102 rfl (info32.trans (by simp [matv_length])) ?_)
            refine (rtwice_any K w5).mono ?_
            rintro e w6 ⟨rfl, hb6⟩
            have HM6 := Lib.hid (HM5.out.below hb6)
            have hbel6 := hbel5.trans (hb6.mono hbel5.size)
            clear HM5 hbel5 hb6
            go_wp2_with (refine wpList_store_row rfl 102 (.tmp 7) (.tmp 35) rfl w.heap.size (matv (K + K)).toArray rfl rfl _ _ HM6.out (info32.trans (by simp [matv_length])) (by simp [matv_length]) (matv_one _) ?_)
            go_roundw
            case rel => exact ⟨y, K + K, ((m / 2 : Nat) : Int), rfl, by go_num, hy32, by omega, by omega, mat_set HM6.out, HN, below_setRow hbel6 _ (Nat.le_refl _) _⟩
            case measure => simp [intOf]; omega
          · have hbt : ((m : Int) % 2 == 1) = false := by rw [beq_eq_false_iff_ne]; omega
            rw [join_even K m x (by omega)] at hE
            have HN := Lib.hid hE
            clear hE HE ho
            go_wp2_with (refine wpList_load_row rfl 102 (.tmp 7) rfl w.heap.size rfl _ _ _ _ HM.out Try.underlying102 rfl (info32.trans (by simp [matv_length])) ?_)
            refine (rtwice_any K wr).mono ?_
            rintro e w6 ⟨rfl, hb6⟩
            have HM6 := Lib.hid (HM.out.below hb6)
            have hbel6 := hbel.trans (hb6.mono hbel.size)
            clear HM hbel hb6
            go_wp2_with (refine wpList_store_row rfl 102 (.tmp 7) (.tmp 35) rfl w.heap.size (matv (K + K)).toArray rfl rfl _ _ HM6.out (info32.trans (by simp [matv_length])) (by simp [matv_length]) (matv_one _) ?_)
            go_roundw
            case rel => exact ⟨x, K + K, ((m / 2 : Nat) : Int), rfl, by go_num, hx, by omega, by omega, mat_set HM6.out, HN, below_setRow hbel6 _ (Nat.le_refl _) _⟩
            case measure => simp [intOf]; omega
        · have hfin : r = x ^^^ b := by rw [HE.out, show k.toNat = 0 from by omega, Nat.mul_zero, Crc.Mi_none]
          have hxb := u32_xor_nat x b hx hb
          rw [← hfin] at hxb
          have HX := Lib.hid hxb
          clear hxb hfin HE
          go_wp2_with fail
          go_ret
          exact ⟨ret_i HX.out, hbel⟩
end Go.Proofs.Ytfgjlplfpjfnoaa
