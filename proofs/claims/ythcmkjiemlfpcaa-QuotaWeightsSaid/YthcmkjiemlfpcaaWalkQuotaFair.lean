/- QuotaFair: its walk. -/
import Derived.Test.YthcmkjiemlfpcaaSh4
import Derived.Test.YthcmkjiemlfpcaaQWorks
namespace Go.Proofs.Ythcmkjiemlfpcaa
open Go Go.RowKit
set_option linter.unusedVariables false

theorem shared_is (A : Option Addr) (c n : Nat) (l : List Int) (total v : Int) (w : World) (hr : Rd w A (i64s l)) (hn : l.length = n) (hc : n ≤ c) (hs : shOk total l) (hv : IsLev total l v) :
    Calls Try.prog 22 #[.int .i64 total, .slice A n c] w (Shared w (dist l v (total - capSum l v))) := by
  obtain ⟨hl, ⟨ht, ht'⟩, ha⟩ := hs
  by_cases hf : capSum l 1099511627776 ≤ total
  · have e : v = 1099511627776 := hv.unique ⟨by omega, Int.le_refl _, hf, .inl rfl⟩
    subst e
    rw [dist_top ha]
    exact shares_full A c n l total w hr hn hc (by omega) ht ht' ha hf
  · exact shares_part A c n l total v w hr hn hc (by omega) ht ht' ha (by omega) hv

theorem take_sum {l : List Int} {k : Nat} {x : Int} (hx : l[k]? = some x) : (l.take (k + 1)).sum = (l.take k).sum + x := by
  rw [take_snoc' hx, List.sum_append]
  simp
theorem sum_le {l : List Int} (h : Asks l) (hl : l.length ≤ 64) (k : Nat) : 0 ≤ (l.take k).sum ∧ (l.take k).sum ≤ 70368744177664 := by
  have := take_bd h hl k (v := 1099511627776) (by omega)
  rwa [capSum_top (h.take k) (Int.le_refl _)] at this

set_option maxHeartbeats 2000000 in
set_option maxRecDepth 100000 in
theorem quotaFair_yes (total : Int) (A : Option Addr) (n c : Nat) (l : List Int) (w : World) (hc : n ≤ c) (hn : l.length = n) (hr : Rd w A (i64s l)) (hs : shOk total l) :
    Calls Try.prog 10 #[.int .i64 total, .slice A n c] w fun e w' => e = .returned (.bool true) ∧ Below w.heap.size w w' := by
  obtain ⟨v, hv⟩ := lev_exists hs.2.2 hs.2.1.1
  have P1 := Lib.hid (fun W (h : w = W) => shared_is A c n l total v W (h ▸ hr) hn hc hs hv)
  have HE := Lib.hid (fun k x a => fair_each hs.2.2 hv (k := k) (x := x) (a := a))
  have HT := Lib.hid (fun i k x a y b => fair_two hv (i := i) (k := k) (x := x) (a := a) (y := y) (b := b))
  have HSUM := Lib.hid (fair_sum hs.2.2 hv)
  have hdl : (dist l v (total - capSum l v)).length = n := by rw [dist_length, hn]
  obtain ⟨s, hs0⟩ : ∃ s, s = dist l v (total - capSum l v) := ⟨_, rfl⟩
  rw [← hs0] at P1 HE HT HSUM hdl
  have hn64 : n ≤ 64 := by rw [← hn]; exact hs.1
  have ht := hs.2.1
  have HA := Lib.hid hs.2.2
  have hsa : Asks s := fun x hx => by
    obtain ⟨k, hk⟩ := List.getElem?_of_mem hx
    have hkl : k < l.length := by have := (List.getElem?_eq_some_iff.1 hk).1; omega
    have h1 := HE.out k x _ hk (List.getElem?_eq_getElem hkl)
    have h2 := hs.2.2 _ (List.getElem_mem hkl)
    omega
  have HSA := Lib.hid hsa
  have HN := Lib.hid hn
  have HDL := Lib.hid hdl
  have HR := Lib.hid hr
  clear hs hv hs0 hn hdl hr hsa
  go_enter Try.func10, Try.ntmps10
  go_wp2_with fail
  refine (P1.out _ rfl).mono ?_
  rintro e w2 ⟨A2, c2, rfl, ho2, hb2⟩
  rw [HDL.out] at ho2 ⊢
  have R2 := Lib.hid (rd_own ho2)
  have R1 := Lib.hid (HR.out.below hb2)
  have HB := Lib.hid hb2
  clear ho2 hb2 P1
  have hs0 : ((s.take 0).sum) = 0 := rfl
  go_wp2_with fail
  go_loopw [9, 7, 8] (fun i gv sk wr => ∃ k : Nat, k ≤ n ∧ i = .int .i64 k ∧ gv = .int .i64 (s.take k).sum ∧ sk = .int .i64 (l.take k).sum ∧ ∃ m, wr = w2.drewN m)
    (fun i _ _ _ => n - (intOf i).toNat)
  case atStart => exact ⟨0, Nat.zero_le _, rfl, rfl, rfl, 0, rfl⟩
  case round =>
    obtain ⟨k, hk, rfl, rfl, rfl, m, rfl⟩ := hrel
    clear hs0
    by_cases hlt : k < n
    · obtain ⟨x, hx⟩ : ∃ x, s[k]? = some x := ⟨_, List.getElem?_eq_getElem (by rw [HDL.out]; exact hlt)⟩
      obtain ⟨a, ha⟩ : ∃ a, l[k]? = some a := ⟨_, List.getElem?_eq_getElem (by rw [HN.out]; exact hlt)⟩
      obtain ⟨g, off, rfl, hg, hcx⟩ := R2.out.i64 hx
      obtain ⟨g', off', rfl, hg', hca⟩ := R1.out.i64 ha
      have hxa := HE.out k x a hx ha
      have ha2 := asks_at HA.out ha
      have b1 := sum_le HSA.out (by rw [HDL.out]; exact hn64) k
      have b2 := sum_le HA.out (by rw [HN.out]; exact hn64) k
      have T1 := Lib.hid (take_sum hx)
      have T2 := Lib.hid (take_sum ha)
      have HX := Lib.hid hx
      have HAA := Lib.hid ha
      obtain ⟨p, hp⟩ : ∃ p, p = (s.take k).sum := ⟨_, rfl⟩
      obtain ⟨q, hq⟩ : ∃ q, q = (l.take k).sum := ⟨_, rfl⟩
      rw [← hp] at b1 T1 ⊢
      rw [← hq] at b2 T2 ⊢
      have h0 : (0 : Int) ≤ (k : Int) := by omega
      have h1 : (k : Int) < (n : Int) := by omega
      have d1 : decide (x < 0) = false := by rw [decide_eq_false_iff_not]; omega
      have d2 : decide (a < x) = false := by rw [decide_eq_false_iff_not]; omega
      clear hx ha hp hq
      go_wp2_with fail
      go_quiet (fail)
      go_wp2_with fail
      go_loopw [10] (fun i wr => ∃ j : Nat, j ≤ n ∧ i = .int .i64 j ∧ ∃ m, wr = w2.drewN m) (fun i _ => n - (intOf i).toNat)
      case atStart => exact ⟨0, Nat.zero_le _, rfl, _, World.drewN_drewN ..⟩
      case round =>
        obtain ⟨j, hj, rfl, m', rfl⟩ := hrel
        by_cases hjl : j < n
        · obtain ⟨y, hy⟩ : ∃ y, s[j]? = some y := ⟨_, List.getElem?_eq_getElem (by rw [HDL.out]; exact hjl)⟩
          obtain ⟨b, hb⟩ : ∃ b, l[j]? = some b := ⟨_, List.getElem?_eq_getElem (by rw [HN.out]; exact hjl)⟩
          obtain ⟨g2, off2, e2, _, hcy⟩ := R2.out.i64 hy
          simp only [Option.some.injEq, Addr.mk.injEq, and_true] at e2
          obtain ⟨rfl, rfl⟩ := e2
          have h2 : (0 : Int) ≤ (j : Int) := by omega
          have h3 : (j : Int) < (n : Int) := by omega
          have ht2 := HT.out k j x a y b HX.out HAA.out hy hb
          have e1 : IntKind.i64.wrap (x + 1) = x + 1 := IntWalk.i64_in _ (by omega)
          have hyb := HE.out j y b hy hb
          by_cases hxa2 : x < a
          · have d3 : decide (x + 1 < y) = false := by have := ht2 hxa2; rw [decide_eq_false_iff_not]; omega
            have d4 : decide (x < a) = true := by rw [decide_eq_true_eq]; exact hxa2
            clear hy hb ht2 d1 d2
            go_wp2_with fail
            go_quiet (fail)
            clear e1
            go_wp2_with fail
            go_roundw
            case rel => exact ⟨j + 1, by omega, by go_num, _, rfl⟩
            case measure => simp [intOf]; omega
          · have d4 : decide (x < a) = false := by rw [decide_eq_false_iff_not]; exact hxa2
            clear hy hb ht2 d1 d2 e1
            go_wp2_with fail
            go_quiet (fail)
            go_wp2_with fail
            go_roundw
            case rel => exact ⟨j + 1, by omega, by go_num, _, rfl⟩
            case measure => simp [intOf]; omega
        · have hjn : j = n := by omega
          subst hjn
          clear d1 d2
          go_wp2_with fail
          go_roundw
          case rel => exact ⟨k + 1, by omega, by go_num, by rw [T1.out], by rw [T2.out], _, rfl⟩
          case measure => simp [intOf]; omega
    · have hkn : k = n := by omega
      have e1 : s.take k = s := List.take_of_length_le (by rw [HDL.out]; omega)
      have e2 : l.take k = l := List.take_of_length_le (by rw [HN.out]; omega)
      rw [e1, e2]
      have hS := HSUM.out
      obtain ⟨p, hp⟩ : ∃ p, p = s.sum := ⟨_, rfl⟩
      obtain ⟨q, hq⟩ : ∃ q, q = l.sum := ⟨_, rfl⟩
      rw [← hp, ← hq] at hS ⊢
      clear e1 e2 hp hq hkn
      by_cases hle : total ≤ q
      · have e : p = total := by omega
        subst e
        clear hS
        go_wp2_with fail
        go_ret
        exact ⟨rfl, below_drewN HB.out m⟩
      · have e : p = q := by omega
        subst e
        have hlt2 : p < total := by omega
        clear hS hle
        go_wp2_with fail
        go_ret
        exact ⟨rfl, below_drewN HB.out m⟩

theorem quotaFair_walk (a0 : Int) (A1 : Option Addr) (c1 : Nat) (b1 : List Int) (w : World) (w0 : -9223372036854775808 ≤ a0 ∧ a0 ≤ 9223372036854775807) (c1l : b1.length ≤ c1) (r1 : Rd w A1 (i64s b1)) (y1 : W64 b1) (l1 : b1.length * 8 ≤ 140737488351232) (m1 : c1 ≤ maxLen) :
    Calls Try.prog 10 #[.int .i64 a0, .slice A1 b1.length c1] w fun e w' => e = .returned (.bool true) ∧ Below w.heap.size w w' := by
  by_cases hs : shOk a0 b1
  · exact quotaFair_yes a0 A1 b1.length c1 b1 w c1l rfl r1 hs
  · obtain ⟨n, hn⟩ : ∃ n, n = b1.length := ⟨_, rfl⟩
    rw [← hn] at c1l l1 ⊢
    have P1 := Lib.hid (fun W (h : w = W) => shares_bad A1 c1 n b1 a0 W (h ▸ r1) hn.symm c1l hs l1)
    clear hs hn r1 y1 m1 w0
    go_enter Try.func10, Try.ntmps10
    go_wp2_with fail
    refine (P1.out _ rfl).mono ?_
    rintro e w2 ⟨rfl, hb2⟩
    go_wp2_with (go_at_call 21; refine (works_is _).mono ?_; rintro e w3 ⟨rfl, hb3⟩)
    go_ret
    exact ⟨rfl, hb2.trans (hb3.mono hb2.size)⟩
end Go.Proofs.Ythcmkjiemlfpcaa
