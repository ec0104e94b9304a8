/- QuotaWeights: its walk. -/
import Derived.Test.YthcmkjiemlfpcaaSpW
import Derived.Test.YthcmkjiemlfpcaaSpWalk2
import Derived.Test.YthcmkjiemlfpcaaQWorks
namespace Go.Proofs.Ythcmkjiemlfpcaa
open Go Go.RowKit
set_option linter.unusedVariables false
set_option linter.unusedSimpArgs false

set_option maxHeartbeats 4000000 in
set_option maxRecDepth 100000 in
theorem quotaWeights_no (total : Int) (A : Option Addr) (n c : Nat) (l : List Int) (w : World) (hn : l.length = n) (hr : Rd w A (i64s l)) (hs : ¬ spOk total l) (hn8 : n * 8 ≤ 140737488351232) :
    Calls Try.prog 12 #[.int .i64 total, .slice A n c] w fun e w' => e = .returned (.bool true) ∧ Below w.heap.size w w' := by
  have P1 := Lib.hid (spread_bad A c n l total w hr hn hs hn8)
  clear hn hr hs
  go_enter Try.func12, Try.ntmps12
  go_wp2_with fail
  refine P1.out.mono ?_
  rintro e w2 ⟨rfl, hb2⟩
  have HB := Lib.hid hb2
  clear hb2 P1
  go_wp2_with fail
  refine (works_is w2).mono ?_
  rintro e w3 ⟨rfl, hb3⟩
  go_wp2_with fail
  go_ret
  exact ⟨rfl, HB.out.trans (hb3.mono HB.out.size)⟩
set_option maxHeartbeats 8000000 in
set_option maxRecDepth 100000 in
theorem quotaWeights_yes (total : Int) (A : Option Addr) (n c : Nat) (l : List Int) (w : World) (hn : l.length = n) (hr : Rd w A (i64s l)) (hs : spOk total l) :
    Calls Try.prog 12 #[.int .i64 total, .slice A n c] w fun e w' => e = .returned (.bool true) ∧ Below w.heap.size w w' := by
  have P1 := Lib.hid (spread_ok A c n l total w hr hn hs)
  have hpos := sum_pos hs
  have HONE := Lib.hid (fun i x v (hx : (spr total l)[i]? = some x) (hw : l[i]? = some v) => spr_off hs hx hw)
  have HBD := Lib.hid (fun i x v (hx : (spr total l)[i]? = some x) (hw : l[i]? = some v) => spr_bd hs hx hw)
  have HTWO := Lib.hid (fun i k x v y u (hx : (spr total l)[i]? = some x) (hw : l[i]? = some v) (hy : (spr total l)[k]? = some y) (hv : l[k]? = some u) => spr_two hs hx hw hy hv)
  have HSUM := Lib.hid (spr_sum hs)
  have hdl : (spr total l).length = n := by rw [spr_length, hn]
  have hn64 : n ≤ 64 := by rw [← hn]; exact hs.1
  have ht := hs.2.1
  have HWT : Hid (∀ x ∈ l, wOk x) := Lib.hid hs.2.2.1
  obtain ⟨s, hs0⟩ : ∃ s, s = spr total l := ⟨_, rfl⟩
  rw [← hs0] at HONE HBD HTWO HSUM hdl
  unfold SharedE at P1
  rw [← hs0, hdl] at P1
  have HNN : Hid (∀ x ∈ s, 0 ≤ x) := Lib.hid (fun x hx => by
    obtain ⟨k, hk⟩ := List.getElem?_of_mem hx
    have hkl : k < l.length := by have := (List.getElem?_eq_some_iff.1 hk).1; omega
    exact (HBD.out k x _ hk (List.getElem?_eq_getElem hkl)).1)
  obtain ⟨a, ha⟩ : ∃ a, a = l.sum := ⟨_, rfl⟩
  rw [← ha] at HONE
  have ha1 : 0 < a := by rw [ha]; exact hpos.1
  have ha2 : a ≤ 67108864 := by
    have := sum_bd (l := l) (M := 1048576) hs.2.2.1
    have h2 := hs.1
    omega
  have HAS := Lib.hid ha
  have HN := Lib.hid hn
  have HDL := Lib.hid hdl
  have HR := Lib.hid hr
  clear hs hs0 hn hdl hr hpos ha
  go_enter Try.func12, Try.ntmps12
  go_wp2_with fail
  refine P1.out.mono ?_
  rintro e w2 ⟨A2, c2, rfl, ho2, hb2⟩
  have R2 := Lib.hid (rd_own ho2)
  have R1 := Lib.hid (HR.out.below hb2)
  have HB := Lib.hid hb2
  clear ho2 hb2 P1
  go_wp2_with fail
  go_loopw [9, 7, 8] (fun iv av gv wr => ∃ k : Nat, k ≤ n ∧ iv = .int .i64 k ∧ av = .int .i64 (l.take k).sum ∧ gv = .int .i64 (s.take k).sum ∧ w2 = wr) (fun iv _ _ _ => n - (intOf iv).toNat)
  case atStart => exact ⟨0, Nat.zero_le _, rfl, rfl, rfl, rfl⟩
  case round =>
    obtain ⟨k, hk, rfl, rfl, rfl, rfl⟩ := hrel
    have hsb := sum_pre (l := l) (k := k) (fun x hx => HWT.out x (List.mem_of_mem_take hx)) (by rw [HN.out]; exact hn64)
    by_cases hlt : k < n
    · obtain ⟨x, hx⟩ : ∃ x, s[k]? = some x := ⟨_, List.getElem?_eq_getElem (by rw [HDL.out]; exact hlt)⟩
      obtain ⟨v, hv⟩ : ∃ v, l[k]? = some v := ⟨_, List.getElem?_eq_getElem (by rw [HN.out]; exact hlt)⟩
      obtain ⟨g, off, rfl, hg, hcx⟩ := R2.out.i64 hx
      obtain ⟨g', off', rfl, hg', hcv⟩ := R1.out.i64 hv
      have hvo := HWT.out v (List.mem_of_getElem? hv)
      have hst := sum_take_le HNN.out (k + 1)
      have hst0 := sum_take_le HNN.out k
      rw [HSUM.out] at hst hst0
      have T1 := Lib.hid (sum_take_succ hx)
      have T2 := Lib.hid (sum_take_succ hv)
      rw [T1.out] at hst
      obtain ⟨p, hp⟩ : ∃ p, p = (l.take k).sum := ⟨_, rfl⟩
      obtain ⟨q, hq⟩ : ∃ q, q = (s.take k).sum := ⟨_, rfl⟩
      rw [← hp] at hsb T2 ⊢
      rw [← hq] at hst hst0 T1 ⊢
      have i0 : (0 : Int) ≤ (k : Int) := by omega
      have i1 : (k : Int) < (n : Int) := by omega
      have e1 : IntKind.i64.wrap (p + v) = p + v := IntWalk.i64_in _ (by have := hvo.1; have := hvo.2; omega)
      have e2 : IntKind.i64.wrap (q + x) = q + x := IntWalk.i64_in _ (by omega)
      clear hx hv hp hq hst hst0 hvo
      go_wp2
      go_roundw
      case rel => exact ⟨k + 1, by omega, by go_num, by rw [T2.out], by rw [T1.out], trivial⟩
      case measure => simp [intOf]; omega
    · obtain rfl : n = k := by omega
      have e1 : (l.take n).sum = a := by rw [List.take_of_length_le (by rw [HN.out]; omega)]; exact HAS.out.symm
      have e2 : (s.take n).sum = total := by rw [List.take_of_length_le (by rw [HDL.out]; omega)]; exact HSUM.out
      rw [e1, e2]
      clear e1 e2 hsb hk hlt
      go_wp2
      rename World => w2
      go_loopw [10] (fun iv wr => ∃ k j : Nat, k ≤ n ∧ iv = .int .i64 k ∧ wr = w2.drewN j) (fun iv _ => n - (intOf iv).toNat)
      case atStart => exact ⟨0, 0, Nat.zero_le _, rfl, rfl⟩
      case round =>
        obtain ⟨k, j, hk, rfl, rfl⟩ := hrel
        by_cases hlt : k < n
        · obtain ⟨x, hx⟩ : ∃ x, s[k]? = some x := ⟨_, List.getElem?_eq_getElem (by rw [HDL.out]; exact hlt)⟩
          obtain ⟨v, hv⟩ : ∃ v, l[k]? = some v := ⟨_, List.getElem?_eq_getElem (by rw [HN.out]; exact hlt)⟩
          obtain ⟨g, off, rfl, hg, hcx⟩ := R2.out.i64 hx
          obtain ⟨g', off', rfl, hg', hcv⟩ := R1.out.i64 hv
          have hvo := HWT.out v (List.mem_of_getElem? hv)
          have hpb := spmul_bd ht.1 ht.2 hvo.1 hvo.2
          obtain ⟨o1, o2, o3⟩ := HONE.out k x v hx hv
          have i0 : (0 : Int) ≤ (k : Int) := by omega
          have i1 : (k : Int) < (n : Int) := by omega
          have HX := Lib.hid hx
          have HV := Lib.hid hv
          have hxb := HBD.out k x v hx hv
          obtain ⟨p, hp⟩ : ∃ p, p = x * a := ⟨_, rfl⟩
          obtain ⟨q, hq⟩ : ∃ q, q = total * v := ⟨_, rfl⟩
          rw [← hp, ← hq] at o1 o2
          rw [← hq] at hpb
          obtain ⟨o, ho⟩ : ∃ o, o = p - q := ⟨_, rfl⟩
          rw [← ho] at o1 o2
          have e1 : IntKind.i64.wrap (x * a) = p := by rw [hp]; exact IntWalk.i64_in _ (by rw [← hp]; omega)
          have e2 : IntKind.i64.wrap (total * v) = q := by rw [hq]; exact IntWalk.i64_in _ (by rw [← hq]; omega)
          have e3 : IntKind.i64.wrap (p - q) = o := by rw [ho]; exact IntWalk.i64_in _ (by omega)
          clear hx hv hvo hpb hp hq ho
          go_wp2_with fail
          go_quiet (fail)
          have e4 : IntKind.i64.wrap (-a) = -a := IntWalk.i64_in _ (by omega)
          have d1 : decide (o ≤ -a) = false := decide_eq_false (by omega)
          have d2 : decide (a ≤ o) = false := decide_eq_false (by omega)
          go_upto_region 17 with (fail)
          go_cut [91] from 50 to 140 (fun vv wx => vv = .bool false ∧ ∃ jj : Nat, wx = w2.drewN jj)
          case first =>
            by_cases hv0 : v = 0
            · have d3 : (v == 0) = true := by rw [hv0]; rfl
              have d4 : (x != 0) = false := by rw [o3 hv0]; rfl
              clear hv0 o3
              go_wp2_with fail
              go_meet
              case rel => exact ⟨rfl, _, rfl⟩
            · have d3 : (v == 0) = false := by rw [beq_eq_false_iff_ne]; exact hv0
              clear hv0 o3
              go_wp2_with fail
              go_meet
              case rel => exact ⟨rfl, _, rfl⟩
          case' rest =>
            obtain ⟨rfl, jj, rfl⟩ := hcut
            clear e1 e2 e3 e4 d1 d2 o1 o2 o3
            go_wp2_with fail
            go_loopw [12] (fun iv wr => ∃ m j2 : Nat, m ≤ n ∧ iv = .int .i64 m ∧ wr = w2.drewN j2) (fun iv _ => n - (intOf iv).toNat)
            case atStart => exact ⟨0, jj, Nat.zero_le _, rfl, rfl⟩
            case round =>
              obtain ⟨m, j2, hm, rfl, rfl⟩ := hrel
              by_cases hml : m < n
              · obtain ⟨y, hy⟩ : ∃ y, s[m]? = some y := ⟨_, List.getElem?_eq_getElem (by rw [HDL.out]; exact hml)⟩
                obtain ⟨u, hu⟩ : ∃ u, l[m]? = some u := ⟨_, List.getElem?_eq_getElem (by rw [HN.out]; exact hml)⟩
                obtain ⟨g2, off2, ea, hg2, hcy⟩ := R2.out.i64 hy
                injection ea with ea
                injection ea with ea1 ea2
                subst ea1 ea2
                obtain ⟨g3, off3, eb, hg3, hcu⟩ := R1.out.i64 hu
                injection eb with eb
                injection eb with eb1 eb2
                subst eb1 eb2
                obtain ⟨t1, t2⟩ := HTWO.out k m x v y u HX.out HV.out hy hu
                have hyb := HBD.out m y u hy hu
                have m0 : (0 : Int) ≤ (m : Int) := by omega
                have m1 : (m : Int) < (n : Int) := by omega
                have e1 : IntKind.i64.wrap (y + 1) = y + 1 := IntWalk.i64_in _ (by omega)
                clear hy hu
                by_cases c1 : u < v
                · have d1 : decide (u < v) = true := decide_eq_true c1
                  have d2 : decide (x < y) = false := decide_eq_false (by have := t1 c1; omega)
                  have d3 : (v == u) = false := by rw [beq_eq_false_iff_ne]; omega
                  clear t1 t2 c1
                  go_wp2
                  go_quiet (fail)
                  go_wp2
                  go_roundw
                  case rel => exact ⟨m + 1, _, by omega, by go_num, rfl⟩
                  case measure => simp [intOf]; omega
                · have d1 : decide (u < v) = false := decide_eq_false c1
                  by_cases c2 : v = u
                  · have d2 : decide (y + 1 < x) = false := decide_eq_false (by have := t2 c2; omega)
                    have d3 : (v == u) = true := by rw [c2]; simp
                    clear t1 t2 c1 c2
                    go_wp2
                    go_quiet (fail)
                    go_wp2
                    go_roundw
                    case rel => exact ⟨m + 1, _, by omega, by go_num, rfl⟩
                    case measure => simp [intOf]; omega
                  · have d3 : (v == u) = false := by rw [beq_eq_false_iff_ne]; exact c2
                    clear t1 t2 c1 c2
                    go_wp2
                    go_quiet (fail)
                    go_wp2
                    go_roundw
                    case rel => exact ⟨m + 1, _, by omega, by go_num, rfl⟩
                    case measure => simp [intOf]; omega
              · obtain rfl : n = m := by omega
                clear hm hml
                go_wp2
                go_roundw
                case rel => exact ⟨k + 1, j2, by omega, by go_num, rfl⟩
                case measure => simp [intOf]; omega
        · have hle : ((total : Int) == total) = true := by simp
          go_wp2_with fail
          go_ret
          exact ⟨rfl, below_drewN HB.out j⟩
theorem quotaWeights_walk (a0 : Int) (A1 : Option Addr) (c1 : Nat) (b1 : List Int) (w : World) (w0 : -9223372036854775808 ≤ a0 ∧ a0 ≤ 9223372036854775807) (c1l : b1.length ≤ c1) (r1 : Rd w A1 (i64s b1)) (y1 : W64 b1) (l1 : b1.length * 8 ≤ 140737488351232) (m1 : c1 ≤ maxLen) :
    Calls Try.prog 12 #[.int .i64 a0, .slice A1 b1.length c1] w fun e w' => e = .returned (.bool true) ∧ Below w.heap.size w w' := by
  by_cases h : spOk a0 b1
  · exact quotaWeights_yes a0 A1 b1.length c1 b1 w rfl r1 h
  · exact quotaWeights_no a0 A1 b1.length c1 b1 w rfl r1 h l1
end Go.Proofs.Ythcmkjiemlfpcaa
