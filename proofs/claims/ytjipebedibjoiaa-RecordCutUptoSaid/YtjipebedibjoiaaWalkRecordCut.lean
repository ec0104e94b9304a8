/- The walk of RecordCut. -/
import Derived.Test.YtjipebedibjoiaaD3
import Derived.Deep.CutRange
namespace Go.Proofs.Ytjipebedibjoiaa
open Go Go.RowKit
set_option linter.unusedVariables false
set_option linter.unusedSimpArgs false

theorem flat_pre (m : List Rc) (k : Nat) : (flat (m.take k)).length ≤ (flat m).length := by
  have h : (flat (m.take k) ++ flat (m.drop k)).length = (flat m).length := by rw [← flat_append, List.take_append_drop]
  rw [List.length_append] at h
  omega
theorem flat_next {m : List Rc} {k : Nat} {x : Rc} (h : m[k]? = some x) : (flat (m.take (k + 1))).length = (flat (m.take k)).length + (rwx x).length := by
  obtain ⟨hk, rfl⟩ := List.getElem?_eq_some_iff.1 h
  rw [List.take_succ_eq_append_getElem hk, flat_snoc, List.length_append]
theorem rsize_may {x : Rc} (h : May x) : rsize x = (rwx x).length := by unfold rsize; rw [renc_ok (may_chk h)]; rfl
set_option maxHeartbeats 2000000 in
set_option maxRecDepth 100000 in
theorem recordCutU_walk (A0 : Option Addr) (c0 : Nat) (b0 : List Rc) (a1 : Int) (w : World) (c0l : b0.length ≤ c0) (r0 : Rd w A0 (rcCells b0)) (y0 : ∀ x ∈ b0, x.Ok) (l0 : b0.length * 72 ≤ 140737488351232) (w1 : -9223372036854775808 ≤ a1 ∧ a1 ≤ 9223372036854775807) (ub : b0.length ≤ 1048576) :
    Calls Try.prog 12 #[.slice A0 b0.length c0, .int .i64 a1] w fun e w' => e = .returned (.bool true) ∧ Below w.heap.size w w' := by
  have PR := Lib.hid (rowOf_is A0 b0.length c0 b0 w r0 rfl ub)
  unfold RowPost at PR
  have hri := rowM_is b0
  have hlen := rowM_len b0 []
  obtain ⟨M, hM⟩ : ∃ M, M = rowM b0 := ⟨_, rfl⟩
  have hML : M.length ≤ 1048576 := by rw [hM]; simp only [List.length_nil] at hlen; unfold rowM; omega
  rw [← hM] at PR hri
  clear hM hlen
  have hFl := hri.len
  have HBY := Lib.hid hri.by_
  obtain ⟨F, hF⟩ : ∃ F, F = (flat M).length := ⟨_, rfl⟩
  obtain ⟨N, hN⟩ : ∃ N, N = M.length := ⟨_, rfl⟩
  rw [← hF, ← hN] at PR
  have hF2 : F ≤ 1178599424 := by omega
  obtain ⟨K, hK⟩ : ∃ K : Nat, K = if a1 < 0 ∨ (F : Int) < a1 then F else a1.toNat := ⟨_, rfl⟩
  have hKF : K ≤ F := by rw [hK]; split <;> omega
  have HK1 : Hid (a1 < 0 → K = F) := Lib.hid (fun h => by rw [hK, if_pos (.inl h)])
  have HK2 : Hid ((F : Int) < a1 → K = F) := Lib.hid (fun h => by rw [hK, if_pos (.inr h)])
  have HK3 : Hid (¬ a1 < 0 → ¬ (F : Int) < a1 → a1 = (K : Int)) := Lib.hid (fun h h2 => by rw [hK, if_neg (fun hh => by rcases hh with hh | hh <;> contradiction)]; omega)
  have hsc := scan_cut K M [] (by rw [List.nil_append]; exact hri) (by simp [flat]) (by rw [List.nil_append, ← hF]; exact hKF)
  rw [List.nil_append, show (flat []).length = 0 from rfl] at hsc
  have PS := Lib.hid (fun A c W (hr : Rd W A (b8 ((flat M).take K))) (hc : K ≤ c) => scan_is A K c ((flat M).take K) W hr (by rw [List.length_take]; omega) hc (fun b hb => HBY.out b (List.mem_of_mem_take hb)) (by omega))
  obtain ⟨q, hq⟩ : ∃ q, q = scanW ((flat M).take K) 0 [] := ⟨_, rfl⟩
  rw [← hq] at hsc PS
  unfold ScanPost at PS
  obtain ⟨l, p, z⟩ := q
  simp only at hsc PS
  obtain ⟨k, hk, e1, e2, hle, hcs⟩ := hsc
  have HCS : Hid ((p = K ∧ z = 0) ∨ (p < K ∧ z = 40 ∧ ∃ x, M[k]? = some x ∧ K < p + rsize x)) := Lib.hid (by
    rw [e2]
    rcases hcs with ⟨h1, h2⟩ | ⟨h1, h2, x, h3, h4⟩
    · exact .inl ⟨h1, h2⟩
    · exact .inr ⟨h1, h2, x, h3, by rw [rsize_may (hri.may x (List.mem_of_getElem? h3))]; exact h4⟩)
  have HPK : p ≤ K := by rw [e2]; exact hle
  have HLL : l.length = k := by rw [e1, List.length_take]; omega
  have HSZ : Hid (∀ i x, M[i]? = some x → (flat (M.take (i + 1))).length = (flat (M.take i)).length + rsize x ∧ (flat (M.take (i + 1))).length ≤ F) := Lib.hid (fun i x h => by
    refine ⟨?_, ?_⟩
    · rw [rsize_may (hri.may x (List.mem_of_getElem? h))]; exact flat_next h
    · rw [hF]; exact flat_pre _ _)
  obtain ⟨L, hL⟩ : ∃ L : Nat → Nat, L = fun i => (flat (M.take i)).length := ⟨_, rfl⟩
  have HL0 : Hid (L 0 = 0) := Lib.hid (by rw [hL]; rfl)
  have HLK : Hid (p = L k) := Lib.hid (by rw [hL]; exact e2)
  have HLS : Hid (∀ i x, M[i]? = some x → L (i + 1) = L i + rsize x ∧ L (i + 1) ≤ F) := Lib.hid (by rw [hL]; exact HSZ.out)
  rw [HLL] at PS
  have HE1 := Lib.hid e1
  have HN := Lib.hid hN
  have HF := Lib.hid hF
  have hkN : k ≤ N := by omega
  have hN2 : N ≤ 1048576 := by omega
  have HLi : Hid (∀ i x, l[i]? = some x → M[i]? = some x) := Lib.hid (fun i x h => by rw [HE1.out, List.getElem?_take] at h; split at h; exact h; cases h)
  have HLL2 := Lib.hid HLL
  clear hcs hle e1 e2 hq hL HSZ hK hN hF hFl hML hri c0l r0 y0 l0 ub hk HLL
  go_enter Try.func12, Try.ntmps12
  go_wp2_with fail
  refine PR.out.mono ?_
  rintro e w3 ⟨A3, c3, B3, d3, rfl, ho3, hm3, hb3⟩
  obtain ⟨hnc3, hcm3⟩ := own_cap ho3
  obtain ⟨A3', c3', hv, hcB, hdB, _⟩ := own_shape hm3
  injection hv with hv1 hv2 hv3
  subst hv1 hv3
  have HO3 := Lib.hid ho3
  have HM3 := Lib.hid hm3
  have HB3 := Lib.hid hb3
  clear ho3 hm3 hb3 PR
  obtain ⟨bd, hbd⟩ : ∃ bd : Bool, decide (a1 < 0 ∨ (F : Int) < a1) = bd := ⟨_, rfl⟩
  have HBD := Lib.hid hbd
  clear hbd
  go_upto_region 2 with (fail)
  go_cut [24] from 17 to 23 (fun s24 wx => s24 = .bool bd ∧ wx = w3)
  case first =>
    by_cases h1 : a1 < 0
    · have HB : Hid (true = bd) := Lib.hid ((decide_eq_true (.inl h1)).symm.trans HBD.out)
      go_wp2_with fail
      go_meet
      case rel => exact ⟨congrArg Value.bool HB.out, rfl⟩
    · by_cases h2 : (F : Int) < a1
      · have HB : Hid (true = bd) := Lib.hid ((decide_eq_true (.inr h2)).symm.trans HBD.out)
        go_wp2_with fail
        go_meet
        case rel => exact ⟨congrArg Value.bool HB.out, rfl⟩
      · have HB : Hid (false = bd) := Lib.hid ((decide_eq_false (fun hh => by rcases hh with hh | hh <;> contradiction)).symm.trans HBD.out)
        go_wp2_with fail
        go_meet
        case rel => exact ⟨congrArg Value.bool HB.out, rfl⟩
  case' rest => obtain ⟨rfl, hw3⟩ := hcut; have hw4 := hw3.symm; clear hw3; subst hw4
  go_upto_if 24 with (fail)
  go_cut [1] from 17 to 26 (fun s1 wx => s1 = .int .i64 (K : Int) ∧ wx = w3)
  case first =>
    cases hb : bd with
    | true =>
      have HKF : Hid (K = F) := Lib.hid (by
        have h := HBD.out
        rw [hb] at h
        rcases of_decide_eq_true h with h | h
        · exact HK1.out h
        · exact HK2.out h)
      subst hb
      go_wp2_with fail
      go_meet
      case rel => exact ⟨by rw [HKF.out], rfl⟩
    | false =>
      have HKF : Hid (a1 = (K : Int)) := Lib.hid (by
        have h := HBD.out
        rw [hb] at h
        have h := of_decide_eq_false h
        have h1 : ¬ a1 < 0 := fun h2 => h (.inl h2)
        have h3 : ¬ (F : Int) < a1 := fun h2 => h (.inr h2)
        exact HK3.out (by omega) (by omega))
      subst hb
      go_wp2_with fail
      go_meet
      case rel => exact ⟨by rw [HKF.out], rfl⟩
  case' rest => obtain ⟨rfl, hw3⟩ := hcut; have hw4 := hw3.symm; clear hw3; subst hw4
  have k0 : (0 : Int) ≤ (K : Int) := by omega
  have k1 : (K : Int) ≤ (c3 : Int) := by omega
  have k2 : (k : Int) ≤ (d3 : Int) := by omega
  have k3 : (0 : Int) ≤ (k : Int) := by omega
  have k4 : (p : Int) ≤ (K : Int) := by omega
  have k5 : (k : Int) ≤ (N : Int) := by omega
  have q1 : decide (K < p) = false := decide_eq_false (by omega)
  have q2 : decide (N < k) = false := decide_eq_false (by omega)
  go_wp2_with fail
  refine (PS.out A3 c3 _ (by have := (rd_own HO3.out).take_ K; rwa [← b8_take] at this) (by omega)).mono ?_
  rintro e w5 ⟨A5, c5, rfl, ho5, hb5⟩
  obtain ⟨A5', c5', hv, hc5, _⟩ := own_shape ho5
  injection hv with hv1 hv2 hv3
  subst hv1 hv3
  have HO5 := Lib.hid ho5
  have HM5 := Lib.hid (own_below HM3.out hb5)
  have HB5 := Lib.hid (HB3.out.trans (hb5.mono HB3.out.size))
  clear ho5 hb5 HO3 HM3 HB3 PS
  go_wp2_with fail
  refine (works_is _).mono ?_
  rintro e w6 ⟨rfl, hb6⟩
  have RG6 := Lib.hid ((rd_own HO5.out).below hb6)
  have RM6 := Lib.hid (rd_own (own_below HM5.out hb6))
  have RK6 : Hid (Rd w6 B3 (rcCells l)) := Lib.hid (by rw [HE1.out, rcCells_take]; exact RM6.out.take_ _)
  have HB6 := Lib.hid (HB5.out.trans (hb6.mono HB5.out.size))
  clear hb6 HO5 HM5 HB5
  go_wp2_with fail
  refine (alike_yes A5 B3 k c5 d3 l w6 RG6.out RK6.out HLL2.out (by omega)).mono ?_
  rintro e w7 ⟨rfl, d7, rfl⟩
  go_wp2_with fail
  go_loopw [10, 11] (fun t i wr => ∃ j : Nat, j ≤ k ∧ i = .int .i64 j ∧ t = .int .i64 (L j : Int) ∧ Below w6.heap.size w6 wr) (fun _ i _ => k - (intOf i).toNat)
  case atStart => exact ⟨0, Nat.zero_le _, rfl, by rw [HL0.out]; rfl, below_drewN (Below.refl _ _) _⟩
  case round =>
    obtain ⟨j, hj, rfl, rfl, hbe⟩ := hrel
    by_cases hlt : j < k
    · obtain ⟨x, hx⟩ : ∃ x, l[j]? = some x := ⟨_, List.getElem?_eq_getElem (by rw [HLL2.out]; exact hlt)⟩
      obtain ⟨hs1, hs2⟩ := HLS.out j x (HLi.out j x hx)
      obtain ⟨g, off, rfl, hg, x0, x1, x2, x3, x4, x5, x6⟩ := (RG6.out.below hbe).rec hx
      have PZ := Lib.hid (fun W => recsize_is x W)
      obtain ⟨S, hS⟩ : ∃ S, S = rsize x := ⟨_, rfl⟩
      rw [← hS] at hs1 PZ
      obtain ⟨T, hT⟩ : ∃ T, T = L j := ⟨_, rfl⟩
      rw [← hT] at hs1 ⊢
      have HS1 := Lib.hid hs1
      have hw : IntKind.i64.wrap ((T : Int) + (S : Int)) = (T : Int) + (S : Int) := by rw [IntKind.wrap_i64]; omega
      have HBE := Lib.hid hbe
      have j0 : (0 : Int) ≤ (j : Int) := by omega
      have j1 : (j : Int) < (k : Int) := by omega
      obtain ⟨xk, xo, xt, xp, xs, xkey, xval⟩ := x
      unfold Rc.v at PZ
      simp only at PZ x0 x1 x2 x3 x4 x5 x6
      clear hx hs1 hs2 hS hT hbe
      go_wp2_with fail
      refine (PZ.out _).mono ?_
      rintro e w8 ⟨rfl, hb8⟩
      have HB8 := Lib.hid (HBE.out.trans (hb8.mono HBE.out.size))
      clear hb8
      go_wp2_with fail
      go_roundw
      case rel => exact ⟨j + 1, by omega, by go_num, by rw [HS1.out]; first | rfl | (push_cast; rfl) | (rw [hw]; push_cast; rfl), HB8.out⟩
      case measure => simp [intOf]; omega
    · have hjk : j = k := by omega
      subst hjk
      rw [← HLK.out]
      have HBE := Lib.hid hbe
      have RMr := Lib.hid (RM6.out.below hbe)
      have hp0 : ((p : Int) != (p : Int)) = false := by simp
      clear hbe RG6 RK6 RM6
      rcases HCS.out with ⟨h1, h2⟩ | ⟨h1, h2, x, hx, h3⟩
      · subst h1 h2
        go_wp2_with fail
        go_ret
        exact ⟨rfl, HB6.out.trans (HBE.out.mono HB6.out.size)⟩
      · subst h2
        obtain ⟨g, off, rfl, hg, x0, x1, x2, x3, x4, x5, x6⟩ := RMr.out.rec hx
        have hjN : j < N := by rw [HN.out]; exact (List.getElem?_eq_some_iff.1 hx).1
        have j1 : (j : Int) < (N : Int) := by omega
        have PZ := Lib.hid (fun W => recsize_is x W)
        obtain ⟨hs1, hs2⟩ := HLS.out j x hx
        rw [← HLK.out] at hs1
        obtain ⟨S, hS⟩ : ∃ S, S = rsize x := ⟨_, rfl⟩
        rw [← hS] at hs1 PZ h3
        have hw : IntKind.i64.wrap ((p : Int) + (S : Int)) = (p : Int) + (S : Int) := by rw [IntKind.wrap_i64]; omega
        have hpk : ((p : Int) == (K : Int)) = false := by rw [beq_eq_false_iff_ne]; omega
        have h3' : (K : Int) < (p : Int) + (S : Int) := by omega
        obtain ⟨xk, xo, xt, xp, xs, xkey, xval⟩ := x
        unfold Rc.v at PZ
        simp only at PZ x0 x1 x2 x3 x4 x5 x6
        clear hx hs1 hs2 hS h3 RMr
        go_wp2_with fail
        refine (PZ.out _).mono ?_
        rintro e w8 ⟨rfl, hb8⟩
        have HB8 := Lib.hid (HBE.out.trans (hb8.mono HBE.out.size))
        clear hb8
        go_wp2_with fail
        go_ret
        exact ⟨rfl, HB6.out.trans (HB8.out.mono HB6.out.size)⟩
end Go.Proofs.Ytjipebedibjoiaa
