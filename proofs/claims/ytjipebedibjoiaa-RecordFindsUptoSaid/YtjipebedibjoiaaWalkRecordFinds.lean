/- The walk of RecordFinds. -/
import Derived.Test.YtjipebedibjoiaaD3
import Derived.Test.YtjipebedibjoiaaRecSalv
import Derived.Test.YtjipebedibjoiaaRecFindP
namespace Go.Proofs.Ytjipebedibjoiaa
open Go Go.RowKit
set_option linter.unusedVariables false
set_option linter.unusedSimpArgs false

set_option maxHeartbeats 4000000 in
set_option maxRecDepth 100000 in
theorem recordFindsU_walk (A0 : Option Addr) (c0 : Nat) (b0 : List Rc) (A1 : Option Addr) (c1 : Nat) (b1 : List Nat) (w : World) (c0l : b0.length ≤ c0) (r0 : Rd w A0 (rcCells b0)) (y0 : ∀ x ∈ b0, x.Ok) (l0 : b0.length * 72 ≤ 140737488351232) (c1l : b1.length ≤ c1) (r1 : Rd w A1 (b8 b1)) (y1 : By b1) (l1 : b1.length ≤ 140737488351232) (ub : b0.length + b1.length ≤ 1048576) :
    Calls Try.prog 11 #[.slice A0 b0.length c0, .slice A1 b1.length c1] w fun e w' => e = .returned (.bool true) ∧ Below w.heap.size w w' := by
  have PR := Lib.hid (rowOf_is A0 b0.length c0 b0 w r0 rfl (by omega))
  unfold RowPost at PR
  have hri := rowM_is b0
  have hlen := rowM_len b0 []
  obtain ⟨M, hM⟩ : ∃ M, M = rowM b0 := ⟨_, rfl⟩
  have hML : M.length ≤ 1048576 := by rw [hM]; simp only [List.length_nil] at hlen; unfold rowM; omega
  rw [← hM] at PR hri
  clear hM hlen
  have hFl := hri.len
  obtain ⟨F, hF⟩ : ∃ F, F = (flat M).length := ⟨_, rfl⟩
  obtain ⟨N, hN⟩ : ∃ N, N = M.length := ⟨_, rfl⟩
  have hsv := salv_flat M [] [] hri.may
  rw [List.nil_append, List.nil_append, show (flat []).length = 0 from rfl] at hsv
  have PV := Lib.hid (fun A c W (hr : Rd W A (b8 (flat M))) (hc : F ≤ c) => salv_is A F c (flat M) W hr hF.symm hc hri.by_ (by omega))
  rw [hsv] at PV
  rw [← hF, ← hN] at PR
  unfold SalvPost at PV
  obtain ⟨P, hP⟩ : ∃ P, P = fpos 0 M := ⟨_, rfl⟩
  have hPL : P.length = N := by rw [hP, fpos_len, hN]
  have HPG : Hid (∀ k x, M[k]? = some x → ∃ q, P[k]? = some (q, x)) := Lib.hid (by rw [hP]; exact fpos_get M 0)
  rw [← hP, hPL] at PV
  obtain ⟨m1, hm1⟩ : ∃ m1, b1.length = m1 := ⟨_, rfl⟩
  rw [hm1] at c1l l1 ub ⊢
  have PF := Lib.hid (fun W (hW : Below w.heap.size w W) => salv_is A1 m1 c1 b1 W (r1.below hW) hm1 c1l y1 (by omega))
  obtain ⟨l, hl, hok⟩ := salv_ok b1 _ 0 [] (Nat.le_refl _) (Nat.zero_le _)
  rw [List.nil_append] at hl
  rw [hl] at PF
  unfold SalvPost at PF
  have hLl := hok.len
  obtain ⟨J, hJ⟩ : ∃ J, l.length = J := ⟨_, rfl⟩
  rw [hJ] at PF hLl
  have PD := Lib.hid (fun g off p W (hA : A1 = some ⟨g, off, none⟩) (hp : p ≤ m1) (hW : Below w.heap.size w W) => recdecode_is (some ⟨g, off + p, none⟩) (m1 - p) (c1 - p) (b1.drop p) W (rd_rest (p := p) (hA ▸ r1.below hW)) (by rw [List.length_drop, hm1]) (by omega) (y1.drop p) (by omega))
  unfold DecPost at PD
  have HR1 := Lib.hid r1
  have HM1 := Lib.hid hm1
  have HJ := Lib.hid hJ
  have HOK := Lib.hid hok
  have HN := Lib.hid hN
  have hJ2 : J ≤ m1 := by omega
  have hm2 : m1 ≤ 1048576 := by omega
  have hN2 : N ≤ 1048576 := by omega
  clear hsv hP hPL hl hLl hFl hML hri hF hN hm1 hJ hok c0l r0 y0 l0 r1 y1 l1 ub
  go_enter Try.func11, Try.ntmps11
  go_wp2_with fail
  refine PR.out.mono ?_
  rintro e w1 ⟨A3, c3, B3, d3, rfl, ho3, hm3, hb3⟩
  obtain ⟨hnc3, hcm3⟩ := own_cap ho3
  obtain ⟨A3', c3', hv, hcB, hdB, _⟩ := own_shape hm3
  injection hv with hv1 hv2 hv3
  subst hv1 hv3
  have HO1 := Lib.hid ho3
  have HM1' := Lib.hid hm3
  have HB1 := Lib.hid hb3
  clear ho3 hm3 hb3 PR
  go_wp2_with fail
  refine (PV.out A3 c3 _ (rd_own HO1.out) hnc3).mono ?_
  rintro e w2 ⟨A5, c5, rfl, ho5, hb5⟩
  have HO2 := Lib.hid ho5
  have HM2 := Lib.hid (own_below HM1'.out hb5)
  have HB2 := Lib.hid (HB1.out.trans (hb5.mono HB1.out.size))
  clear ho5 hb5 HO1 HM1' HB1 PV
  have hNN : ((N : Int) != (N : Int)) = false := by simp
  go_wp2_with fail
  refine (works_is _).mono ?_
  rintro e w3 ⟨rfl, hb6⟩
  have RP3 := Lib.hid (rd_own (own_below HO2.out hb6))
  have RM3 := Lib.hid (rd_own (own_below HM2.out hb6))
  have HB3 := Lib.hid (HB2.out.trans (hb6.mono HB2.out.size))
  clear hb6 HO2 HM2 HB2
  go_wp2_with fail
  go_loopw [8] (fun i wr => ∃ j : Nat, j ≤ N ∧ i = .int .i64 j ∧ Below w3.heap.size w3 wr) (fun i _ => N - (intOf i).toNat)
  case atStart => exact ⟨0, Nat.zero_le _, rfl, Below.refl _ _⟩
  case round =>
    obtain ⟨j, hj, rfl, hbe⟩ := hrel
    by_cases hlt : j < N
    · obtain ⟨x, hx⟩ : ∃ x, M[j]? = some x := ⟨_, List.getElem?_eq_getElem (by rw [← HN.out]; exact hlt)⟩
      obtain ⟨q, hq⟩ := HPG.out j x hx
      obtain ⟨g, off, rfl, hg, x0, x1, x2, x3, x4, x5, x6⟩ := (RM3.out.below hbe).rec hx
      obtain ⟨g', off', rfl, hg', z0, z1, z2, z3, z4, z5, z6, z7⟩ := (RP3.out.below hbe).fd hq
      have HBE := Lib.hid hbe
      have j0 : (0 : Int) ≤ (j : Int) := by omega
      have j1 : (j : Int) < (N : Int) := by omega
      obtain ⟨xk, xo, xt, xp, xs, xkey, xval⟩ := x
      simp only at x0 x1 x2 x3 x4 x5 x6 z0 z1 z2 z3 z4 z5 z6 z7
      clear hx hq hbe PF PD
      go_wp2_with fail
      go_quiet (fail)
      go_wp2_with fail
      go_roundw
      case rel => exact ⟨j + 1, by omega, by go_num, below_drewN HBE.out _⟩
      case measure => simp [intOf]; omega
    · have hjk : j = N := by omega
      subst hjk
      have HBr := Lib.hid (HB3.out.trans (hbe.mono HB3.out.size))
      clear hbe RM3 RP3 HB3 HPG
      go_wp2_with fail
      refine (PF.out _ HBr.out).mono ?_
      rintro e w4 ⟨A9, c9, rfl, ho9, hb9⟩
      obtain ⟨A9', c9', hv, hc9, _⟩ := own_shape ho9
      injection hv with hv1 hv2 hv3
      subst hv1 hv3
      have RF4 := Lib.hid (rd_own ho9)
      have HB4 := Lib.hid (HBr.out.trans (hb9.mono HBr.out.size))
      clear ho9 hb9 HBr PF
      go_wp2_with fail
      go_loopw [10, 11] (fun at_ i wr => ∃ j t : Nat, j ≤ J + 1 ∧ i = .int .i64 j ∧ at_ = .int .i64 t ∧ Hid (j ≤ J → SalvOk b1 t (l.drop j)) ∧ Below w4.heap.size w4 wr) (fun _ i _ => J + 1 - (intOf i).toNat)
      case atStart => exact ⟨0, 0, Nat.zero_le _, rfl, rfl, Lib.hid (fun _ => HOK.out), Below.refl _ _⟩
      case round =>
        obtain ⟨j, t, hj, rfl, rfl, HS, hbe⟩ := hrel
        have HBE := Lib.hid hbe
        clear HOK
        by_cases hlt : j < J
        · obtain ⟨⟨p, x⟩, hx⟩ : ∃ x, l[j]? = some x := ⟨_, List.getElem?_eq_getElem (by rw [HJ.out]; exact hlt)⟩
          obtain ⟨nn, htE, hpn, hn0, hno, hrd, hok2⟩ := (HS.out (by omega)).at_ hx
          rw [HM1.out] at hpn
          have HNO := Lib.hid hno
          have HRD := Lib.hid hrd
          have HOK2 := Lib.hid hok2
          obtain ⟨g9, off9, rfl, hg9, z0, z1, z2, z3, z4, z5, z6, z7⟩ := (RF4.out.below hbe).fd hx
          have HRF := Lib.hid ((RF4.out.below hbe).fd hx)
          simp only at z0
          have j0 : (0 : Int) ≤ (j : Int) := by omega
          have j1 : (j : Int) < (J : Int) := by omega
          have j2 : (j : Int) ≤ (J : Int) := by omega
          have j3 : decide ((p : Int) < (t : Int)) = false := decide_eq_false (by omega)
          have j4 : decide ((m1 : Int) < (p : Int)) = false := decide_eq_false (by omega)
          have j5 : decide (p < t) = false := decide_eq_false (by omega)
          have j6 : decide (m1 < p) = false := decide_eq_false (by omega)
          have HX := Lib.hid hx
          clear hx hno hrd hok2 hbe z1 z2 z3 z4 z5 z6 z7 HS HRF
          go_wp2_with fail
          go_loopw [13] (fun kv wk => ∃ kk : Nat, t ≤ kk ∧ kk ≤ p ∧ kv = .int .i64 kk ∧ Below w4.heap.size w4 wk) (fun kv _ => p - (intOf kv).toNat)
          case atStart => exact ⟨t, Nat.le_refl _, htE, rfl, HBE.out⟩
          case round =>
            obtain ⟨kk, hk1, hk2, rfl, hbk⟩ := hrel
            by_cases hkl : kk < p
            · have hz := HNO.out kk hk1 hkl
              obtain ⟨g, off, hA, hg, _⟩ := HR1.out.some_ (by have := HM1.out; omega)
              have P1 := Lib.hid (PD.out g off kk _ hA (by omega) (HB4.out.trans (hbk.mono HB4.out.size)))
              subst hA
              obtain ⟨⟨⟨k, o, tt, pp, s, key, vl⟩, n1, z⟩, hqd⟩ : ∃ r, r = rdec (b1.drop kk) := ⟨_, rfl⟩
              rw [← hqd] at P1 hz
              unfold Rc.v at P1
              simp only at P1 hz
              have i0 : (0 : Int) ≤ (kk : Int) := by omega
              have i1 : (kk : Int) ≤ (m1 : Int) := by omega
              have i2 : ¬ c1 = kk := by omega
              have i3 : (kk : Int) < (p : Int) := by omega
              have hz' : ((z : Int) == 0) = false := by rw [beq_eq_false_iff_ne]; omega
              have HBK := Lib.hid hbk
              clear hqd hz hbk
              go_wp2_with fail
              refine P1.out.mono ?_
              rintro e w8 ⟨rfl, hb8⟩
              have HB8 := Lib.hid (HBK.out.trans (hb8.mono HBK.out.size))
              clear hb8 P1
              go_wp2_with fail
              go_roundw
              case rel => exact ⟨kk + 1, by omega, by omega, by go_num, HB8.out.alloc HB8.out.size _⟩
              case measure => simp [intOf]; omega
            · have hkE : kk = p := by omega
              subst hkE
              have HBK := Lib.hid hbk
              clear hbk HNO
              obtain ⟨g, off, hA, hg, _⟩ := HR1.out.some_ (by have := HM1.out; omega)
              have P1 := Lib.hid (PD.out g off kk _ hA (by omega) (HB4.out.trans (HBK.out.mono HB4.out.size)))
              rw [HRD.out] at P1
              subst hA
              obtain ⟨k, o, tt, pp, s, key, vl⟩ := x
              unfold Rc.v at P1
              simp only at P1
              have i0 : (0 : Int) ≤ (kk : Int) := by omega
              have i1 : (kk : Int) ≤ (m1 : Int) := by omega
              have i2 : ¬ c1 = kk := by omega
              have hw : IntKind.i64.wrap ((kk : Int) + (nn : Int)) = (kk : Int) + (nn : Int) := by rw [IntKind.wrap_i64]; omega
              have n0 : ((0 : Int) != 0) = false := rfl
              go_wp2_with fail
              refine P1.out.mono ?_
              rintro e w8 ⟨rfl, hb8⟩
              have HB8 := Lib.hid (HBK.out.trans (hb8.mono HBK.out.size))
              have hcel := (RF4.out.below HB8.out).fd HX.out
              obtain ⟨g', off', he, hg', z0, z1, z2, z3, z4, z5, z6, z7⟩ := hcel
              injection he with he
              injection he with he1 he2
              subst he1 he2
              simp only at z0 z1 z2 z3 z4 z5 z6 z7
              clear hb8 P1 HRD
              go_wp2_with fail
              go_quiet (fail)
              go_wp2_with fail
              go_roundw
              case rel => exact ⟨j + 1, kk + nn, by omega, by go_num, by go_num, Lib.hid (fun _ => HOK2.out), below_drewN (HB8.out.alloc HB8.out.size _) _⟩
              case measure => simp [intOf]; omega
        · by_cases hle : j = J
          · subst hle
            obtain ⟨htE', hno⟩ := (HS.out (Nat.le_refl _)).last (by rw [HJ.out]; exact Nat.le_refl _)
            rw [HM1.out] at htE' hno
            have htE : t ≤ m1 := htE'
            have HNO := Lib.hid hno
            have j0 : (0 : Int) ≤ (j : Int) := by omega
            have j3 : decide ((m1 : Int) < (t : Int)) = false := decide_eq_false (by omega)
            have j5 : decide (m1 < t) = false := decide_eq_false (by omega)
            clear hno hbe HS htE'
            go_wp2_with fail
            go_loopw [13] (fun kv wk => ∃ kk : Nat, t ≤ kk ∧ kk ≤ m1 ∧ kv = .int .i64 kk ∧ Below w4.heap.size w4 wk) (fun kv _ => m1 - (intOf kv).toNat)
            case atStart => exact ⟨t, Nat.le_refl _, htE, rfl, HBE.out⟩
            case round =>
              obtain ⟨kk, hk1, hk2, rfl, hbk⟩ := hrel
              by_cases hkl : kk < m1
              · have hz := HNO.out kk hk1 hkl
                obtain ⟨g, off, hA, hg, _⟩ := HR1.out.some_ (by have := HM1.out; omega)
                have P1 := Lib.hid (PD.out g off kk _ hA (by omega) (HB4.out.trans (hbk.mono HB4.out.size)))
                subst hA
                obtain ⟨⟨⟨k, o, tt, pp, s, key, vl⟩, n1, z⟩, hqd⟩ : ∃ r, r = rdec (b1.drop kk) := ⟨_, rfl⟩
                rw [← hqd] at P1 hz
                unfold Rc.v at P1
                simp only at P1 hz
                have i0 : (0 : Int) ≤ (kk : Int) := by omega
                have i1 : (kk : Int) ≤ (m1 : Int) := by omega
                have i2 : ¬ c1 = kk := by omega
                have i3 : (kk : Int) < (m1 : Int) := by omega
                have hz' : ((z : Int) == 0) = false := by rw [beq_eq_false_iff_ne]; omega
                have HBK := Lib.hid hbk
                clear hqd hz hbk
                go_wp2_with fail
                refine P1.out.mono ?_
                rintro e w8 ⟨rfl, hb8⟩
                have HB8 := Lib.hid (HBK.out.trans (hb8.mono HBK.out.size))
                clear hb8 P1
                go_wp2_with fail
                go_roundw
                case rel => exact ⟨kk + 1, by omega, by omega, by go_num, HB8.out.alloc HB8.out.size _⟩
                case measure => simp [intOf]; omega
              · have hkE : kk = m1 := by omega
                subst hkE
                have HBK := Lib.hid hbk
                clear hbk HNO
                go_wp2_with fail
                go_roundw
                case rel => exact ⟨j + 1, t, by omega, by go_num, rfl, Lib.hid (fun h => by omega), HBK.out⟩
                case measure => simp [intOf] <;> omega
          · have hjJ : j = J + 1 := by omega
            subst hjJ
            clear hbe HS
            go_wp2_with fail
            go_ret
            exact ⟨rfl, HB4.out.trans (HBE.out.mono HB4.out.size)⟩
end Go.Proofs.Ytjipebedibjoiaa
