/- The walk of RecordSalvages. -/
import Derived.Test.YtjipebedibjoiaaRecRSalv
import Derived.Test.YtjipebedibjoiaaRecFull
namespace Go.Proofs.Ytjipebedibjoiaa
open Go Go.RowKit
set_option linter.unusedVariables false
set_option linter.unusedSimpArgs false

theorem own_put8 {w : World} {base g n c : Nat} {e : TypeId} {size : Nat} {xs : List Value} (h : w.ownsRow base e size (.slice (some ⟨g, 0, none⟩) n c) n xs) (j : Nat) (u0 u1 u2 u3 u4 u5 u6 u7 : Value) :
    ((((((((w.setCell ⟨g, j, none⟩ u0).setCell ⟨g, j + 1, none⟩ u1).setCell ⟨g, j + 2, none⟩ u2).setCell ⟨g, j + 3, none⟩ u3).setCell ⟨g, j + 4, none⟩ u4).setCell ⟨g, j + 5, none⟩ u5).setCell ⟨g, j + 6, none⟩ u6).setCell ⟨g, j + 7, none⟩ u7).ownsRow base e size (.slice (some ⟨g, 0, none⟩) n c) n ((((((((xs.set j u0).set (j + 1) u1).set (j + 2) u2).set (j + 3) u3).set (j + 4) u4).set (j + 5) u5).set (j + 6) u6).set (j + 7) u7) ∧
    w.grownBy ((((((((w.setCell ⟨g, j, none⟩ u0).setCell ⟨g, j + 1, none⟩ u1).setCell ⟨g, j + 2, none⟩ u2).setCell ⟨g, j + 3, none⟩ u3).setCell ⟨g, j + 4, none⟩ u4).setCell ⟨g, j + 5, none⟩ u5).setCell ⟨g, j + 6, none⟩ u6).setCell ⟨g, j + 7, none⟩ u7) (some g) := by
  have h0 := h.stored j u0
  have h1 := h0.1.stored (j + 1) u1
  have h2 := h1.1.stored (j + 2) u2
  have h3 := h2.1.stored (j + 3) u3
  have h4 := h3.1.stored (j + 4) u4
  have h5 := h4.1.stored (j + 5) u5
  have h6 := h5.1.stored (j + 6) u6
  have h7 := h6.1.stored (j + 7) u7
  exact ⟨h7.1, grown_trans h0.2 (grown_trans h1.2 (grown_trans h2.2 (grown_trans h3.2 (grown_trans h4.2 (grown_trans h5.2 (grown_trans h6.2 h7.2))))))⟩
def fd1n (p : Int) : List Value := [.int .i64 p, .int .i64 0, .int .i64 0, .int .i64 0, .int .i64 0, .int .i64 0, .string ⟨#[]⟩, .string ⟨#[]⟩]
theorem fd1n_one : ∀ u ∈ fd1n (-99) ++ fd1n (-98), u.oneCell' = true := by
  intro u hu
  simp only [fd1n, List.mem_append, List.mem_cons, List.not_mem_nil, or_false] at hu
  rcases hu with (rfl | rfl | rfl | rfl | rfl | rfl | rfl | rfl) | rfl | rfl | rfl | rfl | rfl | rfl | rfl | rfl <;> rfl
theorem own_len8 {w : World} {base n : Nat} {e : TypeId} {size : Nat} {v : Value} {xs : List Value} (h : w.ownsRow base e size v n xs) : xs.length = n * size := h.1
set_option maxHeartbeats 2000000 in
set_option maxRecDepth 100000 in
theorem recordSalvagesU_walk (A0 : Option Addr) (c0 : Nat) (b0 : List Nat) (w : World) (c0l : b0.length ≤ c0) (r0 : Rd w A0 (b8 b0)) (y0 : By b0) (l0 : b0.length ≤ 140737488351232) (ub : b0.length ≤ 1048576) :
    Calls Try.prog 6 #[.slice A0 b0.length c0] w fun e w' => e = .returned (.bool true) ∧ Below w.heap.size w w' := by
  obtain ⟨m, hm⟩ : ∃ m, m = b0.length := ⟨_, rfl⟩
  have HR0 := Lib.hid r0
  have HY := Lib.hid y0
  have P1 := Lib.hid (fun W (hb : Below w.heap.size w W) => roomy_any A0 m c0 b0 W (r0.below hb) hm.symm (by omega))
  have PD := Lib.hid (fun A c x W (hr : Rd W A (b8 x)) (hx : x.length = m) (hc : m ≤ c) (hy : By x) => salv_is A m c x W hr hx hc hy (by omega))
  have PR := Lib.hid (fun W (hb : Below w.heap.size w W) => rsalv_is A0 m c0 b0 W (r0.below hb) hm.symm (by omega) y0 (by omega))
  have PD0 := Lib.hid (fun A c W (hr : Rd W A (b8 b0)) (hc : m ≤ c) => salv_is A m c b0 W hr hm.symm hc y0 (by omega))
  have hfew := salv_few b0
  obtain ⟨l, hq⟩ : ∃ q, q = salvW b0 0 [] := ⟨_, rfl⟩
  rw [← hq] at PR PD0 hfew
  unfold SalvPost at PD PR PD0
  have hN40 : l.length ≤ 1048576 := by omega
  obtain ⟨N, hN⟩ : ∃ N, l.length = N := ⟨_, rfl⟩
  rw [hN] at PR PD0 hN40
  have HN := Lib.hid hN
  have hm2 : m ≤ 1048576 := by omega
  rw [← hm] at c0l ⊢
  have HM := Lib.hid hm
  clear r0 y0 hm l0 hq hN hfew ub
  go_enter Try.func6, Try.ntmps6
  go_wp2_with fail
  refine (P1.out w (Below.refl _ _)).mono ?_
  rintro e wa ⟨Af, cf, rfl, hof, hba⟩
  obtain ⟨gf, rfl, hgf1, hgf2, hcf, hcm⟩ := own_pos hof (by simp)
  have hfl : (b0 ++ [165, 90, 167, 91]).length = m + 4 := by simp [HM.out]
  rw [hfl] at hof hcf
  have HF := Lib.hid (⟨hof, hba⟩ : Full w wa gf cf m (b0 ++ [165, 90, 167, 91]))
  (rw [hfl])
  clear hof hba hfl
  have i1 : (m : Int) ≤ (cf : Int) := by omega
  have i0 : (0 : Int) ≤ (m : Int) := by omega
  have i2 : m ≤ cf := by omega
  have hF0 : (b0.map fl ++ [165, 90, 167, 91]).take m = b0.map fl := by rw [List.take_append_of_le_length (by simp [HM.out]), List.take_of_length_le (by simp [HM.out])]
  have hF1 : (b0 ++ [165, 90, 167, 91]).take m = b0 := by rw [List.take_append_of_le_length (by simp [HM.out]), List.take_of_length_le (by simp [HM.out])]
  have F0 := Lib.hid hF0
  have F1 := Lib.hid hF1
  clear hF0 hF1 hgf1 hgf2
  go_wp2_with fail
  refine (flipped_own w.heap.size gf (m + 4) cf m cf b0 [165, 90, 167, 91] wa HF.out.f HY.out HM.out.symm (by omega)).mono ?_
  rintro e w3 ⟨rfl, hof3, hg3⟩
  have HF3 := Lib.hid (HF.out.flip hof3 hg3)
  have G3 := Lib.hid HF3.out.rf
  rw [F0.out] at G3
  clear hof3 hg3 HF
  go_wp2_with fail
  refine (PD.out _ cf (b0.map fl) w3 G3.out (by simp [HM.out]) i2 (by_fl b0)).mono ?_
  rintro e w4 ⟨A4, c4, rfl, -, hb4⟩
  have HF4 := Lib.hid (HF3.out.below hb4)
  clear hb4 HF3 G3
  go_wp2_with fail
  refine (flipped_own w.heap.size gf (m + 4) cf m cf (b0.map fl) [165, 90, 167, 91] w4 HF4.out.f (by_fl b0) (by simp [HM.out]) (by omega)).mono ?_
  rintro e w5 ⟨rfl, hof5, hg5⟩
  rw [map_fl_fl HY.out] at hof5
  have HF5 := Lib.hid (HF4.out.flip hof5 hg5)
  have G5 := Lib.hid HF5.out.rf
  rw [F1.out] at G5
  clear hof5 hg5 HF4
  go_wp2_with fail
  refine (PD0.out _ cf w5 G5.out i2).mono ?_
  rintro e w6 ⟨A6, c6, rfl, ho6, hb6⟩
  have HO6 := Lib.hid ho6
  have HF6 := Lib.hid (HF5.out.below hb6)
  have hs6 := hb6.size
  have G6 := Lib.hid HF6.out.rf
  rw [F1.out] at G6
  clear hb6 ho6 HF5 G5
  go_wp2_with fail
  refine (PD0.out _ cf w6 G6.out i2).mono ?_
  rintro e w7 ⟨A7, c7, rfl, ho7, hb7⟩
  have HO7 := Lib.hid ho7
  have HF7 := Lib.hid (HF6.out.below hb7)
  have HB7 := Lib.hid hb7
  clear hb7 ho7 G6
  go_wp2_with fail
  go_loopw [6] (fun i wr => ∃ (j : Nat) (zs : List Value), j ≤ N ∧ i = .int .i64 j ∧ wr.ownsRow w6.heap.size 48 8 (.slice A7 N c7) N zs ∧ Below w6.heap.size w6 wr) (fun i _ => N - (intOf i).toNat)
  case atStart => exact ⟨0, _, Nat.zero_le _, rfl, HO7.out, HB7.out⟩
  case round =>
    obtain ⟨j, zs, hj, rfl, hown, hbe⟩ := hrel
    by_cases hlt : j < N
    · obtain ⟨g, hA, hgb, hgl, _, _⟩ := own_pos hown (by omega)
      subst hA
      have hz := own_len8 hown
      have hc : ∀ q, q < 8 → ∃ u, wr.cell? ⟨g, j * 8 + q, none⟩ = some u := fun q hq => ⟨_, (hown.cellAt (j * 8 + q) (by omega)).trans (List.getElem?_eq_getElem (by omega))⟩
      obtain ⟨y0, d0⟩ := hc 0 (by omega)
      obtain ⟨y1, d1⟩ := hc 1 (by omega)
      obtain ⟨y2, d2⟩ := hc 2 (by omega)
      obtain ⟨y3, d3⟩ := hc 3 (by omega)
      obtain ⟨y4, d4⟩ := hc 4 (by omega)
      obtain ⟨y5, d5⟩ := hc 5 (by omega)
      obtain ⟨y6, d6⟩ := hc 6 (by omega)
      obtain ⟨y7, d7⟩ := hc 7 (by omega)
      rw [Nat.add_zero] at d0
      have f0 := hown.frozenAt (j * 8)
      have f1 := hown.frozenAt (j * 8 + 1)
      have f2 := hown.frozenAt (j * 8 + 2)
      have f3 := hown.frozenAt (j * 8 + 3)
      have f4 := hown.frozenAt (j * 8 + 4)
      have f5 := hown.frozenAt (j * 8 + 5)
      have f6 := hown.frozenAt (j * 8 + 6)
      have f7 := hown.frozenAt (j * 8 + 7)
      have hwj : IntKind.i64.wrap (-1 - (j : Int)) = -1 - (j : Int) := by rw [IntKind.wrap_i64]; omega
      have HS := Lib.hid (own_put8 hown (j * 8) (.int .i64 (-1 - (j : Int))) (.int .i64 0) (.int .i64 0) (.int .i64 0) (.int .i64 0) (.int .i64 0) (.string ⟨#[]⟩) (.string ⟨#[]⟩))
      have HBE := Lib.hid hbe
      have j0 : (0 : Int) ≤ (j : Int) := by omega
      have j1 : (j : Int) < (N : Int) := by omega
      clear hown hz hc HO7 hbe HB7 HF7 HO6 HF6 PD PD0 PR P1
      go_wp2
      go_roundw
      case rel => exact ⟨j + 1, _, by omega, by go_num, HS.out.1, HBE.out.trans (below_of_grown HS.out.2 (by have := HBE.out.size; omega) (fun q hq => by injection hq with hq; subst hq; exact hgb))⟩
      case measure => simp [intOf]; omega
    · have HO8 := Lib.hid hown
      have HB8 := Lib.hid hbe
      clear hown hbe HO7 HB7 HF7
      obtain ⟨w8, hw8⟩ : ∃ w8 : World, w8 = wr := ⟨_, rfl⟩
      rw [← hw8] at HO8 HB8 ⊢
      clear hw8
      go_wp2_with (at_builtin; (refine appF _ rfl (.tmp 44) (.tmp 47) rfl w6.heap.size _ N zs rfl (HO8.out.alloc _) (some ⟨w8.heap.size, 0, none⟩) 2 2 (fd1n (-99) ++ fd1n (-98)) rfl rfl fd1n_one (rd_lit w8 _ _) (by omega) (by have := HB8.out.size; simp; omega) ?_); intro v9 w9 hown9 hg9 hn9; have HB9 := Lib.hid ((HB8.out.alloc HB8.out.size (.cells (fd1n (-99) ++ fd1n (-98)).toArray 48)).trans (below_of_grown hg9 (by have := HB8.out.size; simp; omega) (fun q hq => (HO8.out.lt q hq).1))); obtain ⟨A9, c9, hv9, _⟩ := own_shape hown9; subst hv9; clear hown9 hg9 hn9)
      have HF9 := Lib.hid (HF6.out.below HB9.out)
      have HO69 := Lib.hid (own_below HO6.out HB9.out)
      clear HO8 HB8 HF6 HO6
      refine (PR.out _ HF9.out.be).mono ?_
      rintro e wb ⟨Ab, cb, rfl, hob, hbb⟩
      have HOb := Lib.hid hob
      have HFb := Lib.hid (HF9.out.below hbb)
      have HO6b := Lib.hid (own_below HO69.out hbb)
      clear hob hbb HF9 HO69
      have bN : ((N : Int) != (N : Int)) = false := by simp
      go_wp2_with fail
      refine (P1.out _ HFb.out.be).mono ?_
      rintro e wc ⟨Ac, cc, rfl, hoc, hbc⟩
      have hfl : (b0 ++ [165, 90, 167, 91]).length = m + 4 := by simp [HM.out]
      rw [hfl] at hoc ⊢
      have HFc := Lib.hid (HFb.out.below hbc)
      have HOc := Lib.hid hoc
      have HO6c := Lib.hid (own_below HO6b.out hbc)
      have HObc := Lib.hid (own_below HOb.out hbc)
      clear hoc hbc HFb HO6b HOb
      go_wp2_with fail
      refine (same_yes (some ⟨gf, 0, none⟩) Ac (m + 4) (m + 4) cf cc (b0 ++ [165, 90, 167, 91]) (b0 ++ [165, 90, 167, 91]) wc (rd_own HFc.out.f) (rd_own HOc.out) hfl hfl (by omega) (by omega) rfl).mono ?_
      rintro e wd ⟨rfl, dd, rfl⟩
      have HFd := Lib.hid (below_drewN HFc.out.be dd)
      have RA := Lib.hid ((rd_own HO6c.out).below (below_drewN (Below.refl _ _) dd))
      have RB := Lib.hid ((rd_own HObc.out).below (below_drewN (Below.refl _ _) dd))
      obtain ⟨w0, hw0⟩ : ∃ w0 : World, w0 = wc.drewN dd := ⟨_, rfl⟩
      rw [← hw0] at HFd RA RB ⊢
      have hwrN : IntKind.i64.wrap ((N : Int) + 2) = (N : Int) + 2 := by rw [IntKind.wrap_i64]; omega
      have bN2 : ((N : Int) + 2 != (N : Int) + 2) = false := by simp
      clear hw0 HFc HO6c HObc HOc PD PD0 PR P1
      go_wp2_with fail
      go_loopw [8] (fun i wr => ∃ j d : Nat, j ≤ N ∧ i = .int .i64 j ∧ wr = w0.drewN d) (fun i _ => N - (intOf i).toNat)
      case atStart => exact ⟨0, 0, Nat.zero_le _, rfl, rfl⟩
      case round =>
        obtain ⟨q, d, hq, rfl, rfl⟩ := hrel
        by_cases hlt2 : q < N
        · obtain ⟨x, hx⟩ : ∃ x, l[q]? = some x := ⟨_, List.getElem?_eq_getElem (by rw [HN.out]; exact hlt2)⟩
          obtain ⟨g1, off1, rfl, hg1, hc0, hc1, hc2, hc3, hc4, hc5, hc6, hc7⟩ := RA.out.fd hx
          obtain ⟨g2, off2, rfl, hg2, hd0, hd1, hd2, hd3, hd4, hd5, hd6, hd7⟩ := RB.out.fd hx
          obtain ⟨xp, xk, xo, xt, xpp, xs, xkey, xval⟩ := x
          simp only at hc0 hc1 hc2 hc3 hc4 hc5 hc6 hc7 hd0 hd1 hd2 hd3 hd4 hd5 hd6 hd7
          have q0 : (0 : Int) ≤ (q : Int) := by omega
          have q1 : (q : Int) < (N : Int) := by omega
          clear hx RA RB HFd
          go_wp2
          go_quiet (fail)
          go_wp2
          go_roundw
          case rel => exact ⟨q + 1, _, by omega, by go_num, rfl⟩
          case measure => simp [intOf]; omega
        · clear RA RB
          go_wp2
          go_ret
          exact ⟨rfl, below_drewN HFd.out d⟩
end Go.Proofs.Ytjipebedibjoiaa
