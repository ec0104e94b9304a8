/- The walk of WireDamage. -/
import Derived.Test.YtljfmcgeiceagaaDoorWiDmP
import Derived.Deep.CutRange
namespace Go.Proofs.YtljfmcgeiceagaaDoor
open Go Go.RowKit
set_option linter.unusedVariables false
set_option linter.unusedSimpArgs false

set_option maxHeartbeats 4000000 in
set_option maxRecDepth 100000 in
theorem wireDamage_bad (A0 : Option Addr) (c0 : Nat) (b0 : List Nat) (a1 : Int) (A2 : Option Addr) (n2 c2 : Nat) (A3 : Option Addr) (n3 c3 : Nat) (w : World) (ht : Tab w) (r0 : Rd w A0 (b8 b0)) (y0 : By b0) (l0 : b0.length ≤ 140737488351232) (hf : (frm b0).2 ≠ 0) :
    Calls Tryd.prog 5 #[.slice A0 b0.length c0, .int .i64 a1, .slice A2 n2 c2, .slice A3 n3 c3] w fun e w' => e = .returned (.bool true) ∧ Below w.heap.size w w' := by
  have PF := Lib.hid (frame_is A0 b0.length c0 b0 w r0 rfl y0 l0)
  have HT := Lib.hid ht
  obtain ⟨⟨xs, x⟩, hx⟩ : ∃ p, p = frm b0 := ⟨_, rfl⟩
  rw [← hx] at PF hf
  simp only at hf
  have hx0 : (x != 0) = true := by rw [bne_iff_ne]; exact hf
  unfold FramePost at PF
  simp only at PF
  clear r0 y0 hf hx ht
  go_enter Tryd.func5, Tryd.ntmps5
  go_wp2_with fail
  refine PF.out.mono ?_
  rintro e w1 ⟨A1, c1, rfl, ho1, hb1⟩
  have HB1 := Lib.hid hb1
  clear ho1 hb1 PF
  go_wp2_with fail
  refine (works16_is w1 (HT.out.bel HB1.out)).mono ?_
  rintro e w2 ⟨rfl, hb2⟩
  have HB2 := Lib.hid (HB1.out.trans (hb2.mono HB1.out.size))
  clear hb2
  go_wp2_with fail
  go_ret
  exact ⟨rfl, HB2.out⟩
set_option maxHeartbeats 8000000 in
set_option maxRecDepth 100000 in
theorem wireDamage_good (A0 : Option Addr) (c0 : Nat) (b0 : List Nat) (a1 : Int) (A2 : Option Addr) (c2 : Nat) (b2 : List Nat) (A3 : Option Addr) (c3 : Nat) (b3 : List Nat) (w : World) (ht : Tab w) (r0 : Rd w A0 (b8 b0)) (y0 : By b0) (w1 : -9223372036854775808 ≤ a1 ∧ a1 ≤ 9223372036854775807) (r2 : Rd w A2 (b8 b2)) (y2 : By b2) (l2 : b2.length ≤ 140737488351232) (r3 : Rd w A3 (b8 b3)) (y3 : By b3) (l3 : b3.length ≤ 140737488351232) (h1 : 0 < b0.length) (h2 : b0.length ≤ 4087) (hf : frm b0 = (wrap 197 b0, 0)) :
    Calls Tryd.prog 5 #[.slice A0 b0.length c0, .int .i64 a1, .slice A2 b2.length c2, .slice A3 b3.length c3] w fun e w' => e = .returned (.bool true) ∧ Below w.heap.size w w' := by
  have PF := Lib.hid (frame_is A0 b0.length c0 b0 w r0 rfl y0 (by omega))
  rw [hf] at PF
  have HT := Lib.hid ht
  have hX := wrap_length 197 b0
  have hbd := bd_wrap y0 h1 h2
  have hless := bd_less h1 h2
  have hmore := fun (h : 0 < b3.length) => bd_more (m := b3) h1 h2 h
  have hdam := fun p ha hb hc hd he => bd_damage (p := p) (o := b2) y0 h2 y2 ha hb hc hd he
  have hby : By (wrap 197 b0) := wrap_by (by omega) y0
  obtain ⟨V, hV⟩ : ∃ X, X = wrap 197 b0 := ⟨_, rfl⟩
  rw [← hV] at PF hX hbd hless hmore hdam hby
  obtain ⟨N, hn⟩ : ∃ n, V.length = n := ⟨_, rfl⟩
  have HN := Lib.hid hn
  rw [hn] at hX hless
  obtain ⟨m, hm⟩ : ∃ m, b2.length = m := ⟨_, rfl⟩
  have HM := Lib.hid hm
  obtain ⟨m3, hm3⟩ : ∃ m, b3.length = m := ⟨_, rfl⟩
  have HM3 := Lib.hid hm3
  obtain ⟨m0, hm0⟩ : ∃ m, b0.length = m := ⟨_, rfl⟩
  rw [hm] at l2 hdam ⊢
  rw [hm3] at l3 hmore ⊢
  rw [hm0] at PF hX h1 h2 hdam ⊢
  have hN10 : 10 ≤ N := by omega
  have hN4 : N ≤ 4096 := by omega
  have HX : Hid (N = m0 + 9) := Lib.hid hX
  unfold FramePost at PF
  simp only [hn] at PF
  have PB0 := Lib.hid (fun A c W (h : Rd W A (b8 V)) (hc : N ≤ c) => body_is A N c V W h hn hc hby (by omega))
  rw [hbd] at PB0
  have PB1 := Lib.hid (fun A c W (h : Rd W A (b8 V)) (hc : N ≤ c) => body_is A (N - 1) c (V.take (N - 1)) W (rd_take8 h _) (by rw [List.length_take]; omega) (by omega) (fun x hx => hby x (List.mem_of_mem_take hx)) (by omega))
  rw [hless] at PB1
  have PB2 := Lib.hid (fun A c W (h : Rd W A (b8 (V ++ b3))) (hc : N + m3 ≤ c) => body_is A (N + m3) c (V ++ b3) W h (by rw [List.length_append, hn, hm3]) hc (By.append hby y3) (by omega))
  have PB3 := Lib.hid (fun A c Y W (h : Rd W A (b8 Y)) (hl : Y.length = N) (hy : By Y) (hc : N ≤ c) => body_is A N c Y W h hl hc hy (by omega))
  obtain ⟨⟨qs, qe⟩, hq⟩ : ∃ q, q = bd (V ++ b3) := ⟨_, rfl⟩
  have hqe : (m3 = 0 → qe = 0) ∧ (0 < m3 → qe = 160) := by
    constructor
    · intro h0
      have : b3 = [] := List.length_eq_zero_iff.1 (by omega)
      rw [this, List.append_nil, hbd] at hq
      injection hq
    · intro h0
      rw [hmore h0] at hq
      injection hq
  rw [← hq] at PB2
  unfold FramePost at PB0 PB1 PB2 PB3
  simp only [hm0] at PB0
  simp only at PB1 PB2
  have HQ := Lib.hid hqe
  have HDM : Hid (∀ P, 1 ≤ m → m ≤ 4 → P + m ≤ N → (9 ≤ P ∨ P + m ≤ 9) → (bd (over V P b2)).2 = 0 → over V P b2 = V) := Lib.hid (fun P a b c d e => hdam P a b (by omega) d e)
  have HBD : Hid (bd V = (b0, 0)) := Lib.hid hbd
  have HVB := Lib.hid hby
  have HR2 := Lib.hid r2
  have HR3 := Lib.hid r3
  have HY2 := Lib.hid y2
  clear r0 y0 r2 y2 r3 y3 hf hV hbd hless hmore hdam hby hn hm hm3 hm0 hX ht hq hqe
  go_enter Tryd.func5, Tryd.ntmps5
  go_wp2_with fail
  refine PF.out.mono ?_
  rintro e x1 ⟨A1, c1, rfl, ho1, hb1⟩
  obtain ⟨g, rfl, hg0, hg1, hgc, _⟩ := own_pos ho1 (by omega)
  have HO1 := Lib.hid (rd_own ho1)
  have HB1 := Lib.hid hb1
  clear ho1 hb1 PF
  have i0 : (0 : Int) ≤ (N : Int) := by omega
  have e0 : ((N : Int) == 0) = false := by rw [beq_eq_false_iff_ne]; omega
  go_wp2_with fail
  refine (PB0.out (some ⟨g, 0, none⟩) c1 x1 HO1.out hgc).mono ?_
  rintro e x2 ⟨A2', c2', rfl, _, hb2⟩
  have HB2 := Lib.hid hb2
  clear hb2
  have i1 : IntKind.i64.wrap ((N : Int) - 1) = ((N - 1 : Nat) : Int) := by rw [IntKind.wrap_i64]; omega
  have i2 : (0 : Int) ≤ ((N - 1 : Nat) : Int) := by omega
  have i3 : ((N - 1 : Nat) : Int) ≤ (c1 : Int) := by omega
  go_wp2_with fail
  refine (PB1.out (some ⟨g, 0, none⟩) c1 x2 (HO1.out.below HB2.out) hgc).mono ?_
  rintro e x3 ⟨A3', c3', rfl, _, hb3⟩
  have HB3 := Lib.hid (HB2.out.trans (hb3.mono HB2.out.size))
  clear hb3 HB2
  have T3 := Lib.hid (HB1.out.trans (HB3.out.mono HB1.out.size))
  have RV3 := Lib.hid (HO1.out.below HB3.out)
  have h0 := Lib.hid (own_lit x3 x3.heap.size [] 5 0 (Nat.le_refl _) (by decide) rfl)
  have hr3 := Lib.hid (RV3.out.below ((Below.refl x3.heap.size x3).alloc (Nat.le_refl _) (.cells [].toArray 5)))
  clear HB1 HB3 HO1 PB0 PB1
  go_wp2_with (first
    | (at_builtin; (refine app8 _ rfl (.tmp 47) (.tmp 48) rfl x3.heap.size _ 0 [] rfl h0.out (some ⟨g, 0, none⟩) N c1 V rfl HN.out hr3.out (by omega) (by simp) ?_); intro v1 x4 hown1 hg1 hn1; have HO4 := Lib.hid hown1; have HB4 := Lib.hid (((Below.refl x3.heap.size x3).alloc (Nat.le_refl _) (.cells [].toArray 5)).trans (below_of_grown hg1 (by simp) (fun k hk => (h0.out.lt k hk).1))); clear hown1 hg1 hn1)
    | (at_builtin; (refine app8 _ rfl (.tmp 49) (.tmp 50) rfl x3.heap.size v1 _ V rfl HO4.out A3 m3 c3 b3 rfl HM3.out (HR3.out.below (T3.out.trans (HB4.out.mono T3.out.size))) (by omega) HB4.out.size ?_); intro v2 x5 hown2 hg2 hn2; (rw [Nat.zero_add] at hown2); have HO5 := Lib.hid hown2; have HB5 := Lib.hid (HB4.out.trans (below_of_grown hg2 HB4.out.size (fun k hk => (HO4.out.lt k hk).1))); obtain ⟨A5, c5, hv5, hnc5, hcm5, hA5⟩ := own_shape hown2; subst hv5; clear hown2 hg2 hn2 hA5))
  refine (PB2.out A5 c5 x5 (rd_own HO5.out) hnc5).mono ?_
  rintro e x6 ⟨A6, c6, rfl, _, hb6⟩
  have B6 := Lib.hid (HB5.out.trans (hb6.mono HB5.out.size))
  have T6 := Lib.hid (T3.out.trans (B6.out.mono T3.out.size))
  have RV6 := Lib.hid (RV3.out.below B6.out)
  clear hb6 HO4 HO5 HB4 HB5 h0 hr3 PB2 B6 RV3 T3
  obtain ⟨BB, q1, q2⟩ : ∃ B : Bool, (qe == 0) = B ∧ ((m3 : Int) == 0) = B := by
    by_cases h : m3 = 0
    · exact ⟨true, by rw [HQ.out.1 h]; rfl, by rw [h]; rfl⟩
    · exact ⟨false, by rw [HQ.out.2 (by omega)]; rfl, by rw [beq_eq_false_iff_ne]; omega⟩
  obtain ⟨bd, hbd⟩ : ∃ bd : Bool, decide (a1 < 0 ∨ m < 1 ∨ 4 < m ∨ (N : Int) - (m : Int) < a1 ∨ (a1 < 9 ∧ 9 < a1 + (m : Int))) = bd := ⟨_, rfl⟩
  have HBD2 := Lib.hid hbd
  clear hbd
  go_upto_region 11 with (fail)
  clear q1 q2 HQ
  go_cut [100] from 21 (fun s100 wx => s100 = .bool bd ∧ wx = x6)
  case first =>
    have hw1 : IntKind.i64.wrap ((N : Int) - (m : Int)) = (N : Int) - (m : Int) := by rw [IntKind.wrap_i64]; omega
    have hT : (a1 < 0 ∨ m < 1 ∨ 4 < m ∨ (N : Int) - (m : Int) < a1 ∨ (a1 < 9 ∧ 9 < a1 + (m : Int))) → true = bd := fun h => (decide_eq_true h).symm.trans HBD2.out
    have hF : ¬ (a1 < 0 ∨ m < 1 ∨ 4 < m ∨ (N : Int) - (m : Int) < a1 ∨ (a1 < 9 ∧ 9 < a1 + (m : Int))) → false = bd := fun h => (decide_eq_false h).symm.trans HBD2.out
    by_cases h2 : a1 < 0
    · have HB := Lib.hid (hT (.inl h2))
      clear hT hF
      go_wp2_with fail
      go_meet
      case rel => exact ⟨congrArg Value.bool HB.out, rfl⟩
    by_cases h3 : m < 1
    · have h3' : (m : Int) < 1 := by omega
      have HB := Lib.hid (hT (.inr (.inl h3)))
      clear hT hF
      go_wp2_with fail
      go_meet
      case rel => exact ⟨congrArg Value.bool HB.out, rfl⟩
    have h3' : ¬ (m : Int) < 1 := by omega
    by_cases h4 : 4 < m
    · have h4' : (4 : Int) < (m : Int) := by omega
      have HB := Lib.hid (hT (.inr (.inr (.inl h4))))
      clear hT hF
      go_wp2_with fail
      go_meet
      case rel => exact ⟨congrArg Value.bool HB.out, rfl⟩
    have h4' : ¬ (4 : Int) < (m : Int) := by omega
    by_cases h5 : (N : Int) - (m : Int) < a1
    · have HB := Lib.hid (hT (.inr (.inr (.inr (.inl h5)))))
      clear hT hF
      go_wp2_with fail
      go_meet
      case rel => exact ⟨congrArg Value.bool HB.out, rfl⟩
    have hw2 : IntKind.i64.wrap (a1 + (m : Int)) = a1 + (m : Int) := by rw [IntKind.wrap_i64]; omega
    by_cases h6 : a1 < 9
    · by_cases h7 : 9 < a1 + (m : Int)
      · have HB := Lib.hid (hT (.inr (.inr (.inr (.inr ⟨h6, h7⟩)))))
        clear hT hF
        go_wp2_with fail
        go_meet
        case rel => exact ⟨congrArg Value.bool HB.out, rfl⟩
      · have HB := Lib.hid (hF (by omega))
        clear hT hF
        go_wp2_with fail
        go_meet
        case rel => exact ⟨congrArg Value.bool HB.out, rfl⟩
    · have HB := Lib.hid (hF (by omega))
      clear hT hF
      go_wp2_with fail
      go_meet
      case rel => exact ⟨congrArg Value.bool HB.out, rfl⟩
  case' rest => obtain ⟨rfl, hw3⟩ := hcut; have hw4 := hw3.symm; clear hw3; subst hw4
  cases bd with
  | true =>
    go_wp2_with fail
    refine (works16_is x6 (HT.out.bel T6.out)).mono ?_
    rintro e x7 ⟨rfl, hb7⟩
    go_wp2_with fail
    go_ret
    exact ⟨rfl, T6.out.trans (hb7.mono T6.out.size)⟩
  | false =>
    have hG := of_decide_eq_false HBD2.out
    obtain ⟨P, rfl⟩ : ∃ P : Nat, a1 = (P : Int) := ⟨a1.toNat, by omega⟩
    have g1' : 1 ≤ m := by omega
    have g4 : m ≤ 4 := by omega
    have gN : P + m ≤ N := by omega
    have g9 : 9 ≤ P ∨ P + m ≤ 9 := by omega
    have DM := Lib.hid (HDM.out P g1' g4 gN g9)
    clear hG HBD2 HDM w1
    have h0 := Lib.hid (own_lit x6 x6.heap.size [] 5 0 (Nat.le_refl _) (by decide) rfl)
    have hr3 := Lib.hid (RV6.out.below ((Below.refl x6.heap.size x6).alloc (Nat.le_refl _) (.cells [].toArray 5)))
    go_wp2_with (at_builtin; (refine app8 _ rfl (.tmp 102) (.tmp 103) rfl x6.heap.size _ 0 [] rfl h0.out (some ⟨g, 0, none⟩) N c1 V rfl HN.out hr3.out (by omega) (by simp) ?_); intro v1 x7 hown1 hgr1 hn1; (rw [List.nil_append, Nat.zero_add] at hown1); have HO4 := Lib.hid hown1; have HB4 := Lib.hid (((Below.refl x6.heap.size x6).alloc (Nat.le_refl _) (.cells [].toArray 5)).trans (below_of_grown hgr1 (by simp) (fun k hk => (h0.out.lt k hk).1))); obtain ⟨A4, c4, hv4, _⟩ := own_shape hown1; subst hv4; obtain ⟨gy, hA4, hgb, _⟩ := own_pos hown1 (by omega); subst hA4; clear hown1 hgr1 hn1)
    clear h0 hr3
    go_loopw [18] (fun i wr => ∃ j : Nat, j ≤ m ∧ i = .int .i64 j ∧ wr.ownsRow x6.heap.size 5 1 (.slice (some ⟨gy, 0, none⟩) N c4) N (b8 (over V P (b2.take j))) ∧ Below x6.heap.size x6 wr) (fun i _ => m - (intOf i).toNat)
    case atStart => exact ⟨0, Nat.zero_le _, rfl, by rw [List.take_zero, over_nil]; exact HO4.out, HB4.out⟩
    case round =>
      obtain ⟨j, hj, rfl, hown, hbe⟩ := hrel
      by_cases hlt : j < m
      · obtain ⟨y, hy, hy256, _⟩ := HY2.out.get (k := j) (by rw [HM.out]; exact hlt)
        obtain ⟨g2, off2, hA2, hg2, hcell2⟩ := (HR2.out.below (T6.out.trans (hbe.mono T6.out.size))).at_ hy
        have hlo : (over V P (b2.take j)).length = N := (over_length (by rw [List.length_take, HN.out, HM.out]; omega)).trans HN.out
        obtain ⟨y0, hc0⟩ : ∃ u, wr.cell? ⟨gy, P + j, none⟩ = some u := ⟨_, (hown.cellAt (P + j) (by omega)).trans (List.getElem?_eq_getElem (by rw [b8_length, hlo]; omega))⟩
        have hf := hown.frozenAt (P + j)
        have hst := hown.stored (P + j) (.int .u8 (y : Int))
        rw [b8_set'', over_set (by rw [HN.out, HM.out]; omega) hy] at hst
        have HS := Lib.hid hst
        have HBE := Lib.hid hbe
        have i0 : (0 : Int) ≤ (j : Int) := by omega
        have i1 : (j : Int) < (m : Int) := by omega
        have i2 : IntKind.i64.wrap ((P : Int) + (j : Int)) = (P : Int) + (j : Int) := by rw [IntKind.wrap_i64]; omega
        have i3 : (0 : Int) ≤ (P : Int) + (j : Int) := by omega
        have i4 : (P : Int) + (j : Int) < (N : Int) := by omega
        have i5 : ((P : Int) + (j : Int)).toNat = P + j := by omega
        subst hA2
        clear hst hown hbe hlo hy HO4 HB4 DM
        go_wp2
        go_roundw
        case rel => exact ⟨j + 1, by omega, by go_num, HS.out.1, HBE.out.trans (below_of_grown HS.out.2 HBE.out.size (fun q hq => by injection hq with hq; subst hq; exact hgb))⟩
        case measure => simp [intOf]; omega
      · have hjm : j = m := by omega
        have d9 : ¬ (j : Int) < (m : Int) := by omega
        subst hjm
        rw [List.take_of_length_le (by rw [HM.out]; omega)] at hown
        have HO := Lib.hid hown
        have HBE := Lib.hid hbe
        obtain ⟨Y, hY⟩ : ∃ Y, Y = over V P b2 := ⟨_, rfl⟩
        have hYl : Y.length = N := by rw [hY]; exact (over_length (by rw [HN.out, HM.out]; omega)).trans HN.out
        have hYB : By Y := by rw [hY]; exact over_by HVB.out HY2.out
        obtain ⟨hnc4, _⟩ := own_cap hown
        rw [← hY] at HO DM
        have PY := Lib.hid (PB3.out (some ⟨gy, 0, none⟩) c4 Y wr (rd_own HO.out) hYl hYB hnc4)
        have T4 := Lib.hid (T6.out.trans (HBE.out.mono T6.out.size))
        have RV4 := Lib.hid (RV6.out.below HBE.out)
        clear hown hbe HO4 HB4 hY PB3 RV6 HBE hYB
        by_cases hVY : V = Y
        · subst hVY
          rw [HBD.out] at PY
          have PY' := PY.out
          simp only at PY'
          have PYH := Lib.hid PY'
          clear PY DM PY'
          go_wp2_with fail
          refine PYH.out.mono ?_
          rintro e x8 ⟨A8, c8, rfl, _, hb8⟩
          have T8 := Lib.hid (T4.out.trans (hb8.mono T4.out.size))
          have R8 := Lib.hid (RV4.out.below hb8)
          have O8 := Lib.hid ((rd_own HO.out).below hb8)
          clear hb8 PYH
          go_wp2_with fail
          refine (same_yes (some ⟨g, 0, none⟩) (some ⟨gy, 0, none⟩) N N c1 c4 V V _ R8.out O8.out hYl hYl (by omega) (by omega) rfl).mono ?_
          rintro e x9 ⟨rfl, d9', rfl⟩
          go_wp2_with fail
          go_ret
          exact ⟨by first | rfl | simp, below_drewN T8.out d9'⟩
        · obtain ⟨⟨ys, ye⟩, hq3⟩ : ∃ q, q = Go.Proofs.YtljfmcgeiceagaaDoor.bd Y := ⟨_, rfl⟩
          have hye : ye ≠ 0 := fun h => hVY (DM.out (by rw [← hq3]; exact h)).symm
          have hyb : (ye == 0) = false := beq_false_of_ne hye
          rw [← hq3] at PY
          have PY' := PY.out
          simp only at PY'
          have PYH := Lib.hid PY'
          clear PY DM PY' hq3 hye
          go_wp2_with fail
          refine PYH.out.mono ?_
          rintro e x8 ⟨A8, c8, rfl, _, hb8⟩
          have T8 := Lib.hid (T4.out.trans (hb8.mono T4.out.size))
          have R8 := Lib.hid (RV4.out.below hb8)
          have O8 := Lib.hid ((rd_own HO.out).below hb8)
          clear hb8 PYH
          go_wp2_with fail
          refine (same_no (some ⟨g, 0, none⟩) (some ⟨gy, 0, none⟩) N N c1 c4 V Y _ R8.out O8.out HN.out hYl (by omega) (by omega) hVY).mono ?_
          rintro e x9 ⟨rfl, d9', rfl⟩
          go_wp2_with fail
          go_ret
          exact ⟨by first | rfl | simp, below_drewN T8.out d9'⟩
theorem wireDamage_walk (A0 : Option Addr) (c0 : Nat) (b0 : List Nat) (a1 : Int) (A2 : Option Addr) (c2 : Nat) (b2 : List Nat) (A3 : Option Addr) (c3 : Nat) (b3 : List Nat) (w : World) (ht : Tab w) (c0l : b0.length ≤ c0) (r0 : Rd w A0 (b8 b0)) (y0 : By b0) (l0 : b0.length ≤ 140737488351232) (w1 : -9223372036854775808 ≤ a1 ∧ a1 ≤ 9223372036854775807) (c2l : b2.length ≤ c2) (r2 : Rd w A2 (b8 b2)) (y2 : By b2) (l2 : b2.length ≤ 140737488351232) (c3l : b3.length ≤ c3) (r3 : Rd w A3 (b8 b3)) (y3 : By b3) (l3 : b3.length ≤ 140737488351232) :
    Calls Tryd.prog 5 #[.slice A0 b0.length c0, .int .i64 a1, .slice A2 b2.length c2, .slice A3 b3.length c3] w fun e w' => e = .returned (.bool true) ∧ Below w.heap.size w w' := by
  rcases frm_cases b0 with ⟨h1, h2, hf⟩ | hf
  · exact wireDamage_good A0 c0 b0 a1 A2 c2 b2 A3 c3 b3 w ht r0 y0 w1 r2 y2 l2 r3 y3 l3 h1 h2 hf
  · exact wireDamage_bad A0 c0 b0 a1 A2 _ c2 A3 _ c3 w ht r0 y0 l0 hf
end Go.Proofs.YtljfmcgeiceagaaDoor
