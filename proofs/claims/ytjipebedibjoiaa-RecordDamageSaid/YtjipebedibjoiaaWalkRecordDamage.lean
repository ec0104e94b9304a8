/- The walk of RecordDamage. -/
import Derived.Test.YtjipebedibjoiaaRecWorks
import Derived.Test.YtjipebedibjoiaaRecDmP
import Derived.Test.YtjipebedibjoiaaRecFull
import Derived.Deep.CutRange
namespace Go.Proofs.Ytjipebedibjoiaa
open Go Go.RowKit
set_option linter.unusedVariables false
set_option linter.unusedSimpArgs false

theorem renc_len2 (x : Rc) : (renc x).1.length ≤ 1124 := by
  unfold renc
  split
  · rename_i h
    have := bdy_len (chk_may h)
    simp only
    rw [wrap_length]
    omega
  · simp
theorem over_nil (x : List Nat) (p : Nat) : over x p [] = x := by unfold over; simp
theorem over_set {x o : List Nat} {p i y : Nat} (h : p + o.length ≤ x.length) (hy : o[i]? = some y) : (over x p (o.take i)).set (p + i) y = over x p (o.take (i + 1)) := by
  obtain ⟨hi, rfl⟩ := List.getElem?_eq_some_iff.1 hy
  have hl1 : (x.take p).length = p := by rw [List.length_take]; omega
  have hl2 : (o.take i).length = i := by rw [List.length_take]; omega
  have hl3 : (o.take (i + 1)).length = i + 1 := by rw [List.length_take]; omega
  unfold over
  rw [hl2, hl3, List.set_append_right _ _ (by omega), hl1, List.set_append_right _ _ (by omega), hl2, show p + i - p - i = 0 by omega, List.drop_eq_getElem_cons (by omega : p + i < x.length), List.set_cons_zero, List.take_succ_eq_append_getElem hi, List.append_assoc]
  rfl
set_option maxHeartbeats 4000000 in
set_option maxRecDepth 100000 in
theorem recordDamage_walk (x0 : Rc) (a1 : Int) (A2 : Option Addr) (c2 : Nat) (b2 : List Nat) (w : World) (w1 : -9223372036854775808 ≤ a1 ∧ a1 ≤ 9223372036854775807) (c2l : b2.length ≤ c2) (r2 : Rd w A2 (b8 b2)) (y2 : By b2) (l2 : b2.length ≤ 140737488351232) :
    Calls Try.prog 9 #[x0.v, .int .i64 a1, .slice A2 b2.length c2] w fun e w' => e = .returned (.bool true) ∧ Below w.heap.size w w' := by
  obtain ⟨m, hm⟩ : ∃ m, m = b2.length := ⟨_, rfl⟩
  rw [← hm] at c2l ⊢
  have HR := Lib.hid r2
  have HM := Lib.hid hm.symm
  have HY := Lib.hid y2
  have PE := Lib.hid (fun W => recencode_is x0 W)
  have hl' : m ≤ 140737488351232 := by omega
  have hrl := renc_len2 x0
  have HCH := Lib.hid (fun h => @chk_may x0 h)
  have HOK := Lib.hid (fun h => @renc_ok x0 h)
  obtain ⟨⟨V, z⟩, hq⟩ : ∃ q, q = renc x0 := ⟨_, rfl⟩
  have hzc : z = ((chk x0 : Nat) : Int) := by
    by_cases h : chk x0 = 0
    · rw [renc_ok h] at hq; injection hq with _ hz; rw [hz, h]; rfl
    · rw [renc_bad h] at hq; injection hq
  rw [← hq] at PE HOK hrl
  simp only at hrl
  obtain ⟨N, hN⟩ : ∃ N, V.length = N := ⟨_, rfl⟩
  have HN := Lib.hid hN
  rw [hN] at hrl
  have HV : Hid (z = 0 → V = wrap 169 (bdy x0) ∧ May x0 ∧ N = (bdy x0).length + 9) := Lib.hid (fun h => by
    have hc : chk x0 = 0 := by omega
    have hV : V = wrap 169 (bdy x0) := by have := HOK.out hc; injection this
    exact ⟨hV, HCH.out hc, by rw [← hN, hV, wrap_length]⟩)
  have HDM : Hid (z = 0 → ∀ (P : Nat), 1 ≤ m → m ≤ 4 → P + m ≤ N → (9 ≤ P ∨ P + m ≤ 9) → over V P b2 ≠ V → ∀ q, rdec (over V P b2) ≠ (q, N, 0)) := Lib.hid (fun h P h1 h4 hp h9 hne q he => by
    obtain ⟨hV, hmay, hNl⟩ := HV.out h
    rw [hV, hNl] at he
    have := damage (bdy_by hmay) (bdy_len hmay).2 y2 (by omega) (by omega) (by omega) (by omega) he
    rw [← hV] at this
    exact hne this)
  have PD := Lib.hid (fun A c Y (W : World) (hr : Rd W A (b8 Y)) (hlen : Y.length = N) (hc : N ≤ c) (hy : By Y) => recdecode_is A N c Y W hr hlen hc hy (by omega))
  unfold DecPost at PD
  have HVB : Hid (z = 0 → By V) := Lib.hid (fun h => by obtain ⟨hV, hmay, _⟩ := HV.out h; rw [hV]; exact wrap_by (by omega) (bdy_by hmay))
  have HRV : Hid (z = 0 → rdec V = (x0, N, 0)) := Lib.hid (fun h => by obtain ⟨hV, hmay, hNl⟩ := HV.out h; rw [hV, hNl]; have := rdec_wrap hmay []; rwa [List.append_nil] at this)
  clear r2 y2 hm l2 hq hzc hN HCH HOK
  obtain ⟨k, o, t, p, s, key, vl⟩ := x0
  unfold Rc.v at PE ⊢
  simp only at PE ⊢
  have T0 := Lib.hid ((Below.refl w.heap.size w).alloc (Nat.le_refl _) (rcObj ⟨k, o, t, p, s, key, vl⟩))
  have BX0 := Lib.hid (RBox.new w ⟨k, o, t, p, s, key, vl⟩)
  obtain ⟨x0, x1, x2, x3, x4, x5, x6⟩ := BX0.out.facts
  simp only at x0 x1 x2 x3 x4 x5 x6
  go_enter Try.func9, Try.ntmps9
  go_wp2_with fail
  refine (PE.out _).mono ?_
  rintro e w3 ⟨A3, c3, rfl, ho3, hb3⟩
  simp only [HN.out] at ho3 ⊢
  obtain ⟨hnc3, hcm3⟩ := own_cap ho3
  have RV := Lib.hid (rd_own ho3)
  have BX3 := Lib.hid (BX0.out.below hb3 (by simp))
  have T3 := Lib.hid (T0.out.trans (hb3.mono (by simp)))
  clear ho3 hb3 x0 x1 x2 x3 x4 x5 x6 BX0 PE T0
  obtain ⟨bd, hbd⟩ : ∃ bd : Bool, decide (z ≠ 0 ∨ a1 < 0 ∨ m < 1 ∨ 4 < m ∨ (N : Int) - (m : Int) < a1 ∨ (a1 < 9 ∧ 9 < a1 + (m : Int))) = bd := ⟨_, rfl⟩
  have HBD := Lib.hid hbd
  clear hbd
  go_upto_region 2 with (fail)
  go_cut [54] from 14 (fun s54 wx => s54 = .bool bd ∧ wx = w3)
  case first =>
    have hw1 : IntKind.i64.wrap ((N : Int) - (m : Int)) = (N : Int) - (m : Int) := by rw [IntKind.wrap_i64]; omega
    have hT : (z ≠ 0 ∨ a1 < 0 ∨ m < 1 ∨ 4 < m ∨ (N : Int) - (m : Int) < a1 ∨ (a1 < 9 ∧ 9 < a1 + (m : Int))) → true = bd := fun h => (decide_eq_true h).symm.trans HBD.out
    have hF : ¬ (z ≠ 0 ∨ a1 < 0 ∨ m < 1 ∨ 4 < m ∨ (N : Int) - (m : Int) < a1 ∨ (a1 < 9 ∧ 9 < a1 + (m : Int))) → false = bd := fun h => (decide_eq_false h).symm.trans HBD.out
    by_cases h1 : z = 0
    rotate_left
    · have e1 : (z != 0) = true := by rw [bne_iff_ne]; exact h1
      have HB := Lib.hid (hT (.inl h1))
      clear hT hF
      go_wp2_with fail
      go_meet
      case rel => exact ⟨congrArg Value.bool HB.out, rfl⟩
    have e1 : (z != 0) = false := by rw [bne_eq_false_iff_eq]; exact h1
    have H1 := Lib.hid h1
    clear h1
    by_cases h2 : a1 < 0
    · have HB := Lib.hid (hT (.inr (.inl h2)))
      clear hT hF
      go_wp2_with fail
      go_meet
      case rel => exact ⟨congrArg Value.bool HB.out, rfl⟩
    by_cases h3 : m < 1
    · have h3' : (m : Int) < 1 := by omega
      have HB := Lib.hid (hT (.inr (.inr (.inl h3))))
      clear hT hF
      go_wp2_with fail
      go_meet
      case rel => exact ⟨congrArg Value.bool HB.out, rfl⟩
    have h3' : ¬ (m : Int) < 1 := by omega
    by_cases h4 : 4 < m
    · have h4' : (4 : Int) < (m : Int) := by omega
      have HB := Lib.hid (hT (.inr (.inr (.inr (.inl h4)))))
      clear hT hF
      go_wp2_with fail
      go_meet
      case rel => exact ⟨congrArg Value.bool HB.out, rfl⟩
    have h4' : ¬ (4 : Int) < (m : Int) := by omega
    by_cases h5 : (N : Int) - (m : Int) < a1
    · have HB := Lib.hid (hT (.inr (.inr (.inr (.inr (.inl h5))))))
      clear hT hF
      go_wp2_with fail
      go_meet
      case rel => exact ⟨congrArg Value.bool HB.out, rfl⟩
    have hw2 : IntKind.i64.wrap (a1 + (m : Int)) = a1 + (m : Int) := by rw [IntKind.wrap_i64]; omega
    by_cases h6 : a1 < 9
    · by_cases h7 : 9 < a1 + (m : Int)
      · have HB := Lib.hid (hT (.inr (.inr (.inr (.inr (.inr ⟨h6, h7⟩))))))
        clear hT hF
        go_wp2_with fail
        go_meet
        case rel => exact ⟨congrArg Value.bool HB.out, rfl⟩
      · have HB := Lib.hid (hF (by have := H1.out; omega))
        clear hT hF
        go_wp2_with fail
        go_meet
        case rel => exact ⟨congrArg Value.bool HB.out, rfl⟩
    · have HB := Lib.hid (hF (by have := H1.out; omega))
      clear hT hF
      go_wp2_with fail
      go_meet
      case rel => exact ⟨congrArg Value.bool HB.out, rfl⟩
  case' rest => obtain ⟨rfl, hw3⟩ := hcut; have hw4 := hw3.symm; clear hw3; subst hw4
  cases bd with
  | true =>
    go_wp2_with fail
    refine (works_is _).mono ?_
    rintro e w4 ⟨rfl, hb4⟩
    go_wp2_with fail
    go_ret
    exact ⟨rfl, T3.out.trans (hb4.mono T3.out.size)⟩
  | false =>
    have hG := of_decide_eq_false HBD.out
    obtain rfl : z = 0 := by omega
    obtain ⟨P, rfl⟩ : ∃ P : Nat, a1 = (P : Int) := ⟨a1.toNat, by omega⟩
    have g1 : 1 ≤ m := by omega
    have g4 : m ≤ 4 := by omega
    have gN : P + m ≤ N := by omega
    have g9 : 9 ≤ P ∨ P + m ≤ 9 := by omega
    have DM := Lib.hid (HDM.out rfl P g1 g4 gN g9)
    have hVB := HVB.out rfl
    have hRV := HRV.out rfl
    clear hG HBD HDM HVB HRV HV w1
    have h0 := Lib.hid (own_lit w3 w3.heap.size [] 5 0 (Nat.le_refl _) (by decide) rfl)
    have hr3 := Lib.hid (RV.out.below ((Below.refl w3.heap.size w3).alloc (Nat.le_refl _) (.cells [].toArray 5)))
    go_wp2_with (at_builtin; (refine app8 _ rfl (.tmp 56) (.tmp 57) rfl w3.heap.size _ 0 [] rfl h0.out A3 N c3 V rfl HN.out hr3.out (by omega) (by simp) ?_); intro v1 w4 hown1 hg1 hn1; (rw [List.nil_append, Nat.zero_add] at hown1); have HO4 := Lib.hid hown1; have HB4 := Lib.hid (((Below.refl w3.heap.size w3).alloc (Nat.le_refl _) (.cells [].toArray 5)).trans (below_of_grown hg1 (by simp) (fun k hk => (h0.out.lt k hk).1))); obtain ⟨A4, c4, hv4, _⟩ := own_shape hown1; subst hv4; obtain ⟨g, hA4, hgb, _⟩ := own_pos hown1 (by omega); subst hA4; clear hown1 hg1 hn1)
    clear h0 hr3
    go_loopw [10] (fun i wr => ∃ j : Nat, j ≤ m ∧ i = .int .i64 j ∧ wr.ownsRow w3.heap.size 5 1 (.slice (some ⟨g, 0, none⟩) N c4) N (b8 (over V P (b2.take j))) ∧ Below w3.heap.size w3 wr) (fun i _ => m - (intOf i).toNat)
    case atStart => exact ⟨0, Nat.zero_le _, rfl, by rw [List.take_zero, over_nil]; exact HO4.out, HB4.out⟩
    case round =>
      obtain ⟨j, hj, rfl, hown, hbe⟩ := hrel
      by_cases hlt : j < m
      · obtain ⟨y, hy, hy256, _⟩ := HY.out.get (k := j) (by rw [HM.out]; exact hlt)
        obtain ⟨g2, off2, hA2, hg2, hcell2⟩ := (HR.out.below (T3.out.trans (hbe.mono T3.out.size))).at_ hy
        have hlo : (over V P (b2.take j)).length = N := (over_length (by rw [List.length_take, HN.out, HM.out]; omega)).trans HN.out
        obtain ⟨y0, hc0⟩ : ∃ u, wr.cell? ⟨g, P + j, none⟩ = some u := ⟨_, (hown.cellAt (P + j) (by omega)).trans (List.getElem?_eq_getElem (by rw [b8_length, hlo]; omega))⟩
        have hf := hown.frozenAt (P + j)
        have hst := hown.stored (P + j) (.int .u8 (y : Int))
        rw [b8_set'', over_set (by rw [HN.out, HM.out]; omega) hy] at hst
        have HS := Lib.hid hst
        have HBE := Lib.hid hbe
        have i0 : (0 : Int) ≤ (j : Int) := by omega
        have i1 : (j : Int) < (m : Int) := by omega
        have i2 : IntKind.i64.wrap ((P : Int) + (j : Int)) = (P : Int) + (j : Int) := by rw [IntKind.wrap_i64]; omega
        have i3 : (0 : Int) ≤ (P : Int) + (j : Int) := by omega
        have i4 : (P : Int) + (j : Int) < (N : Int) := by omega
        have i5 : ((P : Int) + (j : Int)).toNat = P + j := by omega
        subst hA2
        clear hst hown hbe hlo hy HO4 HB4 DM
        go_wp2
        go_roundw
        case rel => exact ⟨j + 1, by omega, by go_num, HS.out.1, HBE.out.trans (below_of_grown HS.out.2 HBE.out.size (fun q hq => by injection hq with hq; subst hq; exact hgb))⟩
        case measure => simp [intOf]; omega
      · have hjm : j = m := by omega
        subst hjm
        rw [List.take_of_length_le (by rw [HM.out]; omega)] at hown
        have HO := Lib.hid hown
        have HBE := Lib.hid hbe
        obtain ⟨Y, hY⟩ : ∃ Y, Y = over V P b2 := ⟨_, rfl⟩
        have hYl : Y.length = N := by rw [hY]; exact (over_length (by rw [HN.out, HM.out]; omega)).trans HN.out
        have hYB : By Y := by rw [hY]; exact By.append (hVB.take P) (By.append HY.out (hVB.drop _))
        obtain ⟨hnc4, _⟩ := own_cap hown
        rw [← hY] at HO DM
        have PY := Lib.hid (PD.out (some ⟨g, 0, none⟩) c4 Y wr (rd_own HO.out) hYl hnc4 hYB)
        have T4 := Lib.hid (T3.out.trans (HBE.out.mono T3.out.size))
        have BX4 := Lib.hid (BX3.out.below HBE.out BX3.out.lt)
        have RV4 := Lib.hid (RV.out.below HBE.out)
        clear hown hbe HO4 HB4 hY PD RV BX3 HBE hYB
        by_cases hVY : V = Y
        · subst hVY
          rw [hRV] at PY
          unfold Rc.v at PY
          simp only at PY
          have PY' : Hid (Calls Try.prog 30 #[.slice (some ⟨g, 0, none⟩) N c4] wr fun e w' => e = .returned (.tuple #[.agg #[.int .i64 k, .int .i64 o, .int .i64 t, .int .i64 p, .int .i64 s, .string key, .string vl], .int .i64 (N : Int), .int .i64 0]) ∧ Below wr.heap.size wr w') := Lib.hid PY.out
          clear PY DM hRV
          go_wp2_with fail
          refine PY'.out.mono ?_
          rintro e w5 ⟨rfl, hb5⟩
          have T5 := Lib.hid (T4.out.trans (hb5.mono T4.out.size))
          have BX5 := Lib.hid (BX4.out.below hb5 BX4.out.lt)
          have R5 := Lib.hid (RV4.out.below hb5)
          have O5 := Lib.hid ((rd_own HO.out).below hb5)
          clear hb5 PY'
          go_wp2_with fail
          refine (same_yes A3 (some ⟨g, 0, none⟩) N N c3 c4 V V _ (R5.out.below ((Below.refl _ _).alloc (Nat.le_refl _) _)) (O5.out.below ((Below.refl _ _).alloc (Nat.le_refl _) _)) hYl hYl (by omega) (by omega) rfl).mono ?_
          rintro e w6 ⟨rfl, d6, rfl⟩
          have hlt5 : w.heap.size < w5.heap.size := Nat.lt_of_lt_of_le BX5.out.lt (Nat.le_refl _)
          obtain ⟨x0, x1, x2, x3, x4, x5, x6⟩ := BX5.out.facts
          simp only at x0 x1 x2 x3 x4 x5 x6
          go_wp2_with fail
          go_ret
          exact ⟨rfl, below_drewN (T5.out.alloc T5.out.size _) d6⟩
        · obtain ⟨⟨⟨qk, qo, qt, qp, qs, qkey, qvl⟩, n3, e3⟩, hq3⟩ : ∃ q, q = rdec Y := ⟨_, rfl⟩
          have hdm := DM.out (fun h => hVY h.symm) ⟨qk, qo, qt, qp, qs, qkey, qvl⟩
          rw [← hq3] at PY hdm
          unfold Rc.v at PY
          simp only at PY
          clear hq3 DM hRV
          go_wp2_with fail
          refine PY.out.mono ?_
          rintro e w5 ⟨rfl, hb5⟩
          have T5 := Lib.hid (T4.out.trans (hb5.mono T4.out.size))
          have R5 := Lib.hid (RV4.out.below hb5)
          have O5 := Lib.hid ((rd_own HO.out).below hb5)
          clear hb5 PY
          go_wp2_with fail
          refine (same_no A3 (some ⟨g, 0, none⟩) N N c3 c4 V Y _ (R5.out.below ((Below.refl _ _).alloc (Nat.le_refl _) _)) (O5.out.below ((Below.refl _ _).alloc (Nat.le_refl _) _)) HN.out hYl (by omega) (by omega) hVY).mono ?_
          rintro e w6 ⟨rfl, d6, rfl⟩
          by_cases he3 : e3 = 0
          · subst he3
            have hn3 : ((n3 : Int) != (N : Int)) = true := by rw [bne_iff_ne]; intro h; exact hdm (by rw [show n3 = N by omega])
            clear hdm
            go_wp2_with fail
            go_ret
            exact ⟨rfl, below_drewN (T5.out.alloc T5.out.size _) d6⟩
          · have he3' : ((e3 : Int) != 0) = true := by rw [bne_iff_ne]; omega
            clear hdm he3
            go_wp2_with fail
            go_ret
            exact ⟨rfl, below_drewN (T5.out.alloc T5.out.size _) d6⟩
end Go.Proofs.Ytjipebedibjoiaa
