/- The walk of RecordKeeps (printed by gen_rckeeps.py). -/
import Derived.Test.YtjipebedibjoiaaRecKeepP
import Derived.Test.YtjipebedibjoiaaG1
import Derived.Test.YtjipebedibjoiaaD3
import Derived.Test.YtjipebedibjoiaaC1
import Derived.Deep.CutRange
namespace Go.Proofs.Ytjipebedibjoiaa
open Go Go.RowKit
set_option linter.unusedVariables false
set_option linter.unusedSimpArgs false

def LB (m : List Rc) (j kk : Nat) (key : ByteArray) (b : Bool) : Prop := b = true ↔ ∀ t y, j < t → t < kk → m[t]? = some y → y.key ≠ key
theorem keep_none {m : List Rc} {now hor : Int} (h : now < 0 ∨ hor < 0) : cmpW m now hor = ([], 0) := cmpW_no (h.imp id (fun h => .inl h))
set_option maxHeartbeats 16000000 in
set_option maxRecDepth 100000 in
theorem recordKeepsU_walk (A0 : Option Addr) (c0 : Nat) (b0 : List Rc) (a1 : Int) (a2 : Int) (w : World) (c0l : b0.length ≤ c0) (r0 : Rd w A0 (rcCells b0)) (y0 : ∀ x ∈ b0, x.Ok) (l0 : b0.length * 72 ≤ 140737488351232) (w1 : -9223372036854775808 ≤ a1 ∧ a1 ≤ 9223372036854775807) (w2 : -9223372036854775808 ≤ a2 ∧ a2 ≤ 9223372036854775807) (ub : b0.length ≤ 1048576) :
    Calls Try.prog 13 #[.slice A0 b0.length c0, .int .i64 a1, .int .i64 a2] w fun e w' => e = .returned (.bool true) ∧ Below w.heap.size w w' := by
  have PO := Lib.hid (rowOf_is A0 b0.length c0 b0 w r0 rfl (by omega))
  unfold RowPost at PO
  have hrise := rowM_is b0
  have hN1 : (rowM b0).length ≤ 1048576 := by have := rowM_len b0 []; unfold rowM; simp at this; omega
  obtain ⟨m, hm⟩ : ∃ m, m = rowM b0 := ⟨_, rfl⟩
  rw [← hm] at PO hrise hN1
  obtain ⟨N, hN⟩ : ∃ N, N = m.length := ⟨_, rfl⟩
  rw [← hN] at PO hN1
  have HN := Lib.hid hN.symm
  have HRI := Lib.hid hrise
  have PC := Lib.hid (fun A c W (hr : Rd W A (rcCells m)) => compact_is A N c m a1 a2 W hr hN.symm (by omega))
  unfold CmpPost at PC
  clear r0 y0 l0 hm hN hrise c0l w1
  go_enter Try.func13, Try.ntmps13
  go_wp2_with fail
  refine PO.out.mono ?_
  rintro e wa ⟨A1, c1, B, d, rfl, -, hom, hba⟩
  have RM := Lib.hid (rd_own hom)
  have HBA := Lib.hid hba
  clear hom hba PO
  by_cases h1 : a1 < 0
  · rw [keep_none (.inl h1)] at PC
    simp only [List.length_nil] at PC
    go_wp2_with fail
    refine (PC.out _ d wa RM.out).mono ?_
    rintro e wb ⟨A2, c2, rfl, -, hbb⟩
    have HBB := Lib.hid (HBA.out.trans (hbb.mono HBA.out.size))
    clear hbb HBA RM PC
    go_wp2_with fail
    refine (works_is _).mono ?_
    rintro e wc ⟨rfl, hbc⟩
    have HBC := Lib.hid (HBB.out.trans (hbc.mono HBB.out.size))
    clear hbc HBB
    go_wp2_with fail
    go_ret
    exact ⟨rfl, HBC.out⟩
  by_cases h2 : a2 < 0
  · rw [keep_none (.inr h2)] at PC
    simp only [List.length_nil] at PC
    go_wp2_with fail
    refine (PC.out _ d wa RM.out).mono ?_
    rintro e wb ⟨A2, c2, rfl, -, hbb⟩
    have HBB := Lib.hid (HBA.out.trans (hbb.mono HBA.out.size))
    clear hbb HBA RM PC
    go_wp2_with fail
    refine (works_is _).mono ?_
    rintro e wc ⟨rfl, hbc⟩
    have HBC := Lib.hid (HBB.out.trans (hbc.mono HBB.out.size))
    clear hbc HBB
    go_wp2_with fail
    go_ret
    exact ⟨rfl, HBC.out⟩
  obtain ⟨H, hH⟩ : ∃ H : Int, H = min a2 1099511627776 := ⟨_, rfl⟩
  have hH0 : 0 ≤ H := by rw [hH]; omega
  have hH1 : H ≤ 1099511627776 := by rw [hH]; omega
  have hcm := HRI.out.sub a1 a2 h1 h2
  rw [← hH, HN.out] at hcm
  rw [hcm] at PC
  obtain ⟨⟨K, mark⟩, hq⟩ : ∃ q, q = cmpF m a1 H N := ⟨_, rfl⟩
  have hq1 : K = (cmpF m a1 H N).1 := by rw [← hq]
  have hq2 : mark = (cmpF m a1 H N).2 := by rw [← hq]
  rw [← hq] at PC
  simp only at PC
  have hKf : K = flt (Kp a1 H) m := by rw [hq1, ← HN.out]; exact cmp_all m a1 H
  have hKm : ∀ x ∈ K, May x := fun x hx => HRI.out.may x (flt_sub _ (hKf ▸ hx)).1
  have hKK : cmpW K a1 a2 = (K, 0) := by
    rw [cmpW_yes h1 h2 (fun x hx => may_chk (hKm x hx)), ← hH]
    refine Prod.ext ?_ (cmp_none (fun x hx => (flt_sub _ (hKf ▸ hx)).2) _)
    have := flt_flt (P := Kp a1 H) (Q := Kp a1 H) (fun _ h => h) [] m
    rw [List.append_nil, List.append_nil] at this
    rw [cmp_all, hKf, this]
  have hFK : foldW K = foldW m := by
    have := fold_keep a1 H m []
    rw [List.append_nil, List.append_nil] at this
    rw [hKf, this]
  have hmk : 0 ≤ mark ∧ mark ≤ 1099511627776 := by rw [hq2]; exact cmpF_mark m a1 H HRI.out.may N
  have hKN : K.length ≤ N := by rw [hq1]; exact cmpF_len m a1 H N
  obtain ⟨LK, hLK⟩ : ∃ LK, LK = K.length := ⟨_, rfl⟩
  rw [← hLK] at PC hKN
  have HLK := Lib.hid hLK.symm
  have P2 := Lib.hid (fun A c W (hr : Rd W A (rcCells K)) => compact_is A LK c K a1 a2 W hr hLK.symm (by omega))
  unfold CmpPost at P2
  rw [hKK] at P2
  simp only at P2
  rw [← hLK] at P2
  have P3 := Lib.hid (fun A c W (hr : Rd W A (rcCells m)) => fold_is A N c m W hr HN.out (fun x hx => by have := (HRI.out.may x hx).key; omega) (by omega))
  have P4 := Lib.hid (fun A c W (hr : Rd W A (rcCells K)) => fold_is A LK c K W hr hLK.symm (fun x hx => by have := (hKm x hx).key; omega) (by omega))
  unfold FoldPost at P3 P4
  rw [hFK] at P4
  have hFl := foldW_len m
  rw [HN.out] at hFl
  obtain ⟨F, hF⟩ : ∃ F, F = foldW m := ⟨_, rfl⟩
  rw [← hF] at P3 P4 hFl
  obtain ⟨LF, hLF⟩ : ∃ LF, LF = F.length := ⟨_, rfl⟩
  rw [← hLF] at P3 P4 hFl
  have HLF := Lib.hid hLF.symm
  have HKA := Lib.hid (fun i x (hx : m[i]? = some x) => keep_at HRI.out (now := a1) (H := H) hx K hKf)
  have HMA := Lib.hid (fun i x (hx : m[i]? = some x) h h' => mark_at (now := a1) (H := H) hx h h')
  rw [HN.out, ← hq2] at HMA
  have HEN : Hid ((cmpF m a1 H N).1.length = LK) := Lib.hid (by rw [← hq1, hLK])
  have HHH := Lib.hid hH
  have h1' : ¬ a1 < 0 := h1
  have hmk1 : decide (mark < 0) = false := decide_eq_false (by omega)
  clear hq hq1 hq2 hKf hKm hKK hFK hF hLF hLK hcm hH
  go_wp2_with fail
  refine (PC.out _ d wa RM.out).mono ?_
  rintro e wb ⟨A2, c2, rfl, ho2, hbb⟩
  have HO2 := Lib.hid ho2
  have RM2 := Lib.hid (RM.out.below hbb)
  have HB2 := Lib.hid (HBA.out.trans (hbb.mono HBA.out.size))
  clear hbb HBA RM PC ho2
  go_wp2_with fail
  refine (P2.out _ c2 wb (rd_own HO2.out)).mono ?_
  rintro e wc ⟨A3, c3, rfl, ho3, hbc⟩
  have HO3 := Lib.hid ho3
  have HO23 := Lib.hid (own_below HO2.out hbc)
  have RM3 := Lib.hid (RM2.out.below hbc)
  have HB3 := Lib.hid (HB2.out.trans (hbc.mono HB2.out.size))
  clear hbc HB2 RM2 P2 ho3 HO2
  go_wp2_with fail
  refine (P3.out _ d wc RM3.out).mono ?_
  rintro e wd ⟨A4, c4, rfl, ho4, hbd⟩
  have HO4 := Lib.hid ho4
  have HO24 := Lib.hid (own_below HO23.out hbd)
  have HO34 := Lib.hid (own_below HO3.out hbd)
  have RM4 := Lib.hid (RM3.out.below hbd)
  have HB4 := Lib.hid (HB3.out.trans (hbd.mono HB3.out.size))
  clear hbd HB3 RM3 P3 ho4 HO23 HO3
  go_wp2_with fail
  refine (P4.out _ c2 wd (rd_own HO24.out)).mono ?_
  rintro e we ⟨A5, c5, rfl, ho5, hbe⟩
  have HO5 := Lib.hid ho5
  have HO25 := Lib.hid (own_below HO24.out hbe)
  have HO35 := Lib.hid (own_below HO34.out hbe)
  have HO45 := Lib.hid (own_below HO4.out hbe)
  have RM5 := Lib.hid (RM4.out.below hbe)
  have HB5 := Lib.hid (HB4.out.trans (hbe.mono HB4.out.size))
  clear hbe HB4 RM4 P4 ho5 HO24 HO34 HO4
  go_wp2_with fail
  refine (works_is _).mono ?_
  rintro e wf ⟨rfl, hbf⟩
  have RF5 := Lib.hid (rd_own (own_below HO5.out hbf))
  have R25 := Lib.hid (rd_own (own_below HO25.out hbf))
  have R35 := Lib.hid (rd_own (own_below HO35.out hbf))
  have R45 := Lib.hid (rd_own (own_below HO45.out hbf))
  have RM6 := Lib.hid (RM5.out.below hbf)
  have HB6 := Lib.hid (HB5.out.trans (hbf.mono HB5.out.size))
  clear hbf HB5 RM5 HO25 HO35 HO45 HO5
  go_wp2_with fail
  refine (alike_yes A4 A5 LF c4 c5 F wf R45.out RF5.out HLF.out (by omega)).mono ?_
  rintro e w9 ⟨rfl, d9, hw9⟩
  have R29 : Hid (Rd w9 A2 (rcCells K)) := Lib.hid (by rw [hw9]; exact R25.out.below (below_drewN (Below.refl _ _) _))
  have R39 : Hid (Rd w9 A3 (rcCells K)) := Lib.hid (by rw [hw9]; exact R35.out.below (below_drewN (Below.refl _ _) _))
  have RM9 : Hid (Rd w9 B (rcCells m)) := Lib.hid (by rw [hw9]; exact RM6.out.below (below_drewN (Below.refl _ _) _))
  have HB9 : Hid (Below w.heap.size w w9) := Lib.hid (by rw [hw9]; exact below_drewN HB6.out _)
  clear hw9 RF5 R25 R35 R45 RM6 HB6
  go_wp2_with fail
  refine (alike_yes A3 A2 LK c3 c2 K w9 R39.out R29.out HLK.out (by omega)).mono ?_
  rintro e w8 ⟨rfl, d8, hw8⟩
  have R28 : Hid (Rd w8 A2 (rcCells K)) := Lib.hid (by rw [hw8]; exact R29.out.below (below_drewN (Below.refl _ _) _))
  have RM8 : Hid (Rd w8 B (rcCells m)) := Lib.hid (by rw [hw8]; exact RM9.out.below (below_drewN (Below.refl _ _) _))
  have HB8 : Hid (Below w.heap.size w w8) := Lib.hid (by rw [hw8]; exact below_drewN HB9.out _)
  clear hw8 R29 R39 RM9 HB9
  go_wp2_with fail
  go_loopw [17, 18] (fun at_ i wr => ∃ j : Nat, j ≤ N ∧ i = .int .i64 j ∧ at_ = .int .i64 ((cmpF m a1 H j).1.length : Nat) ∧ Below w8.heap.size w8 wr) (fun _ i _ => N - (intOf i).toNat)
  case atStart => exact ⟨0, Nat.zero_le _, rfl, rfl, Below.refl _ _⟩
  case round =>
    obtain ⟨j, hj, rfl, rfl, hbw⟩ := hrel
    have HBW := Lib.hid hbw
    by_cases hlt : j < N
    · obtain ⟨x, hx⟩ : ∃ x, m[j]? = some x := ⟨_, List.getElem?_eq_getElem (by rw [HN.out]; exact hlt)⟩
      obtain ⟨hk1, hk2⟩ := HKA.out j x hx
      have HK1 := Lib.hid hk1
      have HK2 := Lib.hid hk2
      have HM1 := Lib.hid (HMA.out j x hx)
      have htx := (HRI.out.may x (List.mem_of_getElem? hx)).t
      have HX := Lib.hid hx
      obtain ⟨T, hT⟩ : ∃ T, T = (cmpF m a1 H j).1.length := ⟨_, rfl⟩
      have hTN : T ≤ j := by rw [hT]; exact cmpF_len m a1 H j
      rw [← hT] at HK1 HK2 ⊢
      have hwm : IntKind.i64.wrap (x.t + H) = x.t + H := by rw [IntKind.wrap_i64]; omega
      obtain ⟨wo, hwo⟩ : ∃ wo : World, wo = wr := ⟨_, rfl⟩
      rw [← hwo] at HBW ⊢
      obtain ⟨xk, xo, xt, xp, xs, xkey, xval⟩ := x
      simp only at htx hwm HM1
      clear hx hk1 hk2 hbw hT hwo
      go_wp2_with fail
      go_loopw [19, 20] (fun la k wk => ∃ (b : Bool) (kk : Nat), j + 1 ≤ kk ∧ kk ≤ N ∧ k = .int .i64 kk ∧ la = .bool b ∧ Below w8.heap.size w8 wk ∧ Hid (LB m j kk xkey b)) (fun _ k _ => N - (intOf k).toNat)
      case atStart => exact ⟨true, j + 1, Nat.le_refl _, by omega, by go_num, rfl, HBW.out, Lib.hid ⟨fun _ t y h1 h2 => by omega, fun _ => rfl⟩⟩
      case round =>
        obtain ⟨b, kk, hk1, hk2, rfl, rfl, hbk, HC⟩ := hrel
        have HBK := Lib.hid hbk
        by_cases hkl : kk < N
        · obtain ⟨y, hy⟩ : ∃ y, m[kk]? = some y := ⟨_, List.getElem?_eq_getElem (by rw [HN.out]; exact hkl)⟩
          obtain ⟨g, off, rfl, hg, x0, x1, x2, x3, x4, x5, x6⟩ := (RM8.out.below hbk).rec HX.out
          obtain ⟨g', off', he, hg', y0, y1, y2, y3, y4, y5, y6⟩ := (RM8.out.below hbk).rec hy
          injection he with he
          injection he with he1 he2
          subst he1 he2
          have HY := Lib.hid hy
          have j0 : (0 : Int) ≤ (j : Int) := by omega
          have j1 : (j : Int) < (N : Int) := by omega
          have k0 : (0 : Int) ≤ (kk : Int) := by omega
          have k1 : (kk : Int) < (N : Int) := by omega
          obtain ⟨yk, yo, yt, yp, ys, ykey, yval⟩ := y
          simp only at x5 y5
          have hxs : xkey.size ≤ 64 := (HRI.out.may _ (List.mem_of_getElem? HX.out)).key.2
          clear hy x0 x1 x2 x3 x4 x6 y0 y1 y2 y3 y4 y6 hbk HK1 HK2 HM1 HKA HMA
          cases b
          · have HC2 : Hid (LB m j (kk + 1) xkey false) := Lib.hid ⟨fun h => (Bool.false_ne_true h).elim, fun h => HC.out.2 (fun t y h1 h2 h3 => h t y h1 (by omega) h3)⟩
            clear HC HY
            go_wp2_with fail
            go_quiet (fail)
            go_wp2_with fail
            go_roundw
            case rel => exact ⟨false, kk + 1, by omega, by omega, by go_num, rfl, below_drewN HBK.out _, HC2⟩
            case measure => simp [intOf]; omega
          · by_cases hke : ykey = xkey
            · have HC2 : Hid (LB m j (kk + 1) xkey false) := Lib.hid ⟨fun h => (Bool.false_ne_true h).elim, fun h => absurd hke (h kk _ (by omega) (by omega) HY.out)⟩
              have hkb : (ykey == xkey) = true := (MapKept.bytes_beq _ _).2 hke
              have hkd : decide (ykey = xkey) = true := decide_eq_true hke
              have hkt : (ykey.toList == xkey.toList) = true := by rw [hke]; exact beq_self_eq_true _
              have hkn : (ykey.toList != xkey.toList) = false := by rw [bne, hkt]; rfl
              clear HC HY hke
              go_wp2_with fail
              go_quiet (fail)
              go_wp2_with fail
              go_roundw
              case rel => exact ⟨false, kk + 1, by omega, by omega, by go_num, rfl, below_drewN HBK.out _, HC2⟩
              case measure => simp [intOf]; omega
            · have HC2 : Hid (LB m j (kk + 1) xkey true) := Lib.hid ⟨fun _ t y h1 h2 h3 => by
                by_cases htk : t = kk
                · subst htk; rw [HY.out] at h3; injection h3 with h3; subst h3; exact hke
                · exact HC.out.1 rfl t y h1 (by omega) h3, fun _ => rfl⟩
              have hkb : (ykey == xkey) = false := by cases h : ykey == xkey; rfl; exact absurd ((MapKept.bytes_beq _ _).1 h) hke
              have hkd : decide (ykey = xkey) = false := decide_eq_false hke
              have hkt : (ykey.toList == xkey.toList) = false := by rw [ByteArray.toList_eq, ByteArray.toList_eq, beq_eq_false_iff_ne]; exact fun h => hke (WideShapes.bytes_inj h)
              have hkn : (ykey.toList != xkey.toList) = true := by rw [bne, hkt]; rfl
              clear HC HY hke
              go_wp2_with fail
              go_quiet (fail)
              go_wp2_with fail
              go_roundw
              case rel => exact ⟨true, kk + 1, by omega, by omega, by go_num, rfl, below_drewN HBK.out _, HC2⟩
              case measure => simp [intOf]; omega
        · have hkN : kk = N := by omega
          have HLA : Hid (b = true ↔ Last m j ⟨xk, xo, xt, xp, xs, xkey, xval⟩) := Lib.hid (HC.out.trans ⟨fun h t y h1 h2 => h t y h1 (by rw [hkN, ← HN.out]; exact (List.getElem?_eq_some_iff.1 h2).1) h2, fun h t y h1 _ h3 => h t y h1 h3⟩)
          obtain ⟨g, off, rfl, hg, x0, x1, x2, x3, x4, x5, x6⟩ := (RM8.out.below hbk).rec HX.out
          simp only at x0 x1 x2 x3 x4 x5 x6
          have j0 : (0 : Int) ≤ (j : Int) := by omega
          have j1 : (j : Int) < (N : Int) := by omega
          have HKL := Lib.hid hkl
          obtain ⟨yb, hyb⟩ : ∃ yb : Bool, yb = decide (a1 < xt + H) := ⟨_, rfl⟩
          have HYB := Lib.hid hyb
          clear HC hbk hkN HKA HMA
          go_upto_region 20 with (fail)
          go_cut [21] from 119 to 128 (fun s21 wx => s21 = .bool yb ∧ wx = wr)
          case first =>
            clear HK1 HK2 HM1 HLA hyb
            by_cases h3 : a2 ≤ 1099511627776
            · have hHe : H = a2 := by rw [HHH.out]; omega
              have HHE := Lib.hid hHe
              have hwm2 : IntKind.i64.wrap (xt + a2) = xt + a2 := by rw [← hHe]; exact hwm
              clear hHe hwm
              go_wp2_with fail
              go_meet
              case rel => exact ⟨by rw [HYB.out, HHH.out], rfl⟩
            · have hHe : H = 1099511627776 := by rw [HHH.out]; omega
              have HHE := Lib.hid hHe
              have hwm2 : IntKind.i64.wrap (xt + 1099511627776) = xt + 1099511627776 := by rw [← hHe]; exact hwm
              clear hHe hwm
              go_wp2_with fail
              go_meet
              case rel => exact ⟨by rw [HYB.out, HHH.out], rfl⟩
          case' rest => obtain ⟨rfl, hw3⟩ := hcut; have hw4 := hw3.symm; clear hw3; subst hw4
          have hkeep : Kp a1 H ⟨xk, xo, xt, xp, xs, xkey, xval⟩ ↔ xk = 1 ∨ yb = true := by rw [hyb, decide_eq_true_eq]; rfl
          have HKE := Lib.hid hkeep
          clear hkeep hyb
          cases b
          · obtain ⟨hka, hkb2⟩ := HK2.out (fun h => by have := HLA.out.2 h.1; cases this)
            have HT2 := Lib.hid hkb2
            by_cases hTL : T < LK
            · obtain ⟨y, hy⟩ : ∃ y, K[T]? = some y := ⟨_, List.getElem?_eq_getElem (by rw [HLK.out]; exact hTL)⟩
              have hyo := hka y hy
              obtain ⟨g', off', rfl, hg', y0, y1, y2, y3, y4, y5, y6⟩ := (R28.out.below HBK.out).rec hy
              obtain ⟨yk, yo, yt, yp, ys, ykey, yval⟩ := y
              simp only at y0 y1 y2 y3 y4 y5 y6 hyo
              have t0 : (0 : Int) ≤ (T : Int) := by omega
              have t1 : (T : Int) < (LK : Int) := by omega
              have t2 : decide (T < LK) = true := decide_eq_true hTL
              have hoo : (yo == xo) = false := by rw [beq_eq_false_iff_ne]; omega
              have hoo2 : (xo == yo) = false := by rw [beq_eq_false_iff_ne]; omega
              have hoo3 : decide (yo = xo) = false := decide_eq_false (by omega)
              have hoo4 : ¬ yo = xo := by omega
              clear hka hkb2 HK1 HK2 HM1 HLA HKE hy hyo
              go_wp2_with fail
              go_quiet (fail)
              go_wp2_with fail
              go_roundw
              case rel => exact ⟨j + 1, by omega, by go_num, by rw [HT2.out], below_drewN HBK.out _⟩
              case measure => simp [intOf]; omega
            · have t2 : decide (T < LK) = false := decide_eq_false hTL
              have t3 : decide ((T : Int) < (LK : Int)) = false := decide_eq_false (by omega)
              clear hka hkb2 HK1 HK2 HM1 HLA HKE
              go_wp2_with fail
              go_quiet (fail)
              go_wp2_with fail
              go_roundw
              case rel => exact ⟨j + 1, by omega, by go_num, by rw [HT2.out], below_drewN HBK.out _⟩
              case measure => simp [intOf]; omega
          by_cases hk1 : xk = 1
          · have hkb : (xk == 1) = true := by rw [beq_iff_eq]; exact hk1
            have HK11 := Lib.hid hk1
            clear hk1
            obtain ⟨hka, hkb2⟩ := HK1.out ⟨HLA.out.1 rfl, HKE.out.2 (.inl HK11.out)⟩
            have hTL : T < LK := by rw [← HLK.out]; exact (List.getElem?_eq_some_iff.1 hka).1
            obtain ⟨g', off', rfl, hg', y0, y1, y2, y3, y4, y5, y6⟩ := (R28.out.below HBK.out).rec hka
            simp only at y0 y1 y2 y3 y4 y5 y6
            have t0 : (0 : Int) ≤ (T : Int) := by omega
            have t1 : (T : Int) < (LK : Int) := by omega
            have t2 : decide (T < LK) = true := decide_eq_true hTL
            have HT2 := Lib.hid hkb2
            clear hka hkb2 HK1 HK2 HM1 HLA HKE
            go_wp2_with fail
            go_quiet (fail)
            go_wp2_with fail
            go_roundw
            case rel => exact ⟨j + 1, by omega, by go_num, by rw [HT2.out]; go_num, below_drewN HBK.out _⟩
            case measure => simp [intOf]; omega
          have hkb : (xk == 1) = false := by rw [beq_eq_false_iff_ne]; exact hk1
          have HK11 := Lib.hid hk1
          clear hk1
          cases yb
          · obtain ⟨hka, hkb2⟩ := HK2.out (fun h => by rcases HKE.out.1 h.2 with h | h; exact HK11.out h; cases h)
            have HT2 := Lib.hid hkb2
            have hmo := HM1.out (HLA.out.1 rfl) (fun h => by rcases HKE.out.1 h with h | h; exact HK11.out h; cases h)
            have hmo2 : decide (mark ≤ xo) = false := decide_eq_false (by omega)
            clear hmo
            by_cases hTL : T < LK
            · obtain ⟨y, hy⟩ : ∃ y, K[T]? = some y := ⟨_, List.getElem?_eq_getElem (by rw [HLK.out]; exact hTL)⟩
              have hyo := hka y hy
              obtain ⟨g', off', rfl, hg', y0, y1, y2, y3, y4, y5, y6⟩ := (R28.out.below HBK.out).rec hy
              obtain ⟨yk, yo, yt, yp, ys, ykey, yval⟩ := y
              simp only at y0 y1 y2 y3 y4 y5 y6 hyo
              have t0 : (0 : Int) ≤ (T : Int) := by omega
              have t1 : (T : Int) < (LK : Int) := by omega
              have t2 : decide (T < LK) = true := decide_eq_true hTL
              have hoo : (yo == xo) = false := by rw [beq_eq_false_iff_ne]; omega
              have hoo2 : (xo == yo) = false := by rw [beq_eq_false_iff_ne]; omega
              have hoo3 : decide (yo = xo) = false := decide_eq_false (by omega)
              have hoo4 : ¬ yo = xo := by omega
              clear hka hkb2 HK1 HK2 HM1 HLA HKE hy hyo
              go_wp2_with fail
              go_quiet (fail)
              go_wp2_with fail
              go_roundw
              case rel => exact ⟨j + 1, by omega, by go_num, by rw [HT2.out], below_drewN HBK.out _⟩
              case measure => simp [intOf]; omega
            · have t2 : decide (T < LK) = false := decide_eq_false hTL
              have t3 : decide ((T : Int) < (LK : Int)) = false := decide_eq_false (by omega)
              clear hka hkb2 HK1 HK2 HM1 HLA HKE
              go_wp2_with fail
              go_quiet (fail)
              go_wp2_with fail
              go_roundw
              case rel => exact ⟨j + 1, by omega, by go_num, by rw [HT2.out], below_drewN HBK.out _⟩
              case measure => simp [intOf]; omega
          · obtain ⟨hka, hkb2⟩ := HK1.out ⟨HLA.out.1 rfl, HKE.out.2 (.inr rfl)⟩
            have hTL : T < LK := by rw [← HLK.out]; exact (List.getElem?_eq_some_iff.1 hka).1
            obtain ⟨g', off', rfl, hg', y0, y1, y2, y3, y4, y5, y6⟩ := (R28.out.below HBK.out).rec hka
            simp only at y0 y1 y2 y3 y4 y5 y6
            have t0 : (0 : Int) ≤ (T : Int) := by omega
            have t1 : (T : Int) < (LK : Int) := by omega
            have t2 : decide (T < LK) = true := decide_eq_true hTL
            have HT2 := Lib.hid hkb2
            clear hka hkb2 HK1 HK2 HM1 HLA HKE
            go_wp2_with fail
            go_quiet (fail)
            go_wp2_with fail
            go_roundw
            case rel => exact ⟨j + 1, by omega, by go_num, by rw [HT2.out]; go_num, below_drewN HBK.out _⟩
            case measure => simp [intOf]; omega
    · have hjN : j = N := by omega
      subst hjN
      have HE2 := Lib.hid HEN.out
      rw [HE2.out]
      clear HKA HMA hbw
      go_wp2_with fail
      go_ret
      exact ⟨by first | rfl | simp, HB8.out.trans (HBW.out.mono HB8.out.size)⟩
end Go.Proofs.Ytjipebedibjoiaa
