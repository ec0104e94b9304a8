/- The walk of SqueezeGreedy (printed by gen_sqgreedy.py). -/
import Derived.Test.YtmdpncjffikmiaaSqGrT
import Derived.Test.YtmdpncjffikmiaaSqHead
namespace Go.Proofs.Ytmdpncjffikmiaa
open Go Go.RowKit
set_option linter.unusedVariables false
set_option linter.unusedSimpArgs false

set_option maxHeartbeats 8000000 in
set_option maxRecDepth 100000 in
theorem squeezeGreedy_short (A0 : Option Addr) (c0 : Nat) (b0 : List Nat) (w : World) (c0l : b0.length ≤ c0) (r0 : Rd w A0 (b8 b0)) (y0 : By b0) (l0 : b0.length ≤ 140737488351232) (hlong : ¬ 4096 < b0.length) :
    Calls Try.prog 6 #[.slice A0 b0.length c0] w fun e w' => e = .returned (.bool true) ∧ Below w.heap.size w w' := by
  obtain ⟨n, hn⟩ : ∃ n, n = b0.length := ⟨_, rfl⟩
  rw [← hn] at c0l l0 hlong ⊢
  have HBL : Hid (b0.length = n) := Lib.hid hn.symm
  obtain ⟨bs, hbs⟩ : ∃ bs, bs = b0 := ⟨_, rfl⟩
  rw [← hbs] at HBL r0 y0
  have HBB := Lib.hid y0
  have R0 := Lib.hid r0
  have HTK : Hid (tks bs = (tokens bs, 0)) := Lib.hid (tks_short (by rw [HBL.out]; omega))
  have HG0 : Hid (GrT bs 0 (prevL (tokens bs) 0) ((tokens bs).drop 0)) := Lib.hid (grT_tokens bs)
  have HPOS : Hid (0 < n ↔ 0 < (tokens bs).length) := Lib.hid (by rw [← HBL.out]; exact tokens_pos)
  have hTl : (tokens bs).length ≤ 4096 := fine_count (exp_tokens (by rw [HBL.out]; omega))
  have HML : Hid (∀ (W : World) (i d : Nat), Below w.heap.size w W → i ≤ n → 1 ≤ d → d ≤ i → Calls Try.prog 33 #[.slice A0 n c0, .int .i64 (i : Int), .int .i64 (d : Int)] W fun e w' => e = .returned (.int .i64 ((ml bs i d : Nat) : Int)) ∧ ∃ m, w' = W.drewN m) :=
    Lib.hid (fun W i d hb h1 h2 h3 => lmatch_is A0 n c0 i d bs W (R0.out.below hb) HBL.out (by omega) h1 h2 h3)
  obtain ⟨T, hT⟩ : ∃ T, T = tokens bs := ⟨_, rfl⟩
  rw [← hT] at HTK HG0 HPOS hTl
  clear r0 y0 hn hbs hT
  go_enter Try.func6, Try.ntmps6
  go_wp2_with fail
  refine ((tokens_is A0 n c0 bs w R0.out HBL.out HBB.out (by omega) (by omega)).mono (fun e w9 h => h.two)).mono ?_
  rw [HTK.out]
  rintro e w1 ⟨A1, c1, l1, rfl, hq1, ht1, hb1⟩
  simp only at hq1 ht1 ⊢
  have T1 := Lib.hid ht1
  have Q1 := Lib.hid hq1
  have B1 := Lib.hid hb1
  have hz1 := hb1.size
  obtain ⟨N, hN⟩ : ∃ N, N = T.length := ⟨_, rfl⟩
  have HNT : Hid (T.length = N) := Lib.hid hN.symm
  rw [← hN] at T1 HPOS hTl ⊢
  clear hq1 ht1 hb1 hN
  by_cases hpos : 0 < n
  · have hNp : 0 < N := HPOS.out.1 hpos
    have p1 : (0 : Int) < (n : Int) := by omega
    have p2 : (0 : Int) < (N : Int) := by omega
    go_wp2_with fail
    go_loopw [5, 6, 7, 8, 9, 10, 11] (fun u5 u6 u7 u8 u9 u10 u11 wr => ∃ (i k : Nat), u5 = .int .i64 i ∧ u6 = .int .i64 k ∧ k ≤ N ∧ i ≤ n ∧ Hid (GrT bs i (prevL T k) (T.drop k)) ∧ Hid (Below w1.heap.size w1 wr)) (fun _ u6 _ _ _ _ _ _ => N - (intOf u6).toNat)
    case atStart => exact ⟨0, 0, rfl, rfl, Nat.zero_le _, Nat.zero_le _, HG0, Lib.hid (Below.refl _ _)⟩
    case round =>
      clear HG0
      obtain ⟨i, k, rfl, rfl, hk, hi, HG, HB⟩ := hrel
      obtain ⟨wk, rfl⟩ : ∃ wk : World, wk = wr := ⟨_, rfl⟩
      have hzr := HB.out.size
      have HBW := Lib.hid (B1.out.trans (HB.out.mono hz1))
      have TW := Lib.hid (T1.out.below HB.out)
      have RW := Lib.hid (R0.out.below HBW.out)
      by_cases hkn : k < N
      · obtain ⟨x, hx⟩ : ∃ x, l1[k]? = some x := ⟨_, List.getElem?_eq_getElem (by rw [T1.out.len]; exact hkn)⟩
        have HXT : Hid (T[k]? = some x.tk) := Lib.hid (by rw [← Q1.out]; exact toks_get hx)
        have HXO := Lib.hid (TW.out.ok x (List.mem_of_getElem? hx))
        obtain ⟨g, off, rfl, hg, hc0, hc1, hc2⟩ := TW.out.rd.tok hx
        have i0 : (0 : Int) ≤ (k : Int) := by omega
        have i1 : (k : Int) < (N : Int) := by omega
        have HBT := Lib.hid (Bt.new wk x)
        have HPREV : Hid (prevL T k = false → 0 < k → ∃ y : TkV, wk.cell? ⟨g, off + (k - 1) * 3, none⟩ = some (.slice y.A 0 y.c)) := Lib.hid (fun hp h0 => by
          obtain ⟨y, hy⟩ : ∃ y, l1[k - 1]? = some y := ⟨_, List.getElem?_eq_getElem (by rw [T1.out.len]; omega)⟩
          have h1 : T[k - 1]? = some y.tk := by rw [← Q1.out]; exact toks_get hy
          obtain ⟨g', off', e, _, h2, _, _⟩ := TW.out.rd.tok hy
          simp only [Option.some.injEq, Addr.mk.injEq, and_true] at e
          obtain ⟨rfl, rfl⟩ := e
          refine ⟨y, ?_⟩
          have h3 : y.lit.length = 0 := by
            unfold prevL at hp
            rw [h1] at hp
            simp only [Option.map_some, Option.getD_some, TkV.tk] at hp
            exact Nat.le_zero.1 (Nat.le_of_not_lt (fun h => of_decide_eq_false hp ⟨h0, h⟩))
          rw [h2, h3])
        have HS := grT_step HG.out HXT.out
        obtain ⟨xA, xc, lit, xd, xl⟩ := x
        simp only [TkV.tk] at HS hc0 hc1 hc2
        clear hx HXT HG
        rcases HS with ⟨a1, rfl, rfl, a4, a5, a6, a7, a8⟩ | ⟨b1, L, D, rfl, rfl, b2, b3, b4, b5, b6, b7, b8, b9⟩
        · rw [HBL.out] at a4
          have HA5 := Lib.hid a5
          have HA7 := Lib.hid a7
          have HA8 := Lib.hid a8
          have HP6 := Lib.hid a6
          clear a5 a7 a8 a6
          have j1 : (0 : Int) < (lit.length : Int) := by omega
          have s1 : IntKind.i64.wrap ((i : Int) + (lit.length : Int)) = (i : Int) + (lit.length : Int) := IntWalk.i64_in _ (by omega)
          have s2 : ¬ (n : Int) < (i : Int) + (lit.length : Int) := by omega
          have s2' : decide ((n : Int) < (i : Int) + (lit.length : Int)) = false := by rw [decide_eq_false_iff_not]; omega
          have s3 : (0 : Int) ≤ (i : Int) := by omega
          have s4 : (i : Int) ≤ (i : Int) + (lit.length : Int) := by omega
          have s5 : (i : Int) + (lit.length : Int) ≤ (c0 : Int) := by omega
          have hic : ¬ c0 = i := by omega
          have s6 : ((i : Int) + (lit.length : Int)).toNat = i + lit.length := by omega
          obtain ⟨x0, hx0⟩ : ∃ x, bs[i]? = some x := ⟨_, List.getElem?_eq_getElem (by rw [HBL.out]; omega)⟩
          obtain ⟨ga, oa, rfl, hga, _⟩ := R0.out.at_ hx0
          have PS : Hid (∀ W, Below wk.heap.size wk W → Calls Try.prog 19 #[.slice xA lit.length xc, .slice (some ⟨ga, oa + i, none⟩) lit.length (c0 - i)] W fun e w' => e = .returned (.bool true) ∧ ∃ m, w' = W.drewN m) := Lib.hid (fun W hb =>
            lsame_yes xA (some ⟨ga, oa + i, none⟩) lit.length lit.length xc (c0 - i) lit lit W (HXO.out.rd.below hb) (by
              have h := rd_sub (RW.out.below hb) (b := i) (i + lit.length)
              rw [← HA5.out] at h
              exact h) rfl rfl (by omega) (by omega) rfl)
          have HBA : Hid (Below wk.heap.size wk (wk.alloc (.cells #[.slice xA lit.length xc, .int .i64 0, .int .i64 0] 37))) := Lib.hid ((Below.refl _ _).alloc (Nat.le_refl _) _)
          clear hx0 hga
          by_cases hk0 : k = 0
          · have k1 : ¬ (0 : Int) < (k : Int) := by omega
            have k1' : decide ((0 : Int) < (k : Int)) = false := by rw [decide_eq_false_iff_not]; omega
            have k1'' : decide (0 < k) = false := by rw [decide_eq_false_iff_not]; omega
            clear hk0
            go_wp2_with fail
            go_quiet ((go_at_call 19; go_loud (exact Calls.quiet_of (PS.out _ (below_drewN HBA.out _)))))
            go_wp2_with fail
            have HBQ := Lib.hid (below_drewN HBA.out nq)
            have HBT2 : Hid (Bt ((wk.alloc (.cells #[.slice xA lit.length xc, .int .i64 0, .int .i64 0] 37)).drewN nq) wk.heap.size ⟨xA, xc, lit, 0, 0⟩) := Lib.hid HBT.out
            clear s1 s2 s2' s3 s4 s5 s6 hic k1 k1'' k1'
            go_loopw [5, 8, 9] (fun u5 u8 u9 wi => ∃ (j p : Nat), u8 = .int .i64 j ∧ u5 = .int .i64 p ∧ j ≤ lit.length ∧ Hid (p = i + j) ∧ p ≤ n ∧ Hid (Below wk.heap.size wk wi) ∧ Hid (Bt wi wk.heap.size ⟨xA, xc, lit, 0, 0⟩)) (fun _ u8 _ _ => lit.length - (intOf u8).toNat)
            case atStart => exact ⟨0, i, rfl, rfl, Nat.zero_le _, Lib.hid rfl, hi, HBQ, HBT2⟩
            case round =>
              clear HBQ HBT2
              obtain ⟨j, p, rfl, rfl, hj, HP, hp, HB3, HT3⟩ := hrel
              obtain ⟨q0, q1, q2⟩ := HT3.out.facts
              simp only at q0 q1 q2
              by_cases hjl : j < lit.length
              · obtain ⟨wi, rfl⟩ : ∃ wi : World, wi = wr := ⟨_, rfl⟩
                have HPM : p + 1 ≤ n := by have := HP.out; omega
                go_wp2_with fail
                go_loopw [9] (fun u9 wj => ∃ (d : Nat), u9 = .int .i64 d ∧ 1 ≤ d ∧ d ≤ p + 1 ∧ Hid (Below wk.heap.size wk wj) ∧ Hid (Bt wj wk.heap.size ⟨xA, xc, lit, 0, 0⟩)) (fun u9 _ => 5000 - (intOf u9).toNat)
                case atStart => exact ⟨1, rfl, Nat.le_refl _, by omega, HB3, HT3⟩
                case round =>
                  clear HB3 HT3 q0 q1 q2
                  obtain ⟨d, rfl, hd1, hdp, HB4, HT4⟩ := hrel
                  by_cases h1 : d ≤ p
                  · by_cases h2 : d ≤ 2048
                    · have hml := HA7.out j d hjl hd1 (by rw [← HP.out]; exact h1) h2
                      rw [← HP.out] at hml
                      have P4 := Lib.hid (HML.out wr p d (HBW.out.trans (HB4.out.mono (Nat.le_trans hz1 hzr))) hp hd1 h1)
                      obtain ⟨m9, hm9⟩ : ∃ m9, m9 = ml bs p d := ⟨_, rfl⟩
                      rw [← hm9] at hml P4
                      clear hm9
                      go_wp2_with fail
                      refine P4.out.mono ?_
                      rintro e w5 ⟨rfl, d5, rfl⟩
                      go_wp2_with fail
                      go_roundw
                      case rel => exact ⟨d + 1, by go_num, by omega, by omega, Lib.hid (below_drewN HB4.out d5), Lib.hid HT4.out⟩
                      case measure => simp [intOf]; omega
                    · have HP2 : Hid (p + 1 = i + (j + 1)) := Lib.hid (by have := HP.out; omega)
                      go_wp2_with fail
                      go_roundw
                      case rel => exact ⟨j + 1, p + 1, by go_num, by go_num, by omega, HP2, HPM, HB4, HT4⟩
                      case measure => simp [intOf]; omega
                  · have HP2 : Hid (p + 1 = i + (j + 1)) := Lib.hid (by have := HP.out; omega)
                    go_wp2_with fail
                    go_roundw
                    case rel => exact ⟨j + 1, p + 1, by go_num, by go_num, by omega, HP2, HPM, HB4, HT4⟩
                    case measure => simp [intOf]; omega
              · have hjL : j = lit.length := by omega
                have HG9 : Hid (GrT bs p (prevL T (k + 1)) (T.drop (k + 1))) := Lib.hid (by rw [HP.out, hjL]; exact HA8.out)
                have HB9 := Lib.hid (HB.out.trans (HB3.out.mono hzr))
                clear hjL
                go_wp2_with fail
                go_roundw
                case rel => exact ⟨p, k + 1, rfl, by go_num, by omega, hp, HG9, HB9⟩
                case measure => simp [intOf]; omega
          · obtain ⟨y, hy⟩ := HPREV.out HP6.out (by omega)
            have k1 : (0 : Int) < (k : Int) := by omega
            have k1'' : 0 < k := by omega
            have k2 : IntKind.i64.wrap ((k : Int) - 1) = (k : Int) - 1 := IntWalk.i64_in _ (by omega)
            have k3 : (0 : Int) ≤ (k : Int) - 1 := by omega
            have k4 : (k : Int) - 1 < (N : Int) := by omega
            have k5 : ((k : Int) - 1).toNat = k - 1 := by omega
            clear hk0
            go_wp2_with fail
            go_quiet ((go_at_call 19; go_loud (exact Calls.quiet_of (PS.out _ (below_drewN HBA.out _)))))
            go_wp2_with fail
            have HBQ := Lib.hid (below_drewN HBA.out nq)
            have HBT2 : Hid (Bt ((wk.alloc (.cells #[.slice xA lit.length xc, .int .i64 0, .int .i64 0] 37)).drewN nq) wk.heap.size ⟨xA, xc, lit, 0, 0⟩) := Lib.hid HBT.out
            clear s1 s2 s2' s3 s4 s5 s6 hic k1 k1'' k2 k3 k4 k5 hy
            go_loopw [5, 8, 9] (fun u5 u8 u9 wi => ∃ (j p : Nat), u8 = .int .i64 j ∧ u5 = .int .i64 p ∧ j ≤ lit.length ∧ Hid (p = i + j) ∧ p ≤ n ∧ Hid (Below wk.heap.size wk wi) ∧ Hid (Bt wi wk.heap.size ⟨xA, xc, lit, 0, 0⟩)) (fun _ u8 _ _ => lit.length - (intOf u8).toNat)
            case atStart => exact ⟨0, i, rfl, rfl, Nat.zero_le _, Lib.hid rfl, hi, HBQ, HBT2⟩
            case round =>
              clear HBQ HBT2
              obtain ⟨j, p, rfl, rfl, hj, HP, hp, HB3, HT3⟩ := hrel
              obtain ⟨q0, q1, q2⟩ := HT3.out.facts
              simp only at q0 q1 q2
              by_cases hjl : j < lit.length
              · obtain ⟨wi, rfl⟩ : ∃ wi : World, wi = wr := ⟨_, rfl⟩
                have HPM : p + 1 ≤ n := by have := HP.out; omega
                go_wp2_with fail
                go_loopw [9] (fun u9 wj => ∃ (d : Nat), u9 = .int .i64 d ∧ 1 ≤ d ∧ d ≤ p + 1 ∧ Hid (Below wk.heap.size wk wj) ∧ Hid (Bt wj wk.heap.size ⟨xA, xc, lit, 0, 0⟩)) (fun u9 _ => 5000 - (intOf u9).toNat)
                case atStart => exact ⟨1, rfl, Nat.le_refl _, by omega, HB3, HT3⟩
                case round =>
                  clear HB3 HT3 q0 q1 q2
                  obtain ⟨d, rfl, hd1, hdp, HB4, HT4⟩ := hrel
                  by_cases h1 : d ≤ p
                  · by_cases h2 : d ≤ 2048
                    · have hml := HA7.out j d hjl hd1 (by rw [← HP.out]; exact h1) h2
                      rw [← HP.out] at hml
                      have P4 := Lib.hid (HML.out wr p d (HBW.out.trans (HB4.out.mono (Nat.le_trans hz1 hzr))) hp hd1 h1)
                      obtain ⟨m9, hm9⟩ : ∃ m9, m9 = ml bs p d := ⟨_, rfl⟩
                      rw [← hm9] at hml P4
                      clear hm9
                      go_wp2_with fail
                      refine P4.out.mono ?_
                      rintro e w5 ⟨rfl, d5, rfl⟩
                      go_wp2_with fail
                      go_roundw
                      case rel => exact ⟨d + 1, by go_num, by omega, by omega, Lib.hid (below_drewN HB4.out d5), Lib.hid HT4.out⟩
                      case measure => simp [intOf]; omega
                    · have HP2 : Hid (p + 1 = i + (j + 1)) := Lib.hid (by have := HP.out; omega)
                      go_wp2_with fail
                      go_roundw
                      case rel => exact ⟨j + 1, p + 1, by go_num, by go_num, by omega, HP2, HPM, HB4, HT4⟩
                      case measure => simp [intOf]; omega
                  · have HP2 : Hid (p + 1 = i + (j + 1)) := Lib.hid (by have := HP.out; omega)
                    go_wp2_with fail
                    go_roundw
                    case rel => exact ⟨j + 1, p + 1, by go_num, by go_num, by omega, HP2, HPM, HB4, HT4⟩
                    case measure => simp [intOf]; omega
              · have hjL : j = lit.length := by omega
                have HG9 : Hid (GrT bs p (prevL T (k + 1)) (T.drop (k + 1))) := Lib.hid (by rw [HP.out, hjL]; exact HA8.out)
                have HB9 := Lib.hid (HB.out.trans (HB3.out.mono hzr))
                clear hjL
                go_wp2_with fail
                go_roundw
                case rel => exact ⟨p, k + 1, rfl, by go_num, by omega, hp, HG9, HB9⟩
                case measure => simp [intOf]; omega
        · have hL5 : (5 : Int) ≤ (L : Int) := by omega
          have hD1 : (1 : Int) ≤ (D : Int) := by omega
          have hDi : (D : Int) ≤ (i : Int) := by omega
          have hDw : (D : Int) ≤ 2048 := by omega
          rw [HBL.out] at b7
          have hiL : (i : Int) + (L : Int) ≤ (n : Int) := by omega
          have H8 := Lib.hid b8
          have H9 := Lib.hid b9
          have HBA : Hid (Below wk.heap.size wk (wk.alloc (.cells #[.slice xA 0 xc, .int .i64 (D : Int), .int .i64 (L : Int)] 37))) := Lib.hid ((Below.refl _ _).alloc (Nat.le_refl _) _)
          subst b1
          simp only [List.length_nil] at hc0
          have HBT2 : Hid (Bt (wk.alloc (.cells #[.slice xA 0 xc, .int .i64 (D : Int), .int .i64 (L : Int)] 37)) wk.heap.size ⟨xA, xc, [], (D : Int), (L : Int)⟩) := Lib.hid HBT.out
          have g1 : decide ((L : Int) < 5) = false := by rw [decide_eq_false_iff_not]; omega
          have g2 : decide ((D : Int) < 1) = false := by rw [decide_eq_false_iff_not]; omega
          have g3 : decide (i < D) = false := by rw [decide_eq_false_iff_not]; omega
          have g4 : decide ((2048 : Int) < (D : Int)) = false := by rw [decide_eq_false_iff_not]; omega
          have g5 : decide ((n : Int) < (i : Int) + (L : Int)) = false := by rw [decide_eq_false_iff_not]; omega
          clear b8 b9 HBT HXO HPREV
          go_wp2_with fail
          go_loopw [10, 11] (fun u10 u11 wi => ∃ (d : Nat), u10 = .int .i64 d ∧ 1 ≤ d ∧ d ≤ i + 1 ∧ Hid (Below wk.heap.size wk wi) ∧ Hid (Bt wi wk.heap.size ⟨xA, xc, [], (D : Int), (L : Int)⟩)) (fun u10 _ _ => 5000 - (intOf u10).toNat)
          case atStart => exact ⟨1, rfl, Nat.le_refl _, by omega, HBA, HBT2⟩
          case round =>
            clear HBA HBT2
            obtain ⟨d, rfl, hd1, hdp, HB4, HT4⟩ := hrel
            obtain ⟨q0, q1, q2⟩ := HT4.out.facts
            simp only [List.length_nil] at q0 q1 q2
            by_cases h1 : d ≤ i
            · by_cases h2 : d ≤ 2048
              · obtain ⟨e1, e2, e3⟩ := H8.out d hd1 h1 h2
                have P4 := Lib.hid (HML.out wr i d (HBW.out.trans (HB4.out.mono (Nat.le_trans hz1 hzr))) hi hd1 h1)
                obtain ⟨m9, hm9⟩ : ∃ m9, m9 = ml bs i d := ⟨_, rfl⟩
                rw [← hm9] at e1 e2 e3 P4
                have E2 := Lib.hid e2
                have E3 := Lib.hid e3
                clear hm9 e2 e3
                go_wp2_with fail
                refine P4.out.mono ?_
                rintro e w5 ⟨rfl, d5, rfl⟩
                have hme : ¬ (L : Int) < (m9 : Int) := by omega
                by_cases hmL : m9 = L
                · have hDd := E2.out hmL
                  have f1 : ((m9 : Int) == (L : Int)) = true := by rw [beq_iff_eq]; omega
                  have f2 : ¬ (d : Int) < (D : Int) := by omega
                  have f3 : ((m9 : Int) != (L : Int)) = false := by rw [bne_eq_false_iff_eq]; omega
                  clear hmL
                  by_cases hdD : d = D
                  · have f4 : ((d : Int) == (D : Int)) = true := by rw [beq_iff_eq]; omega
                    clear hdD
                    go_wp2_with fail
                    go_roundw
                    case rel => exact ⟨d + 1, by go_num, by omega, by omega, Lib.hid (below_drewN HB4.out d5), Lib.hid HT4.out⟩
                    case measure => simp [intOf]; omega
                  · have f4 : ((d : Int) == (D : Int)) = false := by rw [beq_eq_false_iff_ne]; omega
                    clear hdD
                    go_wp2_with fail
                    go_roundw
                    case rel => exact ⟨d + 1, by go_num, by omega, by omega, Lib.hid (below_drewN HB4.out d5), Lib.hid HT4.out⟩
                    case measure => simp [intOf]; omega
                · have hdD : ¬ d = D := fun h => hmL (E3.out h)
                  have f1 : ((m9 : Int) == (L : Int)) = false := by rw [beq_eq_false_iff_ne]; omega
                  have f4 : ((d : Int) == (D : Int)) = false := by rw [beq_eq_false_iff_ne]; omega
                  clear hmL hdD
                  go_wp2_with fail
                  go_roundw
                  case rel => exact ⟨d + 1, by go_num, by omega, by omega, Lib.hid (below_drewN HB4.out d5), Lib.hid HT4.out⟩
                  case measure => simp [intOf]; omega
              · have HB9 := Lib.hid (HB.out.trans (HB4.out.mono hzr))
                go_wp2_with fail
                go_roundw
                case rel => exact ⟨i + L, k + 1, by go_num, by go_num, by omega, by omega, H9, HB9⟩
                case measure => simp [intOf]; omega
            · have HB9 := Lib.hid (HB.out.trans (HB4.out.mono hzr))
              go_wp2_with fail
              go_roundw
              case rel => exact ⟨i + L, k + 1, by go_num, by go_num, by omega, by omega, H9, HB9⟩
              case measure => simp [intOf]; omega
      · have hie := grT_end HG.out (by rw [HNT.out]; omega)
        rw [HBL.out] at hie
        have he : ((i : Int) == (n : Int)) = true := by rw [beq_iff_eq]; omega
        clear hie
        go_wp2_with fail
        go_ret
        exact ⟨rfl, HBW.out⟩
  · have hN0 : N = 0 := by have := HPOS.out; omega
    have hm0 : n = 0 := by omega
    have hl0 : ¬ (0 : Int) < (n : Int) := by omega
    subst hN0
    subst hm0
    go_wp2_with fail
    go_loopw [5, 6] (fun u5 k wr => u5 = .int .i64 0 ∧ k = .int .i64 0 ∧ Hid (Below w.heap.size w wr)) (fun _ _ _ => 0)
    case atStart => exact ⟨rfl, rfl, B1⟩
    case round =>
      obtain ⟨rfl, rfl, HB⟩ := hrel
      go_wp2_with fail
      go_ret
      exact ⟨rfl, HB.out⟩
end Go.Proofs.Ytmdpncjffikmiaa
