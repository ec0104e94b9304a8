/- Encode and Size. -/
import Derived.Test.YtljfmcgeiceagaaRecRBody
namespace Go.Proofs.Ytljfmcgeiceagaa
open Go Go.RowKit
set_option linter.unusedVariables false
set_option linter.unusedSimpArgs false

theorem ans8_of {w W W' : World} {A : Option Addr} {c n : Nat} {X : List Nat} {q : List Nat × Int} (hq : q = (X, 0)) (hn : n = X.length) (ho : W'.ownsRow W.heap.size 5 1 (.slice A X.length c) X.length (b8 X)) (hT : Below w.heap.size w W) (hb : Below W.heap.size W W') : Ans8 w q (.returned (.tuple #[.slice A n c, .int .i64 0])) W' := by
  subst hq hn
  exact ⟨A, c, rfl, own_lower ho hT.size, hT.trans (hb.mono hT.size)⟩
def rcObj (x : Rc) : Obj := .cells #[.int .i64 x.k, .int .i64 x.o, .int .i64 x.t, .int .i64 x.p, .int .i64 x.s, .string x.key, .string x.val] 62
theorem renc_bad {x : Rc} (h : ¬ chk x = 0) : renc x = ([], ((chk x : Nat) : Int)) := by unfold renc; rw [if_neg h]
theorem renc_ok {x : Rc} (h : chk x = 0) : renc x = (wrap 169 (bdy x), 0) := by unfold renc; rw [if_pos h]

set_option maxHeartbeats 400000 in
set_option maxRecDepth 100000 in
theorem rcencode4_is (x : Rc) (w : World) : Calls Try.prog 64 #[x.v] w (Ans8 w (renc x)) := by
  have PC := Lib.hid (fun W => rcheck_is x W)
  by_cases h0 : chk x = 0
  · have hm := chk_may h0
    have HQ := Lib.hid (renc_ok h0)
    have PB := Lib.hid (fun W => rrecbody_is x W hm)
    have hl := (bdy_len hm).2
    have PW := Lib.hid (fun A c W (hr : Rd W A (b8 (bdy x))) => rwrap_is 169 A (bdy x).length c (bdy x) W hr rfl (bdy_by hm) (by omega) (by omega))
    rw [h0] at PC
    obtain ⟨X, hX⟩ : ∃ X, X = bdy x := ⟨_, rfl⟩
    rw [← hX] at PB HQ PW hl
    clear hX hm h0
    obtain ⟨q, hq⟩ : ∃ q, q = renc x := ⟨_, rfl⟩
    rw [← hq] at HQ ⊢
    clear hq
    obtain ⟨k, o, t, p, s, key, val⟩ := x
    unfold Rc.v at PB PC ⊢
    simp only at PB PC ⊢
    have T0 := Lib.hid ((Below.refl w.heap.size w).alloc (Nat.le_refl _) (rcObj ⟨k, o, t, p, s, key, val⟩))
    have BX0 := Lib.hid (RBox.new w ⟨k, o, t, p, s, key, val⟩)
    obtain ⟨x0, x1, x2, x3, x4, x5, x6⟩ := BX0.out.facts
    simp only at x0 x1 x2 x3 x4 x5 x6
    go_enter Try.func64, Try.ntmps64
    go_wp2_with fail
    refine (PC.out _).mono ?_
    rintro e w1 ⟨rfl, hb1⟩
    have BX1 := Lib.hid (BX0.out.below hb1 (by simp))
    have T1 := Lib.hid (T0.out.trans (hb1.mono (by simp)))
    clear hb1 x0 x1 x2 x3 x4 x5 x6
    obtain ⟨x0, x1, x2, x3, x4, x5, x6⟩ := BX1.out.facts
    simp only at x0 x1 x2 x3 x4 x5 x6
    go_wp2_with fail
    refine (PB.out _).mono ?_
    rintro e w2 ⟨A2, c2, rfl, ho2, hb2⟩
    have HO2 := Lib.hid ho2
    have T2 := Lib.hid (T1.out.trans (hb2.mono T1.out.size))
    clear ho2 hb2
    go_wp2_with fail
    refine (PW.out A2 c2 w2 (rd_own HO2.out)).mono ?_
    rintro e w3 ⟨A3, c3, rfl, ho3, hb3⟩
    have HO3 := Lib.hid ho3
    have HB3 := Lib.hid hb3
    clear ho3 hb3
    go_wp2_with fail
    go_ret2
    exact ans8_of HQ.out rfl HO3.out T2.out HB3.out
  · have HQ := Lib.hid (renc_bad h0)
    have hz : (((chk x : Nat) : Int) != 0) = true := by rw [bne_iff_ne]; omega
    obtain ⟨z, hzz⟩ : ∃ z : Int, z = ((chk x : Nat) : Int) := ⟨_, rfl⟩
    rw [← hzz] at PC HQ hz
    clear hzz h0
    obtain ⟨q, hq⟩ : ∃ q, q = renc x := ⟨_, rfl⟩
    rw [← hq] at HQ ⊢
    clear hq
    obtain ⟨k, o, t, p, s, key, val⟩ := x
    unfold Rc.v at PC ⊢
    simp only at PC ⊢
    have T0 := Lib.hid ((Below.refl w.heap.size w).alloc (Nat.le_refl _) (rcObj ⟨k, o, t, p, s, key, val⟩))
    have BX0 := Lib.hid (RBox.new w ⟨k, o, t, p, s, key, val⟩)
    obtain ⟨x0, x1, x2, x3, x4, x5, x6⟩ := BX0.out.facts
    simp only at x0 x1 x2 x3 x4 x5 x6
    go_enter Try.func64, Try.ntmps64
    go_wp2_with fail
    refine (PC.out _).mono ?_
    rintro e w1 ⟨rfl, hb1⟩
    have T1 := Lib.hid (T0.out.trans (hb1.mono (by simp)))
    clear hb1 x0 x1 x2 x3 x4 x5 x6
    go_wp2_with fail
    go_ret2
    exact ans8_none w _ _ z HQ.out T1.out
set_option maxHeartbeats 1000000 in
set_option maxRecDepth 100000 in
theorem recencode_is (x : Rc) (w : World) : Calls Try.prog 63 #[x.v] w (Ans8 w (renc x)) := by
  have PC := Lib.hid (fun W => check_is x W)
  by_cases h0 : chk x = 0
  · have hm := chk_may h0
    have HQ := Lib.hid (renc_ok h0)
    have PB := Lib.hid (fun W => recbody_is x W hm)
    have hl := (bdy_len hm).2
    have hby := bdy_by hm
    rw [h0] at PC
    obtain ⟨X, hX⟩ : ∃ X, X = bdy x := ⟨_, rfl⟩
    rw [← hX] at PB HQ hl hby
    clear hX hm h0
    obtain ⟨q, hq⟩ : ∃ q, q = renc x := ⟨_, rfl⟩
    rw [← hq] at HQ ⊢
    clear hq
    obtain ⟨n, hn⟩ : ∃ n, X.length = n := ⟨_, rfl⟩
    have h2 : n ≤ 1115 := by omega
    clear hl
    have HN := Lib.hid hn
    have HY := Lib.hid hby
    obtain ⟨k, o, t, p, s, key, val⟩ := x
    unfold Rc.v at PB PC ⊢
    simp only at PB PC ⊢
    have T0 := Lib.hid ((Below.refl w.heap.size w).alloc (Nat.le_refl _) (rcObj ⟨k, o, t, p, s, key, val⟩))
    have BX0 := Lib.hid (RBox.new w ⟨k, o, t, p, s, key, val⟩)
    obtain ⟨x0, x1, x2, x3, x4, x5, x6⟩ := BX0.out.facts
    simp only at x0 x1 x2 x3 x4 x5 x6
    go_enter Try.func63, Try.ntmps63
    go_wp2_with fail
    refine (PC.out _).mono ?_
    rintro e wc ⟨rfl, hb1⟩
    have BX1 := Lib.hid (BX0.out.below hb1 (by simp))
    have T1 := Lib.hid (T0.out.trans (hb1.mono (by simp)))
    clear hb1 x0 x1 x2 x3 x4 x5 x6
    obtain ⟨x0, x1, x2, x3, x4, x5, x6⟩ := BX1.out.facts
    simp only at x0 x1 x2 x3 x4 x5 x6
    go_wp2_with fail
    refine (PB.out _).mono ?_
    rintro e wa ⟨Aa, ca, rfl, hoa, hba⟩
    rw [hn] at hoa ⊢
    have HR := Lib.hid (rd_own hoa)
    have TA := Lib.hid (T1.out.trans (hba.mono T1.out.size))
    clear hoa hba x0 x1 x2 x3 x4 x5 x6
    have hcl := crcOf_lt hby
    have hel := ext0_lt (fx_by 4 X.length)
    have HC : Hid (crcOf X = Crc.ext (Crc.ext 0 (fx X.length 4)) X) := Lib.hid rfl
    obtain ⟨z, hz⟩ : ∃ z, z = crcOf X := ⟨_, rfl⟩
    obtain ⟨y, hy⟩ : ∃ y, y = Crc.ext 0 (fx X.length 4) := ⟨_, rfl⟩
    rw [← hz] at hcl HC
    rw [← hy] at hel HC
    have HZ := Lib.hid hz
    have HE : Hid (Crc.ext 0 (fx n 4) = y) := Lib.hid (by rw [hy, hn])
    have PS := Lib.hid (fun A c W (h : Rd W A (b8 (fx n 4))) => sum_any A 4 c (fx n 4) W h (fx_by _ _) (fx_length 4 n) (by omega))
    rw [HE.out] at PS
    have PE := Lib.hid (fun W (h : Rd W Aa (b8 X)) => extend_any y Aa n ca X W hel h hby hn (by omega))
    rw [← HC.out] at PE
    have HW1 := Lib.hid (new_wr wa.heap.size wa (Nat.le_refl _))
    have B1 := Lib.hid ((Below.refl wa.heap.size wa).alloc (Nat.le_refl _) (.cells #[.slice none 0 0] 78))
    clear hn hby hy hz
    obtain ⟨ln, hln⟩ : ∃ ln, ln = fx n 4 := ⟨_, rfl⟩
    have hl4 : ln.length = 4 := by rw [hln, fx_length]
    have HL4 := Lib.hid hl4
    rw [← hln] at PS
    have PU := Lib.hid (fun W v (h : Wr wa.heap.size W 78 wa.heap.size v []) => u32_w wa.heap.size wa.heap.size v [] n W h (by omega) (by simp) h.hb)
    rw [List.nil_append, ← hln] at PU
    have HLN := Lib.hid hln
    clear hl4 hln
    go_wp2_with fail
    refine (new_is wa).mono ?_
    rintro e w' ⟨rfl, rfl⟩
    go_wp2_with fail
    refine (PU.out _ _ HW1.out).mono ?_
    intro e w2 hw
    obtain ⟨v2, rfl, hw2, hb2⟩ := hw.leaves HW1.out
    have HW2 := Lib.hid hw2
    have B2 := Lib.hid (B1.out.trans hb2)
    clear hw hw2 hb2
    go_wp2_with fail
    refine (new_is w2).mono ?_
    rintro e w' ⟨rfl, rfl⟩
    have HX3 := Lib.hid (new_wr w2.heap.size w2 (Nat.le_refl _))
    have B3 := Lib.hid ((Below.refl w2.heap.size w2).alloc (Nat.le_refl _) (.cells #[.slice none 0 0] 78))
    go_wp2_with fail
    refine (byte_is w2.heap.size w2.heap.size _ [] 169 _ HX3.out (by simp) B3.out.size).mono ?_
    intro e w4 hw
    obtain ⟨v4, rfl, hw4, hb4⟩ := hw.leaves HX3.out
    have HX4 := Lib.hid hw4
    have B4 := Lib.hid (B3.out.trans hb4)
    clear hw hw4 hb4
    go_wp2_with fail
    refine (bytes_w wa.heap.size wa.heap.size v2 ln w4 (HW2.out.below B4.out) (by have := HL4.out; omega)).mono ?_
    rintro e w5 ⟨A5, c5, rfl, ho5, hb5⟩
    have HO5 := Lib.hid ho5
    have HX5 := Lib.hid (HX4.out.below hb5)
    have B5 := Lib.hid (B4.out.trans (hb5.mono B4.out.size))
    clear ho5 hb5
    go_wp2_with fail
    refine (raw_is w2.heap.size w2.heap.size v4 ([] ++ [169]) A5 _ c5 ln w5 HX5.out (rd_own HO5.out) rfl (by rw [HL4.out]; simp) B5.out.size).mono ?_
    intro e w6 hw
    obtain ⟨v6, rfl, hw6, hb6⟩ := hw.leaves HX5.out
    have HX6 := Lib.hid hw6
    have B6 := Lib.hid (B5.out.trans hb6)
    clear hw hw6 hb6
    go_wp2_with fail
    refine (bytes_w wa.heap.size wa.heap.size v2 ln w6 (HW2.out.below B6.out) (by have := HL4.out; omega)).mono ?_
    rintro e w7 ⟨A7, c7, rfl, ho7, hb7⟩
    rw [HL4.out] at ho7 ⊢
    have HO7 := Lib.hid ho7
    have HX7 := Lib.hid (HX6.out.below hb7)
    have B7 := Lib.hid (B6.out.trans (hb7.mono B6.out.size))
    clear ho7 hb7
    go_wp2_with fail
    refine (PS.out A7 c7 w7 (rd_own HO7.out)).mono ?_
    rintro e w8 ⟨rfl, hb8⟩
    have HX8 := Lib.hid (HX7.out.below hb8)
    have B8 := Lib.hid (B7.out.trans (hb8.mono B7.out.size))
    clear hb8
    go_wp2_with fail
    refine (PE.out w8 ((HR.out.below (B2.out)).below B8.out)).mono ?_
    rintro e w9 ⟨rfl, hb9⟩
    have HX9 := Lib.hid (HX8.out.below hb9)
    have B9 := Lib.hid (B8.out.trans (hb9.mono B8.out.size))
    clear hb9
    go_wp2_with fail
    refine (u32_w w2.heap.size w2.heap.size v6 _ z w9 HX9.out hcl (by rw [List.length_append, HL4.out]; simp) B9.out.size).mono ?_
    intro e w10 hw
    obtain ⟨v10, rfl, hw10, hb10⟩ := hw.leaves HX9.out
    have HX10 := Lib.hid hw10
    have B10 := Lib.hid (B9.out.trans hb10)
    clear hw hw10 hb10
    go_wp2_with fail
    refine (raw_is w2.heap.size w2.heap.size v10 _ Aa n ca X w10 HX10.out ((HR.out.below (B2.out)).below B10.out) HN.out (by rw [List.length_append, List.length_append, HL4.out, fx_length]; simp; omega) B10.out.size).mono ?_
    intro e w11 hw
    obtain ⟨v11, rfl, hw11, hb11⟩ := hw.leaves HX10.out
    have HX11 := Lib.hid hw11
    have B11 := Lib.hid (B10.out.trans hb11)
    clear hw hw11 hb11
    go_wp2_with fail
    have hwr : ([] ++ [169] ++ ln ++ fx z 4 ++ X) = wrap 169 X := by
      rw [HZ.out, HLN.out, ← HN.out]
      rfl
    rw [hwr] at HX11
    refine (bytes_w w2.heap.size w2.heap.size v11 _ w11 HX11.out (by rw [wrap_length, HN.out]; omega)).mono ?_
    rintro e w12 ⟨A12, c12, rfl, ho12, hb12⟩
    have HO12 := Lib.hid ho12
    have B12 := Lib.hid (B11.out.trans (hb12.mono B11.out.size))
    clear ho12 hb12
    go_wp2_with fail
    go_ret2
    exact ans8_of HQ.out rfl (own_lower HO12.out (Nat.le_trans B2.out.size B11.out.size)) TA.out (B2.out.trans (B12.out.mono B2.out.size))
  · have HQ := Lib.hid (renc_bad h0)
    have hz : (((chk x : Nat) : Int) != 0) = true := by rw [bne_iff_ne]; omega
    obtain ⟨z, hzz⟩ : ∃ z : Int, z = ((chk x : Nat) : Int) := ⟨_, rfl⟩
    rw [← hzz] at PC HQ hz
    clear hzz h0
    obtain ⟨q, hq⟩ : ∃ q, q = renc x := ⟨_, rfl⟩
    rw [← hq] at HQ ⊢
    clear hq
    obtain ⟨k, o, t, p, s, key, val⟩ := x
    unfold Rc.v at PC ⊢
    simp only at PC ⊢
    have T0 := Lib.hid ((Below.refl w.heap.size w).alloc (Nat.le_refl _) (rcObj ⟨k, o, t, p, s, key, val⟩))
    have BX0 := Lib.hid (RBox.new w ⟨k, o, t, p, s, key, val⟩)
    obtain ⟨x0, x1, x2, x3, x4, x5, x6⟩ := BX0.out.facts
    simp only at x0 x1 x2 x3 x4 x5 x6
    go_enter Try.func63, Try.ntmps63
    go_wp2_with fail
    refine (PC.out _).mono ?_
    rintro e w1 ⟨rfl, hb1⟩
    have T1 := Lib.hid (T0.out.trans (hb1.mono (by simp)))
    clear hb1 x0 x1 x2 x3 x4 x5 x6
    go_wp2_with fail
    go_ret2
    exact ans8_none w _ _ z HQ.out T1.out
def rsize (x : Rc) : Nat := (renc x).1.length
set_option maxRecDepth 100000 in
theorem recsize_is (x : Rc) (w : World) : Calls Try.prog 39 #[x.v] w fun e w' => e = .returned (.int .i64 ((rsize x : Nat) : Int)) ∧ Below w.heap.size w w' := by
  have PE := Lib.hid (fun W => recencode_is x W)
  obtain ⟨q, hq⟩ : ∃ q, q = renc x := ⟨_, rfl⟩
  have hs : rsize x = q.1.length := by unfold rsize; rw [hq]
  rw [← hq] at PE
  rw [hs]
  clear hq hs
  obtain ⟨k, o, t, p, s, key, val⟩ := x
  unfold Rc.v at PE ⊢
  simp only at PE ⊢
  have T0 := Lib.hid ((Below.refl w.heap.size w).alloc (Nat.le_refl _) (rcObj ⟨k, o, t, p, s, key, val⟩))
  have BX0 := Lib.hid (RBox.new w ⟨k, o, t, p, s, key, val⟩)
  obtain ⟨x0, x1, x2, x3, x4, x5, x6⟩ := BX0.out.facts
  simp only at x0 x1 x2 x3 x4 x5 x6
  go_enter Try.func39, Try.ntmps39
  go_wp2_with fail
  refine (PE.out _).mono ?_
  rintro e w1 ⟨A1, c1, rfl, ho1, hb1⟩
  have T1 := Lib.hid (T0.out.trans (hb1.mono (by simp)))
  clear hb1 x0 x1 x2 x3 x4 x5 x6 ho1
  go_wp2_with fail
  go_ret
  exact ⟨rfl, T1.out⟩
end Go.Proofs.Ytljfmcgeiceagaa
