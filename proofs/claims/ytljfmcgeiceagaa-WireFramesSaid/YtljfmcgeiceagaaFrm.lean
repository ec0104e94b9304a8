/- Frames. -/
import Derived.Test.YtljfmcgeiceagaaWrap
namespace Go.Proofs.Ytljfmcgeiceagaa
open Go Go.RowKit
set_option linter.unusedVariables false
set_option linter.unusedSimpArgs false

/-- The frame of a body. -/
def frm (body : List Nat) : List Nat × Int := if body.length = 0 then ([], 160) else if 4087 < body.length then ([], 163) else (wrap 197 body, 0)
def FramePost (w : World) (q : List Nat × Int) (e : Ending) (w' : World) : Prop :=
  ∃ A c, e = .returned (.tuple #[.slice A q.1.length c, .int .i64 q.2]) ∧ w'.ownsRow w.heap.size 5 1 (.slice A q.1.length c) q.1.length (b8 q.1) ∧ Below w.heap.size w w'

section
variable (A : Option Addr) (n c : Nat) (body : List Nat) (w : World) (hr : Rd w A (b8 body)) (hn : body.length = n) (hby : By body)
include hr hn hby
set_option maxHeartbeats 400000 in
set_option maxRecDepth 100000 in
theorem frame_yes (h1 : 0 < n) (h2 : n ≤ 4087) :
    Calls Try.prog 10 #[.slice A n c] w (FramePost w (wrap 197 body, 0)) := by
  have HN := Lib.hid hn
  have HY := Lib.hid hby
  have HR := Lib.hid hr
  have hcl := crcOf_lt hby
  have hel := ext0_lt (fx_by 4 body.length)
  have HC : Hid (crcOf body = Crc.ext (Crc.ext 0 (fx body.length 4)) body) := Lib.hid rfl
  obtain ⟨z, hz⟩ : ∃ z, z = crcOf body := ⟨_, rfl⟩
  obtain ⟨y, hy⟩ : ∃ y, y = Crc.ext 0 (fx body.length 4) := ⟨_, rfl⟩
  rw [← hz] at hcl HC
  rw [← hy] at hel HC
  have HZ := Lib.hid hz
  have HE : Hid (Crc.ext 0 (fx n 4) = y) := Lib.hid (by rw [hy, hn])
  have PS := Lib.hid (fun A c W (h : Rd W A (b8 (fx n 4))) => sum_any A 4 c (fx n 4) W h (fx_by _ _) (fx_length 4 n) (by omega))
  rw [HE.out] at PS
  have PE := Lib.hid (fun W (h : Rd W A (b8 body)) => extend_any y A n c body W hel h hby hn (by omega))
  rw [← HC.out] at PE
  have HW1 := Lib.hid (new_wr w.heap.size w (Nat.le_refl _))
  have B1 := Lib.hid ((Below.refl w.heap.size w).alloc (Nat.le_refl _) (.cells #[.slice none 0 0] 78))
  clear hn hby hr hy hz
  obtain ⟨ln, hln⟩ : ∃ ln, ln = fx n 4 := ⟨_, rfl⟩
  have hl4 : ln.length = 4 := by rw [hln, fx_length]
  have HL4 := Lib.hid hl4
  rw [← hln] at PS
  have PU := Lib.hid (fun W v (h : Wr w.heap.size W 78 w.heap.size v []) => u32_w w.heap.size w.heap.size v [] n W h (by omega) (by simp) h.hb)
  rw [List.nil_append, ← hln] at PU
  have HLN := Lib.hid hln
  clear hl4 hln
  go_enter Try.func10, Try.ntmps10
  go_wp2_with fail
  refine (new_is w).mono ?_
  rintro e w' ⟨rfl, rfl⟩
  go_wp2_with fail
  refine (PU.out _ _ HW1.out).mono ?_
  intro e w2 hw
  obtain ⟨v2, rfl, hw2, hb2⟩ := hw.leaves HW1.out
  have HW2 := Lib.hid hw2
  have B2 := Lib.hid (B1.out.trans hb2)
  clear hw hw2 hb2
  go_wp2_with fail
  refine (new_is w2).mono ?_
  rintro e w' ⟨rfl, rfl⟩
  have HX3 := Lib.hid (new_wr w2.heap.size w2 (Nat.le_refl _))
  have B3 := Lib.hid ((Below.refl w2.heap.size w2).alloc (Nat.le_refl _) (.cells #[.slice none 0 0] 78))
  go_wp2_with fail
  refine (byte_is w2.heap.size w2.heap.size _ [] 197 _ HX3.out (by simp) B3.out.size).mono ?_
  intro e w4 hw
  obtain ⟨v4, rfl, hw4, hb4⟩ := hw.leaves HX3.out
  have HX4 := Lib.hid hw4
  have B4 := Lib.hid (B3.out.trans hb4)
  clear hw hw4 hb4
  go_wp2_with fail
  refine (bytes_w w.heap.size w.heap.size v2 ln w4 (HW2.out.below B4.out) (by have := HL4.out; omega)).mono ?_
  rintro e w5 ⟨A5, c5, rfl, ho5, hb5⟩
  have HO5 := Lib.hid ho5
  have HX5 := Lib.hid (HX4.out.below hb5)
  have B5 := Lib.hid (B4.out.trans (hb5.mono B4.out.size))
  clear ho5 hb5
  go_wp2_with fail
  refine (raw_is w2.heap.size w2.heap.size v4 ([] ++ [197]) A5 _ c5 ln w5 HX5.out (rd_own HO5.out) rfl (by rw [HL4.out]; simp) B5.out.size).mono ?_
  intro e w6 hw
  obtain ⟨v6, rfl, hw6, hb6⟩ := hw.leaves HX5.out
  have HX6 := Lib.hid hw6
  have B6 := Lib.hid (B5.out.trans hb6)
  clear hw hw6 hb6
  go_wp2_with fail
  refine (bytes_w w.heap.size w.heap.size v2 ln w6 (HW2.out.below B6.out) (by have := HL4.out; omega)).mono ?_
  rintro e w7 ⟨A7, c7, rfl, ho7, hb7⟩
  rw [HL4.out] at ho7 ⊢
  have HO7 := Lib.hid ho7
  have HX7 := Lib.hid (HX6.out.below hb7)
  have B7 := Lib.hid (B6.out.trans (hb7.mono B6.out.size))
  clear ho7 hb7
  go_wp2_with fail
  refine (PS.out A7 c7 w7 (rd_own HO7.out)).mono ?_
  rintro e w8 ⟨rfl, hb8⟩
  have HX8 := Lib.hid (HX7.out.below hb8)
  have B8 := Lib.hid (B7.out.trans (hb8.mono B7.out.size))
  clear hb8
  go_wp2_with fail
  refine (PE.out w8 ((HR.out.below (B2.out)).below B8.out)).mono ?_
  rintro e w9 ⟨rfl, hb9⟩
  have HX9 := Lib.hid (HX8.out.below hb9)
  have B9 := Lib.hid (B8.out.trans (hb9.mono B8.out.size))
  clear hb9
  go_wp2_with fail
  refine (u32_w w2.heap.size w2.heap.size v6 _ z w9 HX9.out hcl (by rw [List.length_append, HL4.out]; simp) B9.out.size).mono ?_
  intro e w10 hw
  obtain ⟨v10, rfl, hw10, hb10⟩ := hw.leaves HX9.out
  have HX10 := Lib.hid hw10
  have B10 := Lib.hid (B9.out.trans hb10)
  clear hw hw10 hb10
  go_wp2_with fail
  refine (raw_is w2.heap.size w2.heap.size v10 _ A n c body w10 HX10.out ((HR.out.below (B2.out)).below B10.out) HN.out (by rw [List.length_append, List.length_append, HL4.out, fx_length]; simp; omega) B10.out.size).mono ?_
  intro e w11 hw
  obtain ⟨v11, rfl, hw11, hb11⟩ := hw.leaves HX10.out
  have HX11 := Lib.hid hw11
  have B11 := Lib.hid (B10.out.trans hb11)
  clear hw hw11 hb11
  go_wp2_with fail
  have hwr : ([] ++ [197] ++ ln ++ fx z 4 ++ body) = wrap 197 body := by
    rw [HZ.out, HLN.out, ← HN.out]
    rfl
  rw [hwr] at HX11
  refine (bytes_w w2.heap.size w2.heap.size v11 _ w11 HX11.out (by rw [wrap_length, HN.out]; omega)).mono ?_
  rintro e w12 ⟨A12, c12, rfl, ho12, hb12⟩
  have HO12 := Lib.hid ho12
  have B12 := Lib.hid (B11.out.trans (hb12.mono B11.out.size))
  clear ho12 hb12
  go_wp2_with fail
  go_ret2
  exact ⟨A12, c12, rfl, own_lower HO12.out (Nat.le_trans B2.out.size B11.out.size), B2.out.trans (B12.out.mono B2.out.size)⟩
set_option maxRecDepth 100000 in
theorem frame_is (hl : n ≤ 140737488351232) :
    Calls Try.prog 10 #[.slice A n c] w (FramePost w (frm body)) := by
  unfold frm
  rw [hn]
  by_cases h1 : n = 0
  · rw [if_pos h1]
    subst h1
    clear hr hn hby
    go_enter Try.func10, Try.ntmps10
    go_wp2
    go_ret2
    exact ⟨none, 0, rfl, World.ownsRow_nil _ _ _ _, Below.refl _ _⟩
  · rw [if_neg h1]
    by_cases h2 : 4087 < n
    · rw [if_pos h2]
      clear hr hn hby
      go_enter Try.func10, Try.ntmps10
      go_wp2
      go_ret2
      exact ⟨none, 0, rfl, World.ownsRow_nil _ _ _ _, Below.refl _ _⟩
    · rw [if_neg h2]
      exact frame_yes A n c body w hr hn hby (by omega) (by omega)
set_option maxRecDepth 100000 in
theorem rframe_is (hl : n ≤ 140737488351232) :
    Calls Try.prog 13 #[.slice A n c] w (FramePost w (frm body)) := by
  unfold frm
  by_cases h1 : body.length = 0
  · rw [if_pos h1]
    rw [hn] at h1
    subst h1
    clear hr hn hby
    go_enter Try.func13, Try.ntmps13
    go_wp2
    go_ret2
    exact ⟨none, 0, rfl, World.ownsRow_nil _ _ _ _, Below.refl _ _⟩
  · rw [if_neg h1]
    by_cases h2 : 4087 < body.length
    · rw [if_pos h2]
      rw [hn] at h2
      clear hr hn hby
      go_enter Try.func13, Try.ntmps13
      go_wp2
      go_ret2
      exact ⟨none, 0, rfl, World.ownsRow_nil _ _ _ _, Below.refl _ _⟩
    · rw [if_neg h2]
      rw [hn] at h1 h2
      have P := Lib.hid (rwrap_is 197 A n c body w hr hn hby (by omega) (by omega))
      unfold Gives8 Got8 at P
      clear hr hn hby
      go_enter Try.func13, Try.ntmps13
      go_wp2_with fail
      refine P.out.mono ?_
      rintro e w1 ⟨A1, c1, rfl, ho1, hb1⟩
      have HO1 := Lib.hid ho1
      have B1 := Lib.hid hb1
      clear ho1 hb1
      go_wp2_with fail
      go_ret2
      exact ⟨A1, c1, rfl, HO1.out, B1.out⟩
end
end Go.Proofs.Ytljfmcgeiceagaa
