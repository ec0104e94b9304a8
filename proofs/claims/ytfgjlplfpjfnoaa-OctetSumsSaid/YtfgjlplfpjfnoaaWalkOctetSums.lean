/- OctetSums: its walk. -/
import Derived.Test.YtfgjlplfpjfnoaaOctSame
import Derived.Test.YtfgjlplfpjfnoaaOctMem
import Derived.Test.YtfgjlplfpjfnoaaPatch2
import Derived.Test.YtfgjlplfpjfnoaaRefPatch
import Derived.Test.YtfgjlplfpjfnoaaRefJoin2
import Derived.Test.YtfgjlplfpjfnoaaWalkOctetJoins
namespace Go.Proofs.Ytfgjlplfpjfnoaa
open Go Go.RowKit
set_option linter.unusedVariables false

/-- The roomy copy, and that nothing older was touched. -/
structure SumS (w : World) (g n c : Nat) (xs : List Nat) (W : World) : Prop where
  below : Below w.heap.size w W
  own : W.ownsRow w.heap.size 5 1 (.slice (some ⟨g, 0, none⟩) n c) n (b8 (xs ++ [165, 90, 167, 91]))
theorem SumS.more {w : World} {g n c : Nat} {xs : List Nat} {W W' : World} (h : SumS w g n c xs W) (hb : Below W.heap.size W W') : SumS w g n c xs W' :=
  ⟨h.below.trans (hb.mono h.below.size), own_below h.own hb⟩
theorem SumS.drewN {w : World} {g n c : Nat} {xs : List Nat} {W : World} (h : SumS w g n c xs W) (k : Nat) : SumS w g n c xs (W.drewN k) :=
  h.more (below_drewN (Below.refl _ _) k)
theorem SumS.rd {w : World} {g n c : Nat} {xs : List Nat} {W : World} (h : SumS w g n c xs W) : Rd W (some ⟨g, 0, none⟩) (b8 xs) := rd_pre h.own

theorem flip_is (w : World) (g N cap n c : Nat) (xs ys : List Nat) (W : World) (h : SumS w g N cap xs W) (hg : w.heap.size ≤ g) (hby : By xs) (hn : xs.length = n) (hl : n ≤ 140737488355328) (hy : ys = xs.map fl) :
    Calls Try.prog 22 #[.slice (some ⟨g, 0, none⟩) n c] W fun e W' => e = .returned (.slice (some ⟨g, 0, none⟩) n c) ∧ SumS w g N cap ys W' := by
  subst hy
  refine (flipped_own w.heap.size g N cap n c xs [165, 90, 167, 91] W h.own hby hn hl).mono ?_
  rintro e W' ⟨rfl, h2, h3⟩
  exact ⟨rfl, h.below.trans (below_of_grown h3 h.below.size (fun k hk => by injection hk with hk; omega)), h2⟩

set_option maxHeartbeats 2000000 in
set_option maxRecDepth 100000 in
theorem octetSums_walk (A0 : Option Addr) (c0 : Nat) (b0 : List Nat) (a1 : Nat) (a2 : Nat) (a3 : Int) (w : World) (c0l : b0.length ≤ c0) (r0 : Rd w A0 (b8 b0)) (y0 : By b0) (l0 : b0.length ≤ 140737488351232) (w1 : a1 < 4294967296) (w2 : a2 < 4294967296) (w3 : -9223372036854775808 ≤ a3 ∧ a3 ≤ 9223372036854775807) :
    Calls Try.prog 14 #[.slice A0 b0.length c0, .int .u32 (a1 : Int), .int .u32 (a2 : Int), .int .i64 a3] w fun e w' => e = .returned (.bool true) ∧ Below w.heap.size w w' := by
  obtain ⟨fs, hfs⟩ : ∃ fs, fs = b0.map fl := ⟨_, rfl⟩
  have hback : b0 = fs.map fl := by rw [hfs, map_fl_fl y0]
  have yf : By fs := by rw [hfs]; exact by_fl _
  have lf : fs.length = b0.length := by rw [hfs]; simp
  obtain ⟨s, hs⟩ : ∃ s, s = Crc.ext 0 b0 := ⟨_, rfl⟩
  obtain ⟨sf, hsf⟩ : ∃ s, s = Crc.ext 0 fs := ⟨_, rfl⟩
  obtain ⟨x, hx⟩ : ∃ s, s = Crc.ext a1 b0 := ⟨_, rfl⟩
  obtain ⟨xf, hxf⟩ : ∃ s, s = Crc.ext a1 fs := ⟨_, rfl⟩
  obtain ⟨j, hj⟩ : ∃ s, s = Crc.join a1 a2 a3.toNat := ⟨_, rfl⟩
  have HFS := Lib.hid hfs
  have HB := Lib.hid hback
  have LF := Lib.hid lf
  have HS := Lib.hid hs
  have HSF := Lib.hid hsf
  have HX := Lib.hid hx
  have HXF := Lib.hid hxf
  have HJ := Lib.hid hj
  have W3 := Lib.hid w3
  clear hfs hback lf hs hsf hx hxf hj w3
  go_enter Try.func14, Try.ntmps14
  go_wp2_with fail
  refine (roomy_any A0 b0.length c0 b0 w r0 rfl (by omega)).mono ?_
  rintro e u1 ⟨F, cf, rfl, hf, hb1⟩
  simp only [List.length_append, List.length_cons, List.length_nil] at hf ⊢
  obtain ⟨g, rfl, hg0, hg1, hgc, _⟩ := own_pos hf (by omega)
  have s0 : (0 : Int) ≤ (b0.length : Int) := by omega
  have s1 : (b0.length : Int) ≤ (cf : Int) := by omega
  obtain ⟨N, hN⟩ : ∃ N, N = b0.length + (0 + 1 + 1 + 1 + 1) := ⟨_, rfl⟩
  have S1 : SumS w g N cf b0 u1 := by rw [hN]; exact ⟨hb1, hf⟩
  clear hf hb1
  go_wp2_with fail
  refine (flip_is w g N cf b0.length cf b0 fs u1 S1 hg0 y0 rfl (by omega) HFS.out).mono ?_
  rintro e u2 ⟨rfl, S2⟩
  clear S1
  go_wp2_with fail
  refine (sum_is (some ⟨g, 0, none⟩) _ cf fs u2 sf S2.rd yf LF.out (by omega) HSF.out).mono ?_
  rintro e u3 ⟨rfl, hbn⟩
  have S3 := S2.more hbn
  clear S2 hbn
  go_wp2_with fail
  refine (flip_is w g N cf b0.length cf fs b0 u3 S3 hg0 yf LF.out (by omega) HB.out).mono ?_
  rintro e u4 ⟨rfl, S4⟩
  clear S3
  go_wp2_with fail
  refine (sum_is (some ⟨g, 0, none⟩) _ cf b0 u4 s S4.rd y0 rfl (by omega) HS.out).mono ?_
  rintro e u5 ⟨rfl, hbn⟩
  have S5 := S4.more hbn
  clear S4 hbn
  go_wp2_with fail
  refine (flip_is w g N cf b0.length cf b0 fs u5 S5 hg0 y0 rfl (by omega) HFS.out).mono ?_
  rintro e u6 ⟨rfl, S6⟩
  clear S5
  go_wp2_with fail
  refine (ext_is a1 (some ⟨g, 0, none⟩) _ cf fs u6 xf w1 S6.rd yf LF.out (by omega) HXF.out).mono ?_
  rintro e u7 ⟨rfl, hbn⟩
  have S7 := S6.more hbn
  clear S6 hbn
  go_wp2_with fail
  refine (flip_is w g N cf b0.length cf fs b0 u7 S7 hg0 yf LF.out (by omega) HB.out).mono ?_
  rintro e u8 ⟨rfl, S8⟩
  clear S7
  go_wp2_with fail
  refine (rsum_is A0 _ c0 b0 u8 s (r0.below S8.below) y0 rfl (by omega) HS.out).mono ?_
  rintro e u9 ⟨rfl, hun⟩
  have S9 : SumS w g N cf b0 u9 := by rw [← hun]; exact S8
  clear S8 hun
  go_wp2_with fail
  refine (sum_is (some ⟨g, 0, none⟩) _ cf b0 u9 s S9.rd y0 rfl (by omega) HS.out).mono ?_
  rintro e u10 ⟨rfl, hbn⟩
  have S10 := S9.more hbn
  clear S9 hbn
  go_wp2_with fail
  refine (rsum_is A0 _ c0 b0 u10 s (r0.below S10.below) y0 rfl (by omega) HS.out).mono ?_
  rintro e u11 ⟨rfl, hun⟩
  have S11 : SumS w g N cf b0 u11 := by rw [← hun]; exact S10
  clear S10 hun
  go_wp2_with fail
  refine (ext_is a1 (some ⟨g, 0, none⟩) _ cf b0 u11 x w1 S11.rd y0 rfl (by omega) HX.out).mono ?_
  rintro e u12 ⟨rfl, hbn⟩
  have S12 := S11.more hbn
  clear S11 hbn
  go_wp2_with fail
  refine (rextend_is a1 A0 _ c0 b0 u12 x w1 (r0.below S12.below) y0 rfl (by omega) HX.out).mono ?_
  rintro e u13 ⟨rfl, hun⟩
  have S13 : SumS w g N cf b0 u13 := by rw [← hun]; exact S12
  clear S12 hun
  go_wp2_with fail
  refine (join_is a1 a2 a3 u13 j w1 w2 W3.out.1 W3.out.2 HJ.out).mono ?_
  rintro e u14 ⟨rfl, hbn⟩
  have S14 := S13.more hbn
  clear S13 hbn
  go_wp2_with fail
  refine (rjoin_is a1 a2 a3 u14 j w1 w2 W3.out.1 W3.out.2 HJ.out).mono ?_
  rintro e u15 ⟨rfl, hbn⟩
  have S15 := S14.more hbn
  clear S14 hbn
  go_wp2_with fail
  refine (flip_is w g N cf b0.length cf b0 fs u15 S15 hg0 y0 rfl (by omega) HFS.out).mono ?_
  rintro e u16 ⟨rfl, S16⟩
  clear S15
  go_wp2_with fail
  refine (patch_any (some ⟨g, 0, none⟩) _ cf fs a1 u16 S16.rd yf LF.out (by omega) w1).mono ?_
  rintro e u17 ⟨A4, c4, rfl, _, hbn⟩
  have S17 := S16.more hbn
  clear S16 hbn
  go_wp2_with fail
  refine (flip_is w g N cf b0.length cf fs b0 u17 S17 hg0 yf LF.out (by omega) HB.out).mono ?_
  rintro e u18 ⟨rfl, S18⟩
  clear S17
  have pl1 : (Pat.patch b0 a1).length = 4 := Pat.patch_length b0 a1
  have pl2 : (Pat.patch b0 a2).length = 4 := Pat.patch_length b0 a2
  obtain ⟨p1, hp1⟩ : ∃ p, p = Pat.patch b0 a1 := ⟨_, rfl⟩
  obtain ⟨p2, hp2⟩ : ∃ p, p = Pat.patch b0 a2 := ⟨_, rfl⟩
  rw [← hp1] at pl1
  rw [← hp2] at pl2
  have HP1 := Lib.hid hp1
  have HP2 := Lib.hid hp2
  clear hp1 hp2
  go_wp2_with fail
  refine (patch_any (some ⟨g, 0, none⟩) _ cf b0 a1 u18 S18.rd y0 rfl (by omega) w1).mono ?_
  rintro e u19 ⟨T, ct, rfl, hT, hbn⟩
  rw [← HP1.out, pl1] at hT
  rw [← HP1.out, pl1]
  have S19 := S18.more hbn
  clear S18 hbn
  go_wp2_with fail
  refine (patch_any (some ⟨g, 0, none⟩) _ cf b0 a2 u19 S19.rd y0 rfl (by omega) w2).mono ?_
  rintro e u20 ⟨U, cu, rfl, hU, hbn⟩
  rw [← HP2.out, pl2] at hU
  rw [← HP2.out, pl2]
  go_wp2_with fail
  refine (marked_own u19.heap.size 4 _ p2 7 u20 hU (by omega) hbn.size).mono ?_
  rintro e u21 ⟨U2, cu2, rfl, hbm⟩
  have hb1921 := hbn.trans hbm
  have S21 := S19.more hb1921
  have hT21 := own_below hT hb1921
  clear S19 hT hbn hbm hb1921 hU
  go_wp2_with fail
  refine (rpatch_any A0 _ c0 b0 a1 u21 (r0.below S21.below) y0 rfl (by omega) w1).mono ?_
  rintro e u22 ⟨V, cv, rfl, hV, hbn⟩
  rw [← HP1.out, pl1] at hV
  rw [← HP1.out, pl1]
  have S22 := S21.more hbn
  have hT22 := own_below hT21 hbn
  clear S21 hT21 hbn
  go_wp2_with fail
  refine (same_yes T V 4 4 ct cv p1 p1 u22 (rd_own hT22) (rd_own hV) pl1 pl1 (by omega) (by omega) rfl).mono ?_
  rintro e u23 ⟨rfl, n23, hu23⟩
  have S23 : SumS w g N cf b0 u23 := by rw [hu23]; exact S22.drewN n23
  clear hu23 S22 hT22 hV
  go_wp2_with fail
  refine (roomy_any A0 b0.length c0 b0 u23 (r0.below S23.below) rfl (by omega)).mono ?_
  rintro e u24 ⟨R, cr, rfl, hR, hbn⟩
  simp only [List.length_append, List.length_cons, List.length_nil] at hR ⊢
  have S24 := S23.more hbn
  clear S23 hbn
  go_wp2_with fail
  refine (same_yes (some ⟨g, 0, none⟩) R _ _ cf cr (b0 ++ [165, 90, 167, 91]) (b0 ++ [165, 90, 167, 91]) u24 (rd_own S24.own) (rd_own hR) (by simp) (by simp) (by omega) (by simp; omega) rfl).mono ?_
  rintro e u25 ⟨rfl, n25, hu25⟩
  have S25 : SumS w g N cf b0 u25 := by rw [hu25]; exact S24.drewN n25
  clear hu25 S24 hR
  go_wp2_with fail
  go_ret
  exact ⟨rfl, S25.below⟩
end Go.Proofs.Ytfgjlplfpjfnoaa
