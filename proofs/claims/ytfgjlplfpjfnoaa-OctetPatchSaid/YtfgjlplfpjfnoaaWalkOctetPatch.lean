/- OctetPatch: its walk. -/
import Derived.Test.YtfgjlplfpjfnoaaPatch2
import Derived.Test.YtfgjlplfpjfnoaaOctSame
import Derived.Test.YtfgjlplfpjfnoaaAppG
namespace Go.Proofs.Ytfgjlplfpjfnoaa
open Go Go.RowKit
set_option linter.unusedVariables false

set_option maxHeartbeats 1600000 in
set_option maxRecDepth 100000 in
theorem octetPatch_walk (A0 : Option Addr) (c0 : Nat) (b0 : List Nat) (a1 : Nat) (A2 : Option Addr) (c2 : Nat) (b2 : List Nat) (w : World) (c0l : b0.length ≤ c0) (r0 : Rd w A0 (b8 b0)) (y0 : By b0) (l0 : b0.length ≤ 140737488351232) (w1 : a1 < 4294967296) (c2l : b2.length ≤ c2) (r2 : Rd w A2 (b8 b2)) (y2 : By b2) (l2 : b2.length ≤ 140737488351232) :
    Calls Try.prog 11 #[.slice A0 b0.length c0, .int .u32 (a1 : Int), .slice A2 b2.length c2] w fun e w' => e = .returned (.bool true) ∧ Below w.heap.size w w' := by
  have tl : (Pat.patch b0 a1).length = 4 := Pat.patch_length b0 a1
  have tb : By (Pat.patch b0 a1) := Pat.patch_by b0 w1
  have te : a1 = Crc.ext 0 (b0 ++ Pat.patch b0 a1) := (Pat.ext_patch b0 w1 y0).symm
  have hdiff : b2.length = 4 → b2 ≠ Pat.patch b0 a1 → Crc.ext 0 (b0 ++ b2) ≠ a1 := by
    intro h4 hne he
    exact hne (Pat.ext_inj b0 b2 (Pat.patch b0 a1) y0 y2 tb h4 tl (he.trans te))
  obtain ⟨ps, hps⟩ : ∃ ps, ps = Pat.patch b0 a1 := ⟨_, rfl⟩
  rw [← hps] at tl tb te hdiff
  have HPS := Lib.hid hps
  have TE := Lib.hid te
  have HD := Lib.hid hdiff
  clear hps te hdiff
  have n4 : ((b2.length : Int) != 4) = !decide (b2.length = 4) := by
    by_cases h : b2.length = 4
    · simp [h]
    · simp [h, bne_iff_ne]; omega
  have hcase : (((b2.length : Int) != 4) = true) ∨ (((b2.length : Int) != 4) = false ∧ b2.length = 4) := by
    rw [n4]
    by_cases h : b2.length = 4 <;> simp [h]
  clear n4
  go_enter Try.func11, Try.ntmps11
  go_wp2_with fail
  refine (patch_any A0 _ c0 b0 a1 w r0 y0 rfl (by omega) w1).mono ?_
  rintro e u1 ⟨A3, c3, rfl, hown3, hb1⟩
  rw [← HPS.out] at hown3 ⊢
  rw [tl] at hown3 ⊢
  have hsz1 := hb1.size
  have h0 := own_lit u1 u1.heap.size [] 5 0 (Nat.le_refl _) (by decide) rfl
  have hr1 : Rd (u1.alloc (.cells [].toArray 5)) A0 (b8 b0) := (r0.below hb1).below ((Below.refl _ _).alloc (Nat.le_refl _) _)
  have hr3 := rd_own hown3
  go_wp2_with (first
    | (at_builtin; refine app8g _ rfl (.tmp 15) (.tmp 16) rfl u1.heap.size _ 0 [] rfl h0 A0 _ c0 b0 rfl rfl hr1 (by omega) (by simp) ?_; intro v6 w6 hown6 hg6 _; have b6 : Below u1.heap.size u1 w6 := ((Below.refl _ _).alloc (Nat.le_refl _) _).trans (below_of_grown hg6 (by simp) (fun k hk => (h0.lt k hk).1)))
    | (at_builtin; refine app8g _ rfl (.tmp 17) (.tmp 18) rfl u1.heap.size v6 _ _ rfl hown6 A3 4 c3 ps rfl tl (hr3.below b6) (by omega) b6.size ?_; intro v7 w7 hown7 hg7 _))
  obtain ⟨A7, c7, hv7, _⟩ := own_shape hown7
  subst hv7
  have b7 : Below u1.heap.size u1 w7 := b6.trans (below_of_grown hg7 b6.size (fun k hk => (hown6.lt k hk).1))
  refine (sum_is A7 _ c7 (b0 ++ ps) w7 a1 (rd_own hown7) (By.append y0 tb) (by simp [tl]) (by omega) TE.out).mono ?_
  rintro e w8 ⟨rfl, b8w⟩
  have b8' := b7.trans (b8w.mono b7.size)
  have bw8 := hb1.trans (b8'.mono hsz1)
  have hr8 := hr3.below b8'
  clear hown7 hown6 hg6 hg7 h0 hr1 b6 b7 b8w hown3 hr3 b8' hb1
  rcases hcase with hne | ⟨hne, h4⟩
  · go_wp2_with fail
    go_ret
    exact ⟨rfl, bw8⟩
  · go_wp2_with fail
    by_cases heq : b2 = ps
    · refine (same_yes A2 A3 4 4 c2 c3 b2 ps w8 (r2.below bw8) hr8 h4 tl (by omega) (by omega) heq).mono ?_
      rintro e w9 ⟨rfl, n9, rfl⟩
      clear heq
      go_wp2_with fail
      go_ret
      exact ⟨rfl, below_drewN bw8 n9⟩
    · refine (same_no A2 A3 4 4 c2 c3 b2 ps w8 (r2.below bw8) hr8 h4 tl (by omega) (by omega) heq).mono ?_
      rintro e w9 ⟨rfl, n9, hw9⟩
      have bw9 : Below w.heap.size w w9 := by rw [hw9]; exact below_drewN bw8 n9
      obtain ⟨z, hz⟩ : ∃ z, z = Crc.ext 0 (b0 ++ b2) := ⟨_, rfl⟩
      have hzne : ((z : Int) != (a1 : Int)) = true := by
        have := HD.out h4 heq
        rw [← hz] at this
        rw [bne_iff_ne]
        omega
      have HZ := Lib.hid hz
      clear heq hw9 hz bw8
      have hsz9 := bw9.size
      have h0 := own_lit w9 w9.heap.size [] 5 0 (Nat.le_refl _) (by decide) rfl
      have hr1 : Rd (w9.alloc (.cells [].toArray 5)) A0 (b8 b0) := (r0.below bw9).below ((Below.refl _ _).alloc (Nat.le_refl _) _)
      go_wp2_with (first
        | (at_builtin; refine app8 _ rfl (.tmp 32) (.tmp 33) rfl w9.heap.size _ 0 [] rfl h0 A0 _ c0 b0 rfl rfl hr1 (by omega) (by simp) ?_; intro v6 w6 hown6 hg6 _; have b6 : Below w9.heap.size w9 w6 := ((Below.refl _ _).alloc (Nat.le_refl _) _).trans (below_of_grown hg6 (by simp) (fun k hk => (h0.lt k hk).1)))
        | (at_builtin; refine app8 _ rfl (.tmp 34) (.tmp 35) rfl w9.heap.size v6 _ _ rfl hown6 A2 4 c2 b2 rfl h4 ((r2.below bw9).below b6) (by omega) b6.size ?_; intro v7 w7 hown7 hg7 _))
      obtain ⟨A7, c7, hv7, _⟩ := own_shape hown7
      subst hv7
      have b7 : Below w9.heap.size w9 w7 := b6.trans (below_of_grown hg7 b6.size (fun k hk => (hown6.lt k hk).1))
      refine (sum_is A7 _ c7 (b0 ++ b2) w7 z (rd_own hown7) (By.append y0 y2) (by simp [h4]) (by omega) HZ.out).mono ?_
      rintro e w10 ⟨rfl, b10w⟩
      have b10 := bw9.trans ((b7.trans (b10w.mono b7.size)).mono hsz9)
      clear hown7 hown6 hg6 hg7 h0 hr1 b6 b7 b10w
      go_wp2_with fail
      go_ret
      exact ⟨by first | rfl | rw [hzne] | simp [hzne], b10⟩
end Go.Proofs.Ytfgjlplfpjfnoaa
