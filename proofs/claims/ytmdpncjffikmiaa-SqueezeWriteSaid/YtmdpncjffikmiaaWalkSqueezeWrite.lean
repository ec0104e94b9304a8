/- The walk of SqueezeWrite. -/
import Derived.Test.YtmdpncjffikmiaaPlaceT
namespace Go.Proofs.Ytmdpncjffikmiaa
open Go Go.RowKit
set_option linter.unusedVariables false
set_option linter.unusedSimpArgs false

set_option maxHeartbeats 2000000 in
set_option maxRecDepth 100000 in
theorem squeezeWrite_walk (A0 : Option Addr) (c0 : Nat) (b0 : List TkV) (w : World) (c0l : b0.length ≤ c0) (r0 : Rd w A0 (tkCells b0)) (y0 : ∀ x ∈ b0, x.Ok w) (l0 : b0.length * 40 ≤ 140737488351232) :
    Calls Try.prog 4 #[.slice A0 b0.length c0] w fun e w' => e = .returned (.bool true) ∧ Below w.heap.size w w' := by
  obtain ⟨n, hn⟩ : ∃ n, n = b0.length := ⟨_, rfl⟩
  rw [← hn] at c0l l0 ⊢
  have HN : Hid (b0.length = n) := Lib.hid hn.symm
  have HR := Lib.hid r0
  have OK := Lib.hid y0
  have hl2 : n ≤ 4000000000000 := by omega
  have i1 : (n : Int) ≤ (n : Int) + 1 := by omega
  have i2 : (0 : Int) ≤ (n : Int) := by omega
  have i3 : n ≤ n + 1 := by omega
  have P1 := Lib.hid (rwrite_is A0 n c0 b0 w r0 HN.out y0 hl2)
  obtain ⟨q, hq⟩ : ∃ q, q = wr (toks b0) := ⟨_, rfl⟩
  have HQ := Lib.hid hq
  have hL : q.1.length ≤ 140737488351232 := by rw [hq]; exact sp_wr_len _
  rw [← hq] at P1
  clear hn r0 y0 hq
  go_enter Try.func4, Try.ntmps4
  go_wp2_with fail
  refine P1.out.mono ?_
  rintro e w1 ⟨A1, c1, rfl, ho1, hb1⟩
  have HR1 := Lib.hid (rd_own ho1)
  have HB1 := Lib.hid hb1
  have hs1 := hb1.size
  clear P1 ho1 hb1
  go_wp2_with fail
  refine (twins_is A0 n c0 b0 w1 (HR.out.below HB1.out) HN.out (fun x hx => (OK.out x hx).below HB1.out) hl2).mono ?_
  rintro e w2 ⟨ms, rfl, ho2, hm2, ht2, hb2⟩
  have HO2 := Lib.hid (rd_own ho2)
  have HM := Lib.hid hm2
  have HT := Lib.hid ht2
  have HB2 := Lib.hid hb2
  have hs2 := hb2.size
  have HR12 := Lib.hid (HR1.out.below hb2)
  clear ho2 hm2 ht2 hb2
  go_wp2_with fail
  refine (write_is (some ⟨w1.heap.size, 0, none⟩) n (n + 1) ms w2 (rd_tkpre HO2.out) HM.out (HT.out.ok (fun x hx => OK.out x hx)) hl2).mono ?_
  rw [HT.out.toks HN.out HM.out, ← HQ.out]
  rintro e w3 ⟨A3, c3, rfl, ho3, hb3⟩
  have HO3 := Lib.hid ho3
  have HB3 := Lib.hid hb3
  have hs3 := hb3.size
  have HR13 := Lib.hid (HR12.out.below hb3)
  clear ho3 hb3 HR12
  go_wp2_with fail
  refine (write_is (some ⟨w1.heap.size, 0, none⟩) n (n + 1) ms w3 (rd_tkpre (HO2.out.below HB3.out)) HM.out ((HT.out.below HB3.out).ok (fun x hx => OK.out x hx)) hl2).mono ?_
  rw [HT.out.toks HN.out HM.out, ← HQ.out]
  rintro e w4 ⟨A4, c4, rfl, ho4, hb4⟩
  have HO4 := Lib.hid ho4
  have HB4 := Lib.hid hb4
  have hs4 := hb4.size
  have HR14 := Lib.hid (HR13.out.below hb4)
  have HO34 := Lib.hid (own_below HO3.out hb4)
  clear ho4 hb4 HR13
  have e1 : ((q.2 : Int) != q.2) = false := by simp
  go_wp2_with fail
  refine (lsame_yes A3 A1 q.1.length q.1.length c3 c1 q.1 q.1 w4 (rd_own HO34.out) HR14.out rfl rfl (by omega) (by omega) rfl).mono ?_
  rintro e w5 ⟨rfl, d5, rfl⟩
  go_wp2_with fail
  refine (fill_is w2.heap.size q.1.length (.slice A3 q.1.length c3) q.1 _ (own_below HO34.out (below_drewN (Below.refl _ _) d5)) hL (by simp [hs3, hs4]; omega)).mono ?_
  rintro e w6 ⟨rfl, hk6⟩
  have HA3 := own_at HO3.out
  have HA4 := own_at HO4.out
  have HK := Lib.hid (undrewN (hk6.below (B := w2.heap.size) (fun q hq => by obtain ⟨a, ha⟩ : ∃ a, A3 = some a := by { cases A3 with | none => simp [Value.ownBlock] at hq | some a => exact ⟨a, rfl⟩ }; subst ha; simp only [Value.ownBlock, Option.some.injEq] at hq; have := (HA3 a rfl).1; omega) (by simp; omega)))
  have HR46 := Lib.hid (rd_kept ((rd_own HO4.out).below (below_drewN (Below.refl _ _) d5)) hk6 (fun a ha hs => by obtain ⟨b, hb⟩ : ∃ b, A3 = some b := by { cases A3 with | none => simp [Value.ownBlock] at hs | some b => exact ⟨b, rfl⟩ }; subst hb; simp only [Value.ownBlock, Option.some.injEq] at hs; have h1 := (HA3 b rfl).2; have h2 := (HA4 a ha).1; omega))
  have HB26 := Lib.hid (HB3.out.trans ((HB4.out.mono hs3).trans HK.out))
  have HB16 := Lib.hid (HB2.out.trans (HB26.out.mono hs2))
  have HB6 := Lib.hid (HB1.out.trans (HB16.out.mono hs1))
  have hs6 := HB26.out.size
  clear HA3 HA4 hk6 HK HO34 HR14 HO4 HB3 HB4
  go_wp2_with fail
  refine (lsame_yes A4 A1 q.1.length q.1.length c4 c1 q.1 q.1 w6 HR46.out (HR1.out.below HB16.out) rfl rfl (by omega) (by omega) rfl).mono ?_
  rintro e w7 ⟨rfl, d7, rfl⟩
  have HD7 := Lib.hid (below_drewN (Below.refl w6.heap.size w6) d7)
  go_wp2_with fail
  refine (unharmed_is A0 w1.heap.size n c0 b0 ms _ ((HR.out.below HB6.out).below HD7.out) HN.out (fun x hx => ((OK.out x hx).below HB6.out).below HD7.out) ((HO2.out.below HB26.out).below HD7.out) HM.out ((HT.out.below HB26.out).below HD7.out) hl2).mono ?_
  rintro e w8 ⟨rfl, d8, rfl⟩
  have HD8 := Lib.hid (below_drewN (Below.refl w6.heap.size w6) (d7 + d8))
  go_wp2_with fail
  refine (writePlaced_is A0 n c0 b0 _ ((HR.out.below HB6.out).below HD8.out) HN.out (fun x hx => ((OK.out x hx).below HB6.out).below HD8.out) l0 c0l).mono ?_
  rintro e w9 ⟨rfl, hb9⟩
  have HB9 := Lib.hid (HB6.out.trans ((HD8.out.mono (by omega)).trans (hb9.mono (by simp; omega))))
  clear hb9
  go_wp2_with fail
  go_ret
  exact ⟨rfl, HB9.out⟩
end Go.Proofs.Ytmdpncjffikmiaa
