/- The walk of SqueezeDecode (printed by gen_sqlaw.py). -/
import Derived.Test.YtmdpncjffikmiaaSqPlDecode
namespace Go.Proofs.Ytmdpncjffikmiaa
open Go Go.RowKit
set_option linter.unusedVariables false
set_option linter.unusedSimpArgs false

set_option maxHeartbeats 4000000 in
set_option maxRecDepth 100000 in
theorem squeezeDecodeU_walk (A0 : Option Addr) (c0 : Nat) (b0 : List Nat) (w : World) (c0l : b0.length ≤ c0) (r0 : Rd w A0 (b8 b0)) (y0 : By b0) (l0 : b0.length ≤ 140737488351232) (ub : b0.length ≤ 1048576) :
    Calls Try.prog 10 #[.slice A0 b0.length c0] w fun e w' => e = .returned (.bool true) ∧ Below w.heap.size w w' := by
  obtain ⟨n, hn⟩ : ∃ n, n = b0.length := ⟨_, rfl⟩
  have hlim : n ≤ 3000000000000 := by omega
  have hL2 : (dec b0).1.length ≤ 100000000 := dec_len y0 (by omega)
  rw [← hn] at c0l l0 ⊢
  clear c0l
  have HN : Hid (b0.length = n) := Lib.hid hn.symm
  have HR := Lib.hid r0
  have PR2 : Hid (∀ (W : World) (A' : Option Addr) (c' : Nat), Rd W A' (b8 b0) → n ≤ c' → c' ≤ 9223372036854775807 → Calls Try.prog 43 #[.slice A' n c'] W (Ans8 W (dec b0))) := Lib.hid (fun W A' c' h k1 k2 => decode_is A' n c' b0 W h HN.out y0 (by omega))
  have PF2 : Hid (∀ (W : World) (A' : Option Addr) (c' : Nat), Rd W A' (b8 b0) → Calls Try.prog 42 #[.slice A' n c'] W (Ans8 W (dec b0))) := Lib.hid (fun W A' c' h => rdecode_is A' n c' b0 W h HN.out y0 (by omega))
  have PP : Hid (∀ (W : World), Rd W A0 (b8 b0) → Calls Try.prog 44 #[.slice A0 n c0] W fun e w' => e = .returned (.bool true) ∧ Below W.heap.size W w') := Lib.hid (fun W h => decodePlaced_is A0 n c0 b0 W h HN.out y0 hlim)
  obtain ⟨q2, hq2⟩ : ∃ q, q = dec b0 := ⟨_, rfl⟩
  rw [← hq2] at PR2 PF2 hL2
  have i1 : (n : Int) ≤ (n : Int) + 64 := by omega
  have i2 : (0 : Int) ≤ (n : Int) := by omega
  have i3 : n ≤ n + 64 := by omega
  have e2 : ((q2.2 : Int) != q2.2) = false := by simp
  clear r0 y0 hq2 hn
  go_enter Try.func10, Try.ntmps10
  go_wp2_with fail
  refine (PF2.out w _ c0 HR.out).mono ?_
  rintro e w1 ⟨A1, c1, rfl, ht1, hb1⟩
  have HT1 := Lib.hid ht1
  have HB1 := Lib.hid hb1
  have hs1 := hb1.size
  clear ht1 hb1
  go_wp2_with fail
  refine (spare_is A0 n c0 b0 w1 (HR.out.below HB1.out) HN.out (by omega)).mono ?_
  rintro e w2 ⟨rfl, ho2, hb2⟩
  have HO2 := Lib.hid ho2
  have HB2 := Lib.hid hb2
  have hs2 := hb2.size
  have hg2 : w1.heap.size < w2.heap.size := (ho2.lt _ rfl).2
  clear ho2 hb2
  have HT12 := Lib.hid (own_below HT1.out HB2.out)
  go_wp2_with fail
  refine (PR2.out w2 _ (n + 64) (rd_pre HO2.out) (by omega) (by omega)).mono ?_
  rintro e w3 ⟨A3, c3, rfl, ht3, hb3⟩
  have HT3 := Lib.hid ht3
  have HB3 := Lib.hid hb3
  have hs3 := hb3.size
  clear ht3 hb3
  have HT13 := Lib.hid (own_below HT12.out HB3.out)
  go_wp2_with fail
  refine (PR2.out w3 _ (n + 64) (rd_pre (own_below HO2.out HB3.out)) (by omega) (by omega)).mono ?_
  rintro e w4 ⟨A4, c4, rfl, ht4, hb4⟩
  have HT4 := Lib.hid ht4
  have HB4 := Lib.hid hb4
  have hs4 := hb4.size
  clear ht4 hb4
  have HT14 := Lib.hid (own_below HT13.out HB4.out)
  have HT34 := Lib.hid (own_below HT3.out HB4.out)
  have HO4 := Lib.hid (own_below HO2.out (HB3.out.trans (HB4.out.mono hs3)))
  go_wp2_with fail
  refine (lsame_yes A3 A1 q2.1.length q2.1.length c3 c1 q2.1 q2.1 _ (rd_own HT34.out) (rd_own HT14.out) rfl rfl (by omega) (by omega) rfl).mono ?_
  rintro e w5 ⟨rfl, d5, rfl⟩
  have HD5 := Lib.hid (below_drewN (Below.refl w4.heap.size w4) d5)
  have HT15 := Lib.hid (own_below HT14.out HD5.out)
  have HT35 := Lib.hid (own_below HT34.out HD5.out)
  have HT45 := Lib.hid (own_below HT4.out HD5.out)
  have HO5 := Lib.hid (own_below HO4.out HD5.out)
  go_wp2_with fail
  refine (fill_is w2.heap.size q2.1.length (.slice A3 q2.1.length c3) q2.1 _ HT35.out (by omega) (by simp; omega)).mono ?_
  rintro e w6 ⟨rfl, hk6⟩
  have HK6 : Hid (KeptS (w4.drewN d5) w6 (fun q => w2.heap.size ≤ q ∧ q < w3.heap.size)) := Lib.hid (KeptS.mono hk6 (fun q hq => World.ownsRow.lt HT3.out q hq))
  clear hk6
  have hs6' := HK6.out.size
  have hs6 : w4.heap.size ≤ w6.heap.size := by simpa using hs6'
  clear hs6'
  have HT16 := Lib.hid (own_keptB HT1.out HT15.out HK6.out (fun q hq => by right; have := hq.1; omega))
  have HT46 := Lib.hid (own_keptB HT4.out HT45.out HK6.out (fun q hq => by left; exact hq.2))
  have HO6 := Lib.hid (own_keptS HO5.out HK6.out (fun q hq e => by simp only [Value.ownBlock, Option.some.injEq] at hq; have := e.1; omega))
  have HB04 := Lib.hid (HB1.out.trans ((HB2.out.mono hs1).trans ((HB3.out.mono (by omega)).trans (HB4.out.mono (by omega)))))
  have HB06 := Lib.hid (HB04.out.trans ((HD5.out.mono (by omega)).trans (HK6.out.below (fun q hq => by have := hq.1; omega) (by simp; omega))))
  go_wp2_with fail
  refine (lsame_yes A4 A1 q2.1.length q2.1.length c4 c1 q2.1 q2.1 _ (rd_own HT46.out) (rd_own HT16.out) rfl rfl (by omega) (by omega) rfl).mono ?_
  rintro e w7 ⟨rfl, d7, rfl⟩
  have HD7 := Lib.hid (below_drewN (Below.refl w6.heap.size w6) d7)
  go_wp2_with fail
  refine (kept_is (some ⟨w1.heap.size, 0, none⟩) A0 n (n + 64) (n + 64) c0 b0 _ ((rd_own HO6.out).below HD7.out) ((HR.out.below HB06.out).below HD7.out) HN.out rfl (by omega)).mono ?_
  rintro e w8 ⟨rfl, d8, rfl⟩
  have HB08 := Lib.hid (below_drewN HB06.out (d7 + d8))
  go_wp2_with fail
  refine (PP.out _ (HR.out.below HB08.out)).mono ?_
  rintro e w9 ⟨rfl, hb9⟩
  have HB09 := Lib.hid (HB08.out.trans (hb9.mono (by simp; omega)))
  clear hb9
  go_wp2_with fail
  go_ret
  exact ⟨rfl, HB09.out⟩
end Go.Proofs.Ytmdpncjffikmiaa
