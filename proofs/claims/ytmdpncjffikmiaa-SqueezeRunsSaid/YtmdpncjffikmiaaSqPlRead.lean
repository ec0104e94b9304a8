/- readPlaced (printed by gen_sqlaw.py). -/
import Derived.Test.YtmdpncjffikmiaaSqRRead
import Derived.Test.YtmdpncjffikmiaaSqRead
import Derived.Test.YtmdpncjffikmiaaSqApart
import Derived.Test.YtmdpncjffikmiaaSqRdLen
import Derived.Test.YtmdpncjffikmiaaSqAns
namespace Go.Proofs.Ytmdpncjffikmiaa
open Go Go.RowKit
set_option linter.unusedVariables false
set_option linter.unusedSimpArgs false

set_option maxHeartbeats 4000000 in
set_option maxRecDepth 100000 in
theorem readPlaced_is (A : Option Addr) (n c : Nat) (bs : List Nat) (w : World) (hr : Rd w A (b8 bs)) (hn : bs.length = n) (hby : By bs) (hl : n ≤ 3000000000000) :
    Calls Try.prog 36 #[.slice A n c] w fun e w' => e = .returned (.bool true) ∧ Below w.heap.size w w' := by
  have HR := Lib.hid hr
  have HN := Lib.hid hn
  have P1 := Lib.hid (turned_is A n c bs w hr hn (by omega))
  have HTB := Lib.hid (tn_by bs)
  have HTL : Hid ((tn bs).length = n) := Lib.hid (by rw [tn_length, hn])
  unfold Got8 at P1
  rw [HTL.out] at P1
  obtain ⟨tb, htb⟩ : ∃ tb, tb = tn bs := ⟨_, rfl⟩
  rw [← htb] at P1 HTB HTL
  clear htb
  have PR : ∀ xs, By xs → xs.length = n → ∀ (W : World) (A' : Option Addr) (c' : Nat), Rd W A' (b8 xs) → n ≤ c' → c' ≤ 9223372036854775807 → Calls Try.prog 35 #[.slice A' n c'] W (AnsT2 W (rd xs)) := fun xs hx hxl W A' c' h k1 k2 => (read_is A' n c' xs W h hxl hx (by omega)).mono (fun e w9 h => h.two)
  have PF : ∀ xs, By xs → xs.length = n → ∀ (W : World) (A' : Option Addr) (c' : Nat), Rd W A' (b8 xs) → Calls Try.prog 34 #[.slice A' n c'] W (AnsT2 W (rd xs)) := fun xs hx hxl W A' c' h => (rread_is A' n c' xs W h hxl hx (by omega)).mono (fun e w9 h => h.two)
  have PR1 := Lib.hid (PR tb HTB.out HTL.out)
  have PF1 := Lib.hid (PF tb HTB.out HTL.out)
  have PR2 := Lib.hid (PR bs hby hn)
  have PF2 := Lib.hid (PF bs hby hn)
  have hL1 : (rd tb).1.length ≤ 100000000 := rd_len HTB.out (by rw [HTL.out]; omega)
  have hL2 : (rd bs).1.length ≤ 100000000 := rd_len hby (by rw [hn]; omega)
  obtain ⟨q1, hq1⟩ : ∃ q, q = rd tb := ⟨_, rfl⟩
  obtain ⟨q2, hq2⟩ : ∃ q, q = rd bs := ⟨_, rfl⟩
  rw [← hq1] at PR1 PF1 hL1
  rw [← hq2] at PR2 PF2 hL2
  have i1 : (n : Int) ≤ (n : Int) + 64 := by omega
  have i2 : (0 : Int) ≤ (n : Int) := by omega
  have i3 : n ≤ n + 64 := by omega
  have e1 : ((q1.2 : Int) == q1.2) = true := by simp
  have e2 : ((q2.2 : Int) == q2.2) = true := by simp
  clear hr hn hby PR PF hq1 hq2
  go_enter Try.func36, Try.ntmps36
  go_wp2_with fail
  refine P1.out.mono ?_
  rintro e w1 ⟨A1, c1, rfl, ho1, hb1⟩
  have HO1 := Lib.hid ho1
  have HB1 := Lib.hid hb1
  have hs1 := hb1.size
  clear P1 ho1 hb1
  go_wp2_with fail
  refine (spare_is A1 n c1 tb w1 (rd_own HO1.out) HTL.out (by omega)).mono ?_
  rintro e w2 ⟨rfl, ho2, hb2⟩
  have HO2 := Lib.hid ho2
  have HB2 := Lib.hid hb2
  have hs2 := hb2.size
  have hg2 : w1.heap.size < w2.heap.size := (ho2.lt _ rfl).2
  clear ho2 hb2
  go_wp2_with fail
  refine (PR1.out w2 _ (n + 64) (rd_pre HO2.out) (by omega) (by omega)).mono ?_
  rintro e w3 ⟨A3, c3, l3, rfl, hq3, ht3, hb3⟩
  have HT3 := Lib.hid ht3
  have HQ3 := Lib.hid hq3
  have HB3 := Lib.hid hb3
  have hs3 := hb3.size
  clear ht3 hq3 hb3
  have HO3 := Lib.hid (own_below HO2.out HB3.out)
  go_wp2_with fail
  refine (lay_is w1.heap.size w1.heap.size (n + 64) (n + 64) n n (n + 64) c A bs (tb ++ pat n) w3 HO3.out (HR.out.below (HB1.out.trans ((HB2.out.mono hs1).trans (HB3.out.mono (by omega))))) (fun hne a ha => by obtain ⟨g, off, e, hg, _⟩ := HR.out (by intro h; exact hne (by simpa [b8] using h)); rw [e] at ha; injection ha with ha; subst ha; simp only; omega) HN.out (Nat.le_refl _) (by omega) (by omega)).mono ?_
  rintro e w4 ⟨rfl, ho4, hg4⟩
  have HO4 := Lib.hid ho4
  have HK4 : Hid (KeptS w3 w4 (fun q => q = w1.heap.size)) := Lib.hid (KeptS.of_grown hg4 (fun q hq => by injection hq with hq; exact hq.symm))
  have hs4 := hg4.size
  clear ho4 hg4 HO3
  have HT34 := Lib.hid (Ts.keptB HT3.out HT3.out HK4.out (fun q hq => by subst hq; left; omega))
  go_wp2_with fail
  refine (PR2.out w4 _ (n + 64) (rd_pre HO4.out) (by omega) (by omega)).mono ?_
  rintro e w5 ⟨A5, c5, l5, rfl, hq5, ht5, hb5⟩
  have HT5 := Lib.hid ht5
  have HQ5 := Lib.hid hq5
  have HB5 := Lib.hid hb5
  have hs5 := hb5.size
  clear ht5 hq5 hb5
  have HT35 := Lib.hid (HT34.out.below HB5.out)
  have HR14 : Hid (Rd w4 A1 (b8 tb)) := Lib.hid (rd_kept ((rd_own HO1.out).below (HB2.out.trans (HB3.out.mono hs2))) HK4.out (fun a ha e => by have := (own_at HO1.out a ha).2; omega))
  have HR15 := Lib.hid (HR14.out.below HB5.out)
  go_wp2_with fail
  refine (PF1.out w5 _ c1 HR15.out).mono ?_
  rintro e w6 ⟨A6, c6, l6, rfl, hq6, ht6, hb6⟩
  have HT6 := Lib.hid ht6
  have HQ6 := Lib.hid hq6
  have HB6 := Lib.hid hb6
  have hs6 := hb6.size
  clear ht6 hq6 hb6
  have HT36 := Lib.hid (HT35.out.below HB6.out)
  have HT56 := Lib.hid (HT5.out.below HB6.out)
  have HB04 : Hid (Below w.heap.size w w4) := Lib.hid ((HB1.out.trans ((HB2.out.mono hs1).trans (HB3.out.mono (by omega)))).trans (HK4.out.below (fun q hq => by subst hq; omega) (by omega)))
  have HB06 := Lib.hid (HB04.out.trans ((HB5.out.mono (by omega)).trans (HB6.out.mono (by omega))))
  go_wp2_with fail
  refine (PF2.out w6 _ c (HR.out.below HB06.out)).mono ?_
  rintro e w7 ⟨A7, c7, l7, rfl, hq7, ht7, hb7⟩
  have HT7 := Lib.hid ht7
  have HQ7 := Lib.hid hq7
  have HB7 := Lib.hid hb7
  have hs7 := hb7.size
  clear ht7 hq7 hb7
  have HT37 := Lib.hid (HT36.out.below HB7.out)
  have HT57 := Lib.hid (HT56.out.below HB7.out)
  have HT67 := Lib.hid (HT6.out.below HB7.out)
  have HB07 := Lib.hid (HB06.out.trans (HB7.out.mono (by omega)))
  go_wp2_with fail
  refine (sameTokens_yes A3 A6 q1.1.length c3 c6 l3 l6 _ HT37.out.rd HT67.out.rd (HQ3.out.trans HQ6.out.symm) HT37.out.len HT37.out.ok HT67.out.ok (by omega)).mono ?_
  rintro e w8 ⟨rfl, d8, rfl⟩
  have HT58 := Lib.hid (HT57.out.below (below_drewN (Below.refl _ _) d8))
  have HT78 := Lib.hid (HT7.out.below (below_drewN (Below.refl _ _) d8))
  go_wp2_with fail
  refine (sameTokens_yes A5 A7 q2.1.length c5 c7 l5 l7 _ HT58.out.rd HT78.out.rd (HQ5.out.trans HQ7.out.symm) HT58.out.len HT58.out.ok HT78.out.ok (by omega)).mono ?_
  rintro e w9 ⟨rfl, d9, rfl⟩
  go_wp2_with fail
  go_ret
  exact ⟨rfl, below_drewN HB07.out (d8 + d9)⟩
end Go.Proofs.Ytmdpncjffikmiaa
