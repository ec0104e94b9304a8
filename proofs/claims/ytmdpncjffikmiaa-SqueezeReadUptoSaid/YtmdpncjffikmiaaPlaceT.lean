/- chroniclelaw2: expandPlaced, writePlaced (printed by gen_sqtk.py). -/
import Derived.Test.YtmdpncjffikmiaaTokRow
import Derived.Test.YtmdpncjffikmiaaSqRWr
namespace Go.Proofs.Ytmdpncjffikmiaa
open Go Go.RowKit
set_option linter.unusedVariables false
set_option linter.unusedSimpArgs false

theorem sp_exp_len (l : List Tk) : (exp [] l).1.length ≤ 140737488351232 := Nat.le_trans (exp_len l [] (by simp)) (by omega)
theorem flat_len : ∀ (l : List Tk), (∀ t ∈ l, Fine t) → (l.flatMap bt).length ≤ l.length * 4116
  | [], _ => by simp
  | t :: r, h => by
    have h1 := bt_len (h t (List.mem_cons_self ..))
    have h2 := flat_len r (fun t' ht' => h t' (List.mem_cons_of_mem _ ht'))
    simp only [List.flatMap_cons, List.length_append, List.length_cons]
    omega
theorem sp_wr_len (l : List Tk) : (wr l).1.length ≤ 140737488351232 := by
  unfold wr
  split
  · rename_i h
    have hl := exp_len l [] (by simp)
    have hf := fine_of_exp (ts := l) (text := []) (T := (exp [] l).1) (by rw [← h])
    have h1 := flat_len l hf.1
    have h2 := Uv.uv_len_64 (exp [] l).1.length (by omega)
    have h3 := hf.2
    unfold blk
    simp only [List.length_append, List.length_nil] at *
    omega
  · simp
theorem rd_kept {W W' : World} {A : Option Addr} {xs : List Value} {S : Nat → Prop} (h : Rd W A xs) (hk : KeptS W W' S) (hA : ∀ a, A = some a → ¬ S a.block) : Rd W' A xs := by
  intro hn
  obtain ⟨g, off, e, hg, hc⟩ := h hn
  have hb := hk.block g hg (hA _ e)
  refine ⟨g, off, e, Nat.lt_of_lt_of_le hg hk.size, fun k u hu => ?_⟩
  have h2 := hc k u hu
  have e2 : W'.cell? ⟨g, off + k, none⟩ = W.cell? ⟨g, off + k, none⟩ := by simp only [World.cell?, hb]
  exact e2.trans h2
/-- What was there before a row's own block changed. -/
theorem rd_beside {W W' : World} {A : Option Addr} {xs : List Value} {g B : Nat} (h : Rd W A xs) (hA : ∀ a, A = some a → a.block < B ∨ g < a.block) (hg : W.grownBy W' (some g)) (hB : B ≤ g) : Rd W' A xs :=
  h.grown hg (fun a ha e => by injection e with e; rcases hA a ha with h1 | h1 <;> omega)
theorem own_at {w : World} {base : Nat} {e : TypeId} {size n c : Nat} {A : Option Addr} {xs : List Value} (h : w.ownsRow base e size (.slice A n c) n xs) : ∀ a, A = some a → base ≤ a.block ∧ a.block < w.heap.size := by
  obtain ⟨A', c', hv, _, _, hb⟩ := own_shape h
  injection hv with h1
  subst h1
  exact hb

set_option maxHeartbeats 2000000 in
set_option maxRecDepth 100000 in
theorem expandPlaced_is (A : Option Addr) (n c : Nat) (l : List TkV) (w : World) (hr : Rd w A (tkCells l)) (hn : l.length = n) (ok : ∀ x ∈ l, x.Ok w) (hl : n * 40 ≤ 140737488351232) (hnc : n ≤ c) :
    Calls Try.prog 22 #[.slice A n c] w fun e w' => e = .returned (.bool true) ∧ Below w.heap.size w w' := by
  have HR := Lib.hid hr
  have HN := Lib.hid hn
  have OK := Lib.hid ok
  have hl2 : n ≤ 4000000000000 := by omega
  have i1 : (n : Int) ≤ (n : Int) + 1 := by omega
  have i2 : (0 : Int) ≤ (n : Int) := by omega
  have i3 : n ≤ n + 1 := by omega
  have P1 := Lib.hid (other_is A n c l w hr hn ok hl)
  obtain ⟨lo, hlo⟩ : ∃ lo, lo = oth l := ⟨_, rfl⟩
  have HOL : Hid (lo.length = n) := Lib.hid (by rw [hlo, oth_length, hn])
  have HOO : Hid (∀ x ∈ lo, x.Ok w) := Lib.hid (by rw [hlo]; exact oth_ok ok)
  rw [← hlo] at P1
  obtain ⟨q1, hq1⟩ : ∃ q, q = exp [] (toks lo) := ⟨_, rfl⟩
  obtain ⟨q2, hq2⟩ : ∃ q, q = exp [] (toks l) := ⟨_, rfl⟩
  have HQ1 := Lib.hid hq1
  have HQ2 := Lib.hid hq2
  have hL1 : q1.1.length ≤ 140737488351232 := by rw [hq1]; exact sp_exp_len _
  have hL2 : q2.1.length ≤ 140737488351232 := by rw [hq2]; exact sp_exp_len _
  clear hr hn ok hlo hq1 hq2
  go_enter Try.func22, Try.ntmps22
  go_wp2_with fail
  refine P1.out.mono ?_
  rintro e w1 ⟨A1, c1, rfl, ho1, hb1⟩
  have HR1 := Lib.hid (rd_own ho1)
  have HA1 := Lib.hid (own_at ho1)
  have HB1 := Lib.hid hb1
  have hs1 := hb1.size
  clear P1 ho1 hb1
  go_wp2_with fail
  refine (twins_is A1 n c1 lo w1 HR1.out HOL.out (fun x hx => (HOO.out x hx).below HB1.out) hl2).mono ?_
  rintro e w2 ⟨ms, rfl, ho2, hm2, ht2, hb2⟩
  have HO2 := Lib.hid ho2
  have HM := Lib.hid hm2
  have HT := Lib.hid ht2
  have HB2 := Lib.hid hb2
  have hs2 := hb2.size
  have hg2 : w1.heap.size < w2.heap.size := (ho2.lt _ rfl).2
  clear ho2 hm2 ht2 hb2
  go_wp2_with fail
  refine (expand_is (some ⟨w1.heap.size, 0, none⟩) n (n + 1) ms w2 (rd_tkpre (rd_own HO2.out)) HM.out (HT.out.ok (fun x hx => HOO.out x hx)) hl2).mono ?_
  rw [HT.out.toks HOL.out HM.out, ← HQ1.out]
  rintro e w3 ⟨A3, c3, rfl, ho3, hb3⟩
  have HR3 := Lib.hid (rd_own ho3)
  have HA3 := Lib.hid (own_at ho3)
  have HB3 := Lib.hid hb3
  have hs3 := hb3.size
  clear ho3 hb3
  go_wp2_with fail
  refine (twins_is A n c l w3 (HR.out.below (HB1.out.trans ((HB2.out.mono hs1).trans (HB3.out.mono (Nat.le_trans hs1 hs2))))) HN.out (fun x hx => (OK.out x hx).below (HB1.out.trans ((HB2.out.mono hs1).trans (HB3.out.mono (Nat.le_trans hs1 hs2))))) hl2).mono ?_
  rintro e w4 ⟨us, rfl, ho4, hm4, ht4, hb4⟩
  have HU := Lib.hid (rd_own ho4)
  have HUM := Lib.hid hm4
  have HUT := Lib.hid ht4
  have HB4 := Lib.hid hb4
  have HO4 := Lib.hid (own_below HO2.out (HB3.out.trans (hb4.mono hs3)))
  have hs4 := hb4.size
  have hg4 : w3.heap.size < w4.heap.size := (ho4.lt _ rfl).2
  clear ho4 hm4 ht4 hb4
  go_wp2_with fail
  go_loopw [8] (fun i wr => ∃ k : Nat, k ≤ n ∧ i = .int .i64 k ∧ Hid (wr.ownsRow w1.heap.size 37 3 (.slice (some ⟨w1.heap.size, 0, none⟩) (n + 1) (n + 1)) (n + 1) (tkCells (us.take k ++ (ms ++ [tkEnd]).drop k))) ∧ Hid (w4.grownBy wr (some w1.heap.size))) (fun i _ => n - (intOf i).toNat)
  case atStart => exact ⟨0, Nat.zero_le _, rfl, Lib.hid (by simpa using HO4.out), Lib.hid ⟨rfl, rfl, rfl, Nat.le_refl _, fun _ _ _ => rfl⟩⟩
  case round =>
    obtain ⟨k, hk, rfl, HO5, HG5⟩ := hrel
    have hs5 := HG5.out.size
    by_cases hlt : k < n
    · obtain ⟨y, hy⟩ : ∃ y, us[k]? = some y := ⟨_, List.getElem?_eq_getElem (by rw [HUM.out]; exact hlt)⟩
      have hlz : (ms ++ [tkEnd]).length = n + 1 := by rw [List.length_append, HM.out]; rfl
      obtain ⟨z, hz⟩ : ∃ z, (us.take k ++ (ms ++ [tkEnd]).drop k)[k]? = some z := ⟨_, List.getElem?_eq_getElem (by rw [List.length_append, List.length_take, List.length_drop, hlz, HUM.out]; omega)⟩
      obtain ⟨⟨z0, z1, z2⟩, f0, f1, f2⟩ := tok_row HO5.out hz
      have hs := tok_stored HO5.out (k := k) (by rw [List.length_append, List.length_take, List.length_drop, hlz, HUM.out]; omega) y
      rw [set_lay us (ms ++ [tkEnd]) k y hy (by rw [hlz]; omega)] at hs
      have HS := Lib.hid hs
      have hu := HU.out.grown HG5.out (fun a ha e => by injection ha with ha; subst ha; injection e with e; have e2 : w3.heap.size = w1.heap.size := e; omega)
      obtain ⟨g9, off9, he9, hg9, u0, u1, u2⟩ := (rd_tkpre hu).tok hy
      injection he9 with he9
      injection he9 with he1 he2
      subst he1 he2
      rw [Nat.zero_add] at u0 u1 u2
      have j0 : (0 : Int) ≤ (k : Int) := by omega
      have j1 : (k : Int) < (n : Int) := by omega
      have j2 : (k : Int) < (n : Int) + 1 := by omega
      obtain ⟨yA, yc, ylit, yd, yl⟩ := y
      simp only at u0 u1 u2 HS
      clear hs hu hz hy hlz
      go_wp2_with fail
      go_roundw
      case rel => exact ⟨k + 1, by omega, by go_num, Lib.hid HS.out.1, Lib.hid (grown_trans HG5.out HS.out.2)⟩
      case measure => simp [intOf]; omega
    · have hkn : k = n := by omega
      subst hkn
      have hlist : us.take k ++ (ms ++ [tkEnd]).drop k = us ++ [tkEnd] := by
        rw [List.take_of_length_le (by rw [HUM.out]; omega), List.drop_append_of_le_length (by rw [HM.out]; omega), List.drop_eq_nil_of_le (by rw [HM.out]; omega)]
        rfl
      have HO6 : Hid (wr.ownsRow w1.heap.size 37 3 (.slice (some ⟨w1.heap.size, 0, none⟩) (k + 1) (k + 1)) (k + 1) (tkCells (us ++ [tkEnd]))) := Lib.hid (by rw [← hlist]; exact HO5.out)
      have HUT5 := Lib.hid (HUT.out.grown HG5.out (by omega : w1.heap.size ≤ w3.heap.size))
      have HB15 := Lib.hid (((HB2.out.trans ((HB3.out.mono hs2).trans (HB4.out.mono (Nat.le_trans hs2 hs3)))).trans (below_of_grown HG5.out (by omega) (fun q hq => by injection hq with hq; omega)) : Below w1.heap.size w1 wr))
      have HB35 := Lib.hid (rd_beside (B := w1.heap.size) (HR3.out.below HB4.out) (fun a ha => .inr (by have := (HA3.out a ha).1; omega)) HG5.out (Nat.le_refl _))
      obtain ⟨w5, rfl⟩ : ∃ w5 : World, w5 = wr := ⟨_, rfl⟩
      clear hlist HO5 HO2 HO4
      go_wp2_with fail
      refine (expand_is (some ⟨w1.heap.size, 0, none⟩) k (k + 1) us w5 (rd_tkpre (rd_own HO6.out)) HUM.out (HUT5.out.ok (fun x hx => OK.out x hx)) hl2).mono ?_
      rw [HUT5.out.toks HN.out HUM.out, ← HQ2.out]
      rintro e w6 ⟨A6, c6, rfl, ho6, hb6⟩
      have HR6 := Lib.hid (rd_own ho6)
      have HB6 := Lib.hid hb6
      have hs6 := hb6.size
      have HB16 := Lib.hid (HB15.out.trans (hb6.mono (by omega)))
      have HR36 := Lib.hid (HB35.out.below hb6)
      clear ho6 hb6 HB15 HB35
      go_wp2_with fail
      refine (rexpand_is A1 k c1 lo w6 (HR1.out.below HB16.out) HOL.out (fun x hx => ((HOO.out x hx).below HB1.out).below HB16.out) hl2).mono ?_
      rw [← HQ1.out]
      rintro e w7 ⟨A7, c7, rfl, ho7, hb7⟩
      have HR7 := Lib.hid (rd_own ho7)
      have HB17 := Lib.hid (HB16.out.trans (hb7.mono (by omega)))
      have HR37 := Lib.hid (HR36.out.below hb7)
      have HR67 := Lib.hid (HR6.out.below hb7)
      have hs7 := hb7.size
      clear ho7 hb7 HB16 HR36 HR6
      go_wp2_with fail
      refine (rexpand_is A k c l w7 (HR.out.below (HB1.out.trans (HB17.out.mono hs1))) HN.out (fun x hx => (OK.out x hx).below (HB1.out.trans (HB17.out.mono hs1))) hl2).mono ?_
      rw [← HQ2.out]
      rintro e w8 ⟨A8, c8, rfl, ho8, hb8⟩
      have HR8 := Lib.hid (rd_own ho8)
      have HB18 := Lib.hid (HB17.out.trans (hb8.mono (by omega)))
      have HR38 := Lib.hid (HR37.out.below hb8)
      have HR68 := Lib.hid (HR67.out.below hb8)
      have HR78 := Lib.hid (HR7.out.below hb8)
      clear ho8 hb8 HB17 HR37 HR67 HR7
      go_wp2_with fail
      refine (lsame_yes A3 A7 q1.1.length q1.1.length c3 c7 q1.1 q1.1 w8 HR38.out HR78.out rfl rfl (by omega) (by omega) rfl).mono ?_
      rintro e w9 ⟨rfl, d9, rfl⟩
      go_wp2_with fail
      refine (lsame_yes A6 A8 q2.1.length q2.1.length c6 c8 q2.1 q2.1 _ (HR68.out.below (below_drewN (Below.refl _ _) _)) (HR8.out.below (below_drewN (Below.refl _ _) _)) rfl rfl (by omega) (by omega) rfl).mono ?_
      rintro e w10 ⟨rfl, d10, rfl⟩
      go_wp2_with fail
      go_ret
      exact ⟨rfl, below_drewN (HB1.out.trans (HB18.out.mono hs1)) _⟩

set_option maxHeartbeats 2000000 in
set_option maxRecDepth 100000 in
theorem writePlaced_is (A : Option Addr) (n c : Nat) (l : List TkV) (w : World) (hr : Rd w A (tkCells l)) (hn : l.length = n) (ok : ∀ x ∈ l, x.Ok w) (hl : n * 40 ≤ 140737488351232) (hnc : n ≤ c) :
    Calls Try.prog 25 #[.slice A n c] w fun e w' => e = .returned (.bool true) ∧ Below w.heap.size w w' := by
  have HR := Lib.hid hr
  have HN := Lib.hid hn
  have OK := Lib.hid ok
  have hl2 : n ≤ 4000000000000 := by omega
  have i1 : (n : Int) ≤ (n : Int) + 1 := by omega
  have i2 : (0 : Int) ≤ (n : Int) := by omega
  have i3 : n ≤ n + 1 := by omega
  have P1 := Lib.hid (other_is A n c l w hr hn ok hl)
  obtain ⟨lo, hlo⟩ : ∃ lo, lo = oth l := ⟨_, rfl⟩
  have HOL : Hid (lo.length = n) := Lib.hid (by rw [hlo, oth_length, hn])
  have HOO : Hid (∀ x ∈ lo, x.Ok w) := Lib.hid (by rw [hlo]; exact oth_ok ok)
  rw [← hlo] at P1
  obtain ⟨q1, hq1⟩ : ∃ q, q = wr (toks lo) := ⟨_, rfl⟩
  obtain ⟨q2, hq2⟩ : ∃ q, q = wr (toks l) := ⟨_, rfl⟩
  have HQ1 := Lib.hid hq1
  have HQ2 := Lib.hid hq2
  have hL1 : q1.1.length ≤ 140737488351232 := by rw [hq1]; exact sp_wr_len _
  have hL2 : q2.1.length ≤ 140737488351232 := by rw [hq2]; exact sp_wr_len _
  clear hr hn ok hlo hq1 hq2
  go_enter Try.func25, Try.ntmps25
  go_wp2_with fail
  refine P1.out.mono ?_
  rintro e w1 ⟨A1, c1, rfl, ho1, hb1⟩
  have HR1 := Lib.hid (rd_own ho1)
  have HA1 := Lib.hid (own_at ho1)
  have HB1 := Lib.hid hb1
  have hs1 := hb1.size
  clear P1 ho1 hb1
  go_wp2_with fail
  refine (twins_is A1 n c1 lo w1 HR1.out HOL.out (fun x hx => (HOO.out x hx).below HB1.out) hl2).mono ?_
  rintro e w2 ⟨ms, rfl, ho2, hm2, ht2, hb2⟩
  have HO2 := Lib.hid ho2
  have HM := Lib.hid hm2
  have HT := Lib.hid ht2
  have HB2 := Lib.hid hb2
  have hs2 := hb2.size
  have hg2 : w1.heap.size < w2.heap.size := (ho2.lt _ rfl).2
  clear ho2 hm2 ht2 hb2
  go_wp2_with fail
  refine (write_is (some ⟨w1.heap.size, 0, none⟩) n (n + 1) ms w2 (rd_tkpre (rd_own HO2.out)) HM.out (HT.out.ok (fun x hx => HOO.out x hx)) hl2).mono ?_
  rw [HT.out.toks HOL.out HM.out, ← HQ1.out]
  rintro e w3 ⟨A3, c3, rfl, ho3, hb3⟩
  have HR3 := Lib.hid (rd_own ho3)
  have HA3 := Lib.hid (own_at ho3)
  have HB3 := Lib.hid hb3
  have hs3 := hb3.size
  clear ho3 hb3
  go_wp2_with fail
  refine (twins_is A n c l w3 (HR.out.below (HB1.out.trans ((HB2.out.mono hs1).trans (HB3.out.mono (Nat.le_trans hs1 hs2))))) HN.out (fun x hx => (OK.out x hx).below (HB1.out.trans ((HB2.out.mono hs1).trans (HB3.out.mono (Nat.le_trans hs1 hs2))))) hl2).mono ?_
  rintro e w4 ⟨us, rfl, ho4, hm4, ht4, hb4⟩
  have HU := Lib.hid (rd_own ho4)
  have HUM := Lib.hid hm4
  have HUT := Lib.hid ht4
  have HB4 := Lib.hid hb4
  have HO4 := Lib.hid (own_below HO2.out (HB3.out.trans (hb4.mono hs3)))
  have hs4 := hb4.size
  have hg4 : w3.heap.size < w4.heap.size := (ho4.lt _ rfl).2
  clear ho4 hm4 ht4 hb4
  go_wp2_with fail
  go_loopw [8] (fun i wr => ∃ k : Nat, k ≤ n ∧ i = .int .i64 k ∧ Hid (wr.ownsRow w1.heap.size 37 3 (.slice (some ⟨w1.heap.size, 0, none⟩) (n + 1) (n + 1)) (n + 1) (tkCells (us.take k ++ (ms ++ [tkEnd]).drop k))) ∧ Hid (w4.grownBy wr (some w1.heap.size))) (fun i _ => n - (intOf i).toNat)
  case atStart => exact ⟨0, Nat.zero_le _, rfl, Lib.hid (by simpa using HO4.out), Lib.hid ⟨rfl, rfl, rfl, Nat.le_refl _, fun _ _ _ => rfl⟩⟩
  case round =>
    obtain ⟨k, hk, rfl, HO5, HG5⟩ := hrel
    have hs5 := HG5.out.size
    by_cases hlt : k < n
    · obtain ⟨y, hy⟩ : ∃ y, us[k]? = some y := ⟨_, List.getElem?_eq_getElem (by rw [HUM.out]; exact hlt)⟩
      have hlz : (ms ++ [tkEnd]).length = n + 1 := by rw [List.length_append, HM.out]; rfl
      obtain ⟨z, hz⟩ : ∃ z, (us.take k ++ (ms ++ [tkEnd]).drop k)[k]? = some z := ⟨_, List.getElem?_eq_getElem (by rw [List.length_append, List.length_take, List.length_drop, hlz, HUM.out]; omega)⟩
      obtain ⟨⟨z0, z1, z2⟩, f0, f1, f2⟩ := tok_row HO5.out hz
      have hs := tok_stored HO5.out (k := k) (by rw [List.length_append, List.length_take, List.length_drop, hlz, HUM.out]; omega) y
      rw [set_lay us (ms ++ [tkEnd]) k y hy (by rw [hlz]; omega)] at hs
      have HS := Lib.hid hs
      have hu := HU.out.grown HG5.out (fun a ha e => by injection ha with ha; subst ha; injection e with e; have e2 : w3.heap.size = w1.heap.size := e; omega)
      obtain ⟨g9, off9, he9, hg9, u0, u1, u2⟩ := (rd_tkpre hu).tok hy
      injection he9 with he9
      injection he9 with he1 he2
      subst he1 he2
      rw [Nat.zero_add] at u0 u1 u2
      have j0 : (0 : Int) ≤ (k : Int) := by omega
      have j1 : (k : Int) < (n : Int) := by omega
      have j2 : (k : Int) < (n : Int) + 1 := by omega
      obtain ⟨yA, yc, ylit, yd, yl⟩ := y
      simp only at u0 u1 u2 HS
      clear hs hu hz hy hlz
      go_wp2_with fail
      go_roundw
      case rel => exact ⟨k + 1, by omega, by go_num, Lib.hid HS.out.1, Lib.hid (grown_trans HG5.out HS.out.2)⟩
      case measure => simp [intOf]; omega
    · have hkn : k = n := by omega
      subst hkn
      have hlist : us.take k ++ (ms ++ [tkEnd]).drop k = us ++ [tkEnd] := by
        rw [List.take_of_length_le (by rw [HUM.out]; omega), List.drop_append_of_le_length (by rw [HM.out]; omega), List.drop_eq_nil_of_le (by rw [HM.out]; omega)]
        rfl
      have HO6 : Hid (wr.ownsRow w1.heap.size 37 3 (.slice (some ⟨w1.heap.size, 0, none⟩) (k + 1) (k + 1)) (k + 1) (tkCells (us ++ [tkEnd]))) := Lib.hid (by rw [← hlist]; exact HO5.out)
      have HUT5 := Lib.hid (HUT.out.grown HG5.out (by omega : w1.heap.size ≤ w3.heap.size))
      have HB15 := Lib.hid (((HB2.out.trans ((HB3.out.mono hs2).trans (HB4.out.mono (Nat.le_trans hs2 hs3)))).trans (below_of_grown HG5.out (by omega) (fun q hq => by injection hq with hq; omega)) : Below w1.heap.size w1 wr))
      have HB35 := Lib.hid (rd_beside (B := w1.heap.size) (HR3.out.below HB4.out) (fun a ha => .inr (by have := (HA3.out a ha).1; omega)) HG5.out (Nat.le_refl _))
      obtain ⟨w5, rfl⟩ : ∃ w5 : World, w5 = wr := ⟨_, rfl⟩
      clear hlist HO5 HO2 HO4
      go_wp2_with fail
      refine (write_is (some ⟨w1.heap.size, 0, none⟩) k (k + 1) us w5 (rd_tkpre (rd_own HO6.out)) HUM.out (HUT5.out.ok (fun x hx => OK.out x hx)) hl2).mono ?_
      rw [HUT5.out.toks HN.out HUM.out, ← HQ2.out]
      rintro e w6 ⟨A6, c6, rfl, ho6, hb6⟩
      have HR6 := Lib.hid (rd_own ho6)
      have HB6 := Lib.hid hb6
      have hs6 := hb6.size
      have HB16 := Lib.hid (HB15.out.trans (hb6.mono (by omega)))
      have HR36 := Lib.hid (HB35.out.below hb6)
      clear ho6 hb6 HB15 HB35
      go_wp2_with fail
      refine (rwrite_is A1 k c1 lo w6 (HR1.out.below HB16.out) HOL.out (fun x hx => ((HOO.out x hx).below HB1.out).below HB16.out) hl2).mono ?_
      rw [← HQ1.out]
      rintro e w7 ⟨A7, c7, rfl, ho7, hb7⟩
      have HR7 := Lib.hid (rd_own ho7)
      have HB17 := Lib.hid (HB16.out.trans (hb7.mono (by omega)))
      have HR37 := Lib.hid (HR36.out.below hb7)
      have HR67 := Lib.hid (HR6.out.below hb7)
      have hs7 := hb7.size
      clear ho7 hb7 HB16 HR36 HR6
      go_wp2_with fail
      refine (rwrite_is A k c l w7 (HR.out.below (HB1.out.trans (HB17.out.mono hs1))) HN.out (fun x hx => (OK.out x hx).below (HB1.out.trans (HB17.out.mono hs1))) hl2).mono ?_
      rw [← HQ2.out]
      rintro e w8 ⟨A8, c8, rfl, ho8, hb8⟩
      have HR8 := Lib.hid (rd_own ho8)
      have HB18 := Lib.hid (HB17.out.trans (hb8.mono (by omega)))
      have HR38 := Lib.hid (HR37.out.below hb8)
      have HR68 := Lib.hid (HR67.out.below hb8)
      have HR78 := Lib.hid (HR7.out.below hb8)
      clear ho8 hb8 HB17 HR37 HR67 HR7
      go_wp2_with fail
      refine (lsame_yes A3 A7 q1.1.length q1.1.length c3 c7 q1.1 q1.1 w8 HR38.out HR78.out rfl rfl (by omega) (by omega) rfl).mono ?_
      rintro e w9 ⟨rfl, d9, rfl⟩
      go_wp2_with fail
      refine (lsame_yes A6 A8 q2.1.length q2.1.length c6 c8 q2.1 q2.1 _ (HR68.out.below (below_drewN (Below.refl _ _) _)) (HR8.out.below (below_drewN (Below.refl _ _) _)) rfl rfl (by omega) (by omega) rfl).mono ?_
      rintro e w10 ⟨rfl, d10, rfl⟩
      go_wp2_with fail
      go_ret
      exact ⟨rfl, below_drewN (HB1.out.trans (HB18.out.mono hs1)) _⟩
end Go.Proofs.Ytmdpncjffikmiaa
