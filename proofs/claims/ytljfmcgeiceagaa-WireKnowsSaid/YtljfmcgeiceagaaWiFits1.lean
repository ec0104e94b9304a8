/- wire.Fits, and the reference's. -/
import Derived.Test.YtljfmcgeiceagaaD4
import Derived.Test.YtljfmcgeiceagaaRecEnc
namespace Go.Proofs.Ytljfmcgeiceagaa
open Go Go.RowKit
set_option linter.unusedVariables false
set_option linter.unusedSimpArgs false

theorem rsize_le (x : Rc) : rsize x ≤ 1124 := by
  unfold rsize renc
  split
  next h => have := (bdy_len (chk_may h)).2; simp only [wrap_length]; omega
  next h => simp
/-- How many have room. -/
def ftN : List Rc → Nat → Nat
  | [], _ => 0
  | x :: r, left => if rsize x = 0 ∨ left < rsize x then 0 else 1 + ftN r (left - rsize x)
theorem ftN_le : ∀ (l : List Rc) (k : Nat), ftN l k ≤ l.length
  | [], _ => Nat.le_refl _
  | x :: r, k => by
    unfold ftN
    split
    · exact Nat.zero_le _
    · have := ftN_le r (k - rsize x); simp; omega
theorem ftN_stop {l : List Rc} {j lf N : Nat} {x : Rc} (h : N = j + ftN (l.drop j) lf) (hx : l[j]? = some x) (hs : rsize x = 0 ∨ lf < rsize x) : N = j := by
  obtain ⟨hj, rfl⟩ := List.getElem?_eq_some_iff.1 hx
  rw [List.drop_eq_getElem_cons hj, ftN, if_pos hs] at h
  omega
theorem ftN_go {l : List Rc} {j lf N : Nat} {x : Rc} (h : N = j + ftN (l.drop j) lf) (hx : l[j]? = some x) (hs : ¬ (rsize x = 0 ∨ lf < rsize x)) : N = (j + 1) + ftN (l.drop (j + 1)) (lf - rsize x) := by
  obtain ⟨hj, rfl⟩ := List.getElem?_eq_some_iff.1 hx
  rw [List.drop_eq_getElem_cons hj, ftN, if_neg hs] at h
  omega
theorem ftN_end {l : List Rc} {j lf N : Nat} (h : N = j + ftN (l.drop j) lf) (hj : j = l.length) : N = j := by
  rw [hj, List.drop_length, ftN] at h
  omega
set_option maxRecDepth 100000 in
theorem rrecsize_is (x : Rc) (w : World) : Calls Try.prog 40 #[x.v] w fun e w' => e = .returned (.int .i64 ((rsize x : Nat) : Int)) ∧ Below w.heap.size w w' := by
  have PE := Lib.hid (fun W => rcencode4_is x W)
  obtain ⟨q, hq⟩ : ∃ q, q = renc x := ⟨_, rfl⟩
  have hs : rsize x = q.1.length := by unfold rsize; rw [hq]
  rw [← hq] at PE
  rw [hs]
  clear hq hs
  obtain ⟨k, o, t, p, s, key, val⟩ := x
  unfold Rc.v at PE ⊢
  simp only at PE ⊢
  have T0 := Lib.hid ((Below.refl w.heap.size w).alloc (Nat.le_refl _) (rcObj ⟨k, o, t, p, s, key, val⟩))
  have BX0 := Lib.hid (RBox.new w ⟨k, o, t, p, s, key, val⟩)
  obtain ⟨x0, x1, x2, x3, x4, x5, x6⟩ := BX0.out.facts
  simp only at x0 x1 x2 x3 x4 x5 x6
  go_enter Try.func40, Try.ntmps40
  go_wp2_with fail
  refine (PE.out _).mono ?_
  rintro e w1 ⟨A1, c1, rfl, ho1, hb1⟩
  have T1 := Lib.hid (T0.out.trans (hb1.mono (by simp)))
  clear hb1 x0 x1 x2 x3 x4 x5 x6 ho1
  go_wp2_with fail
  go_ret
  exact ⟨rfl, T1.out⟩
set_option maxHeartbeats 2000000 in
set_option maxRecDepth 100000 in
theorem fits_is (A : Option Addr) (n c : Nat) (l : List Rc) (w : World) (hr : Rd w A (rcCells l)) (hn : l.length = n) (hl : n ≤ 2000000000000) :
    Calls Try.prog 20 #[.slice A n c] w fun e w' => e = .returned (.int .i64 ((ftN l 4051 : Nat) : Int)) ∧ Below w.heap.size w w' := by
  have HR := Lib.hid hr
  have HN := Lib.hid hn
  obtain ⟨F, hF⟩ : ∃ F, F = ftN l 4051 := ⟨_, rfl⟩
  rw [← hF]
  have HF : Hid (F = 0 + ftN (l.drop 0) 4051) := Lib.hid (by rw [hF]; simp)
  clear hr hn hF
  go_enter Try.func20, Try.ntmps20
  go_wp2
  go_loopw [3, 9] (fun lv i wr => ∃ j lf : Nat, j ≤ n ∧ lf ≤ 4051 ∧ i = .int .i64 j ∧ lv = .int .i64 lf ∧ Hid (F = j + ftN (l.drop j) lf) ∧ Below w.heap.size w wr) (fun _ i _ => n - (intOf i).toNat)
  case atStart => exact ⟨0, 4051, Nat.zero_le _, Nat.le_refl _, rfl, rfl, HF, Below.refl _ _⟩
  case round =>
    obtain ⟨j, lf, hj, hlf, rfl, rfl, HC, hbe⟩ := hrel
    have HB := Lib.hid hbe
    by_cases hlt : j < n
    · obtain ⟨x, hx⟩ : ∃ x, l[j]? = some x := ⟨_, List.getElem?_eq_getElem (by rw [HN.out]; exact hlt)⟩
      obtain ⟨g, off, rfl, hg, x0, x1, x2, x3, x4, x5, x6⟩ := (HR.out.below hbe).rec hx
      have PS := Lib.hid (fun W => recsize_is x W)
      have hz := rsize_le x
      have HS1 := Lib.hid (fun h => ftN_stop HC.out hx h)
      have HS2 := Lib.hid (fun h => ftN_go HC.out hx h)
      obtain ⟨z, hzz⟩ : ∃ z, z = rsize x := ⟨_, rfl⟩
      rw [← hzz] at PS hz HS1 HS2
      have i0 : (0 : Int) ≤ (j : Int) := by omega
      have i1 : (j : Int) < (n : Int) := by omega
      obtain ⟨xk, xo, xt, xp, xs, xkey, xval⟩ := x
      unfold Rc.v at PS
      simp only at x0 x1 x2 x3 x4 x5 x6 PS
      have HBA := Lib.hid (HB.out.alloc HB.out.size (rcObj ⟨xk, xo, xt, xp, xs, xkey, xval⟩))
      clear hx hzz hbe HC HF
      by_cases h0 : z = 0
      · have HE := Lib.hid (HS1.out (.inl h0))
        have hzb : ((z : Int) == 0) = true := by rw [beq_iff_eq]; omega
        clear HS1 HS2 h0
        go_wp2_with fail
        refine (PS.out _).mono ?_
        rintro e w1 ⟨rfl, hb1⟩
        have HB1 := Lib.hid (HBA.out.trans (hb1.mono HBA.out.size))
        clear hb1
        go_wp2_with fail
        go_ret
        exact ⟨by rw [HE.out] <;> rfl, HB1.out⟩
      have hzb : ((z : Int) == 0) = false := by rw [beq_eq_false_iff_ne]; omega
      by_cases h1 : lf < z
      · have HE := Lib.hid (HS1.out (.inr h1))
        have hzl : decide ((lf : Int) < (z : Int)) = true := decide_eq_true (by omega)
        have hzl2 : decide (lf < z) = true := decide_eq_true h1
        clear HS1 HS2 h0
        go_wp2_with fail
        refine (PS.out _).mono ?_
        rintro e w1 ⟨rfl, hb1⟩
        have HB1 := Lib.hid (HBA.out.trans (hb1.mono HBA.out.size))
        clear hb1
        go_wp2_with fail
        go_ret
        exact ⟨by rw [HE.out] <;> rfl, HB1.out⟩
      · have HE := Lib.hid (HS2.out (fun h => h.elim h0 h1))
        have hzl : decide ((lf : Int) < (z : Int)) = false := decide_eq_false (by omega)
        have hzl2 : decide (lf < z) = false := decide_eq_false h1
        have hsub : IntKind.i64.wrap ((lf : Int) - (z : Int)) = ((lf - z : Nat) : Int) := by rw [IntKind.wrap_i64]; omega
        clear HS1 HS2 h0
        go_wp2_with fail
        refine (PS.out _).mono ?_
        rintro e w1 ⟨rfl, hb1⟩
        have HB1 := Lib.hid (HBA.out.trans (hb1.mono HBA.out.size))
        clear hb1
        go_wp2_with fail
        go_roundw
        case rel => exact ⟨j + 1, lf - z, by omega, by omega, by go_num, by first | rfl | (congr 1; omega), HE, HB1.out⟩
        case measure => simp [intOf]; omega
    · have hjn : j = n := by omega
      have HE := Lib.hid (ftN_end HC.out (by rw [HN.out]; exact hjn))
      subst hjn
      clear HC HF
      go_wp2_with fail
      go_ret
      exact ⟨by rw [HE.out] <;> rfl, HB.out⟩
set_option maxHeartbeats 2000000 in
set_option maxRecDepth 100000 in
theorem rfits_is (A : Option Addr) (n c : Nat) (l : List Rc) (w : World) (hr : Rd w A (rcCells l)) (hn : l.length = n) (hl : n ≤ 2000000000000) :
    Calls Try.prog 23 #[.slice A n c] w fun e w' => e = .returned (.int .i64 ((ftN l 4051 : Nat) : Int)) ∧ Below w.heap.size w w' := by
  have HR := Lib.hid hr
  have HN := Lib.hid hn
  obtain ⟨F, hF⟩ : ∃ F, F = ftN l 4051 := ⟨_, rfl⟩
  rw [← hF]
  have HF : Hid (F = 0 + ftN (l.drop 0) (4051 - 0)) := Lib.hid (by rw [hF]; simp)
  clear hr hn hF
  go_enter Try.func23, Try.ntmps23
  go_wp2
  go_loopw [3, 4] (fun sv i wr => ∃ j sz : Nat, j ≤ n ∧ sz ≤ 4051 ∧ i = .int .i64 j ∧ sv = .int .i64 sz ∧ Hid (F = j + ftN (l.drop j) (4051 - sz)) ∧ Below w.heap.size w wr) (fun _ i _ => n - (intOf i).toNat)
  case atStart => exact ⟨0, 0, Nat.zero_le _, Nat.zero_le _, rfl, rfl, HF, Below.refl _ _⟩
  case round =>
    obtain ⟨j, sz, hj, hlf, rfl, rfl, HC, hbe⟩ := hrel
    have HB := Lib.hid hbe
    by_cases hlt : j < n
    · obtain ⟨x, hx⟩ : ∃ x, l[j]? = some x := ⟨_, List.getElem?_eq_getElem (by rw [HN.out]; exact hlt)⟩
      obtain ⟨g, off, rfl, hg, x0, x1, x2, x3, x4, x5, x6⟩ := (HR.out.below hbe).rec hx
      have PS := Lib.hid (fun W => rrecsize_is x W)
      have hz := rsize_le x
      have HS1 := Lib.hid (fun h => ftN_stop HC.out hx h)
      have HS2 := Lib.hid (fun h => ftN_go HC.out hx h)
      obtain ⟨z, hzz⟩ : ∃ z, z = rsize x := ⟨_, rfl⟩
      rw [← hzz] at PS hz HS1 HS2
      have i0 : (0 : Int) ≤ (j : Int) := by omega
      have i1 : (j : Int) < (n : Int) := by omega
      obtain ⟨xk, xo, xt, xp, xs, xkey, xval⟩ := x
      unfold Rc.v at PS
      simp only at x0 x1 x2 x3 x4 x5 x6 PS
      have hadd : IntKind.i64.wrap ((sz : Int) + (z : Int)) = (sz : Int) + (z : Int) := by rw [IntKind.wrap_i64]; omega
      clear hx hzz hbe HC HF
      by_cases h0 : z = 0
      · have HE := Lib.hid (HS1.out (.inl h0))
        have hzb : ((z : Int) == 0) = true := by rw [beq_iff_eq]; omega
        clear HS1 HS2 h0
        go_wp2_with fail
        refine (PS.out _).mono ?_
        rintro e w1 ⟨rfl, hb1⟩
        have HB1 := Lib.hid (HB.out.trans (hb1.mono HB.out.size))
        clear hb1
        go_wp2_with fail
        go_ret
        exact ⟨by rw [HE.out] <;> rfl, HB1.out⟩
      have hzb : ((z : Int) == 0) = false := by rw [beq_eq_false_iff_ne]; omega
      by_cases h1 : 4051 - sz < z
      · have HE := Lib.hid (HS1.out (.inr h1))
        have hzl : decide ((4051 : Int) < (sz : Int) + (z : Int)) = true := decide_eq_true (by omega)
        clear HS1 HS2 h0
        go_wp2_with fail
        refine (PS.out _).mono ?_
        rintro e w1 ⟨rfl, hb1⟩
        have HB1 := Lib.hid (HB.out.trans (hb1.mono HB.out.size))
        clear hb1
        go_wp2_with fail
        go_ret
        exact ⟨by rw [HE.out] <;> rfl, HB1.out⟩
      · have HE : Hid (F = (j + 1) + ftN (l.drop (j + 1)) (4051 - (sz + z))) := Lib.hid (by have := HS2.out (fun h => h.elim h0 h1); rw [this, show 4051 - (sz + z) = 4051 - sz - z by omega])
        have hzl : decide ((4051 : Int) < (sz : Int) + (z : Int)) = false := decide_eq_false (by omega)
        clear HS1 HS2 h0
        go_wp2_with fail
        refine (PS.out _).mono ?_
        rintro e w1 ⟨rfl, hb1⟩
        have HB1 := Lib.hid (HB.out.trans (hb1.mono HB.out.size))
        clear hb1
        go_wp2_with fail
        go_roundw
        case rel => exact ⟨j + 1, sz + z, by omega, by omega, by go_num, by go_num, HE, HB1.out⟩
        case measure => simp [intOf]; omega
    · have hjn : j = n := by omega
      have HE := Lib.hid (ftN_end HC.out (by rw [HN.out]; exact hjn))
      subst hjn
      clear HC HF
      go_wp2_with fail
      go_ret
      exact ⟨by rw [HE.out] <;> rfl, HB.out⟩
end Go.Proofs.Ytljfmcgeiceagaa
