/- Shares: what it returns, where it may be shared. -/
import Derived.Test.YthcmkjiemlfpcaaSh3
import Derived.Laws.EntriesVeiled
namespace Go.Proofs.Ythcmkjiemlfpcaa
open Go Go.RowKit
set_option linter.unusedVariables false

/-- The three boxes of the call's own. -/
structure ShB (w W : World) (A : Option Addr) (n c : Nat) (l : List Int) (total : Int) : Prop where
  bT : W.cell? ⟨w.heap.size, 0, none⟩ = some (.int .i64 total)
  bS : W.cell? ⟨w.heap.size + 1, 0, none⟩ = some (.slice A n c)
  bF : W.cell? ⟨w.heap.size + 1 + 1, 0, none⟩ = some (.func (.func 37) #[] #[.pointer (some ⟨w.heap.size + 1, 0, none⟩)])
  rd : Rd W A (i64s l)
  z : w.heap.size + 1 + 1 + 1 ≤ W.heap.size
  be : Below w.heap.size w W

theorem ShB.mk0 (w : World) (A : Option Addr) (n c : Nat) (l : List Int) (total : Int) (hr : Rd w A (i64s l)) :
    ShB w (((w.alloc (.cells #[.int .i64 total] 2)).alloc (.cells #[.slice A n c] 36)).alloc (.cells #[.func (.func 37) #[] #[.pointer (some ⟨w.heap.size + 1, 0, none⟩)]] 52)) A n c l total := by
  have hb := (((Below.refl w.heap.size w).alloc (Nat.le_refl _) (.cells #[.int .i64 total] 2)).alloc (by simp) (.cells #[.slice A n c] 36)).alloc (by simp <;> omega) (.cells #[.func (.func 37) #[] #[.pointer (some ⟨w.heap.size + 1, 0, none⟩)]] 52)
  exact ⟨by go_simp, by go_simp, by go_simp, hr.below hb, by simp, hb⟩
theorem ShB.more {w W W' : World} {A : Option Addr} {n c : Nat} {l : List Int} {total : Int} (h : ShB w W A n c l total) (hb : Below W.heap.size W W') : ShB w W' A n c l total :=
  have hz := h.z
  ⟨(hb.cell (p := ⟨w.heap.size, 0, none⟩) (by simp only; omega)).trans h.bT, (hb.cell (p := ⟨w.heap.size + 1, 0, none⟩) (by simp only; omega)).trans h.bS, (hb.cell (p := ⟨w.heap.size + 1 + 1, 0, none⟩) (by simp only; omega)).trans h.bF,
    h.rd.below hb, Nat.le_trans hz hb.size, h.be.trans (hb.mono h.be.size)⟩
theorem ShB.drewN {w W : World} {A : Option Addr} {n c : Nat} {l : List Int} {total : Int} (h : ShB w W A n c l total) (k : Nat) : ShB w (W.drewN k) A n c l total :=
  ⟨h.bT, h.bS, h.bF, h.rd, h.z, below_drewN h.be k⟩

def Shared (w : World) (l : List Int) (e : Ending) (w' : World) : Prop :=
  ∃ A c, e = .returned (.tuple #[.slice A l.length c, .int .i64 0]) ∧ w'.ownsRow w.heap.size 2 1 (.slice A l.length c) l.length (i64s l) ∧ Below w.heap.size w w'

set_option maxHeartbeats 1000000 in
set_option maxRecDepth 100000 in
theorem shares_full (A : Option Addr) (c n : Nat) (l : List Int) (total : Int) (w : World) (hr : Rd w A (i64s l)) (hn : l.length = n) (hc : n ≤ c) (hl : n ≤ 64) (ht : 0 ≤ total) (ht' : total ≤ 1099511627776) (ha : Asks l) (hf : capSum l 1099511627776 ≤ total) :
    Calls Try.prog 22 #[.int .i64 total, .slice A n c] w (Shared w l) := by
  have hi := inside_yes ht ht'
  have hr2 : Rd ((w.alloc (.cells #[.int .i64 total] 2)).alloc (.cells #[.slice A n c] 36)) A (i64s l) := hr.below (((Below.refl _ _).alloc (Nat.le_refl _) _).alloc (by simp) _)
  have P1 := Lib.hid (contains_is A c n l false _ hr2 hn hc hl ⟨(fun h => by cases h), (fun h => absurd ha h)⟩)
  have HB := Lib.hid (ShB.mk0 w A n c l total hr)
  have P2 := Lib.hid (fun W (h : ShB w W A n c l total) => clone_is A c n l W h.rd hn hc (by omega))
  have P3 := Lib.hid (fun W (h : ShB w W A n c l total) => given_is A c n (w.heap.size + 1) l 1099511627776 W h.bS h.rd hn hc hl ha (by omega) (by omega))
  have HN := Lib.hid hn
  clear hn ha hr hr2
  generalize capSum l 1099511627776 = s at *
  go_enter Try.func22, Try.ntmps22
  go_wp2_with (first
    | (go_at_call 35; refine (bad_is total true _ hi).mono ?_; rintro e w' ⟨rfl, rfl⟩)
    | (go_at_call 36; refine P1.out.mono ?_; rintro e w' ⟨rfl, rfl⟩)
    | (go_at_call 38; refine (P2.out _ HB.out).mono ?_; rintro e w4 ⟨A4, c4, rfl, ho4, hb4⟩; have K := HB.out.more hb4; have HO := Lib.hid ho4; have hT := K.bT; have hS := K.bS; have hF := K.bF; have HK := Lib.hid K; clear ho4 hb4 K))
  go_quiet ((go_at_call 37; exact (P3.out _ (HK.out.drewN _)).mono fun _ _ hh => ⟨hh.1, _, hh.2.symm⟩))
  go_wp2
  go_ret2
  refine ⟨A4, c4, rfl, own_mono (own_below HO.out (below_drewN (Below.refl _ _) _)) (by simp; omega), below_drewN HK.out.be _⟩

theorem set_at {α : Type} (xs ys : List α) (k : Nat) (hk : xs.length = k) (x y : α) : (xs ++ x :: ys).set k y = xs ++ y :: ys := by
  rw [List.set_append_right _ _ (by omega), hk, Nat.sub_self]
  rfl

/-- The row, one step on. -/
theorem row_step {l : List Int} {v L x y : Int} {k : Nat} (hx : l[k]? = some x) : (dist (l.take k) v L ++ l.drop k).set k y = (dist (l.take k) v L ++ [y]) ++ l.drop (k + 1) := by
  obtain ⟨hk, rfl⟩ := List.getElem?_eq_some_iff.1 hx
  rw [List.drop_eq_getElem_cons hk, set_at _ _ k (by rw [dist_length]; simp; omega)]
  simp
theorem row_again {l : List Int} {v L a y : Int} {k : Nat} (hk : k < l.length) : ((dist (l.take k) v L ++ [a]) ++ l.drop (k + 1)).set k y = (dist (l.take k) v L ++ [y]) ++ l.drop (k + 1) := by
  rw [List.append_assoc, List.append_assoc, List.singleton_append, List.singleton_append, set_at _ _ k (by rw [dist_length]; simp; omega)]
theorem i64s_set (l : List Int) (k : Nat) (y : Int) : (i64s l).set k (.int .i64 y) = i64s (l.set k y) := by simp [i64s, List.map_set]
theorem take_snoc' {l : List Int} {k : Nat} {x : Int} (hx : l[k]? = some x) : l.take (k + 1) = l.take k ++ [x] := by
  obtain ⟨hk, rfl⟩ := List.getElem?_eq_some_iff.1 hx
  exact List.take_succ_eq_append_getElem hk

set_option maxHeartbeats 2000000 in
set_option maxRecDepth 100000 in
theorem shares_part (A : Option Addr) (c n : Nat) (l : List Int) (total v : Int) (w : World) (hr : Rd w A (i64s l)) (hn : l.length = n) (hc : n ≤ c) (hl : n ≤ 64) (ht : 0 ≤ total) (ht' : total ≤ 1099511627776) (ha : Asks l) (hf : total < capSum l 1099511627776) (hv : IsLev total l v) :
    Calls Try.prog 22 #[.int .i64 total, .slice A n c] w (Shared w (dist l v (total - capSum l v))) := by
  have hi := inside_yes ht ht'
  have hr2 : Rd ((w.alloc (.cells #[.int .i64 total] 2)).alloc (.cells #[.slice A n c] 36)) A (i64s l) := hr.below (((Below.refl _ _).alloc (Nat.le_refl _) _).alloc (by simp) _)
  have P1 := Lib.hid (contains_is A c n l false _ hr2 hn hc hl ⟨(fun h => by cases h), (fun h => absurd ha h)⟩)
  have HB := Lib.hid (ShB.mk0 w A n c l total hr)
  have P2 := Lib.hid (fun W (h : ShB w W A n c l total) => clone_is A c n l W h.rd hn hc (by omega))
  have P3 := Lib.hid (fun W (h : ShB w W A n c l total) => given_is A c n (w.heap.size + 1) l 1099511627776 W h.bS h.rd hn hc hl ha (by omega) (by omega))
  have P4 := Lib.hid (fun W (h : ShB w W A n c l total) => given_is A c n (w.heap.size + 1) l v W h.bS h.rd hn hc hl ha hv.lo (by have := hv.hi; omega))
  have P5 := Lib.hid (fun W (h : ShB w W A n c l total) => search_is A c n (w.heap.size + 1) (w.heap.size + 1 + 1) w.heap.size l total v W h.bS h.bF h.bT h.rd hn hc hl ha hv ht)
  have hv0 := hv.lo
  have hv1 := hv.hi
  have hvle := hv.le
  have hc0 := (capSum_bd ha hv0).1
  have HN := Lib.hid hn
  have HA := Lib.hid ha
  have HR := Lib.hid hr
  clear hn ha hr hr2 hv
  generalize capSum l 1099511627776 = s at *
  obtain ⟨q, hq⟩ : ∃ q, q = capSum l v := ⟨_, rfl⟩
  rw [← hq] at P4 hvle hc0 ⊢
  clear hq
  have e1 : IntKind.i64.wrap (total - q) = total - q := IntWalk.i64_in _ (by omega)
  go_enter Try.func22, Try.ntmps22
  go_wp2_with (first
    | (go_at_call 35; refine (bad_is total true _ hi).mono ?_; rintro e w' ⟨rfl, rfl⟩)
    | (go_at_call 36; refine P1.out.mono ?_; rintro e w' ⟨rfl, rfl⟩)
    | (go_at_call 38; refine (P2.out _ HB.out).mono ?_; rintro e w4 ⟨A4, c4, rfl, ho4, hb4⟩; have K := HB.out.more hb4; have HO := Lib.hid ho4; have hT := K.bT; have hS := K.bS; have hF := K.bF; have HK := Lib.hid K; clear ho4 hb4 K))
  go_quiet ((go_at_call 37; exact (P3.out _ (HK.out.drewN _)).mono fun _ _ hh => ⟨hh.1, _, hh.2.symm⟩))
  go_wp2_with fail
  refine (P5.out _ (HK.out.drewN _)).mono ?_
  rintro e w6 ⟨rfl, kd, hw6⟩
  have K6 : ShB w w6 A n c l total := hw6 ▸ ((HK.out.drewN _).drewN kd)
  have O6 : w6.ownsRow w.heap.size 2 1 (.slice A4 l.length c4) l.length (i64s l) := by
    rw [hw6]
    exact own_mono (own_below (own_below HO.out (below_drewN (Below.refl _ _) _)) (below_drewN (Below.refl _ _) kd)) (by simp; omega)
  clear hw6 hT hS hF HO HK P1 P2 P3 P5 HB
  rw [HN.out] at O6 ⊢
  have hT := K6.bT
  have hS := K6.bS
  have hF := K6.bF
  have HK := Lib.hid K6
  have HO := Lib.hid O6
  clear K6 O6
  go_wp2_with fail
  go_quiet ((go_at_call 37; exact (P4.out _ (HK.out.drewN _)).mono fun _ _ hh => ⟨hh.1, _, hh.2.symm⟩))
  go_wp2_with fail
  obtain ⟨L, hL⟩ : ∃ L, L = total - q := ⟨_, rfl⟩
  rw [← hL] at e1 ⊢
  have hL0 : 0 ≤ L ∧ L ≤ 1099511627776 := by omega
  have hbe : Below w.heap.size w (w6.drewN nq) := below_drewN HK.out.be nq
  have hor : (w6.drewN nq).ownsRow w.heap.size 2 1 (.slice A4 n c4) n (i64s l) := own_below HO.out (below_drewN (Below.refl _ _) nq)
  have HLQ := Lib.hid hL
  have HBE := Lib.hid hbe
  have HOR := Lib.hid hor
  clear hT hS hF hbe hor HO HK P4 e1 hL
  generalize w6.drewN nq = W at *
  go_loopw [43, 10] (fun i lf wr => ∃ k : Nat, k ≤ n ∧ i = .int .i64 k ∧ lf = .int .i64 (lft (l.take k) v L) ∧ wr.ownsRow w.heap.size 2 1 (.slice A4 n c4) n (i64s (dist (l.take k) v L ++ l.drop k)) ∧ Below w.heap.size w wr)
    (fun i _ _ => n - (intOf i).toNat)
  case atStart => exact ⟨0, Nat.zero_le _, rfl, rfl, HOR.out, HBE.out⟩
  case round =>
    obtain ⟨k, hk, rfl, rfl, hown, hbel⟩ := hrel
    by_cases hlt : k < n
    · obtain ⟨x, hx⟩ : ∃ x, l[k]? = some x := ⟨_, List.getElem?_eq_getElem (by rw [HN.out]; exact hlt)⟩
      have hxa := asks_at HA.out hx
      obtain ⟨g, off, rfl, hg, hcell0⟩ := HR.out.i64 hx
      have hcell := (hbel.cell (p := ⟨g, off + k, none⟩) hg).trans hcell0
      obtain ⟨gO, rfl, hgO, hgO2, _, _⟩ := own_posR hown (by omega)
      have hlen : (dist (l.take k) v L).length = k := by rw [dist_length]; simp; rw [HN.out]; omega
      have hcO : wr.cell? ⟨gO, k, none⟩ = some (.int .i64 x) := by
        have := hown.cellAt k (by omega)
        rw [i64s_get, List.getElem?_append_right (by omega), hlen, Nat.sub_self, List.drop_eq_getElem_cons (by rw [HN.out]; exact hlt)] at this
        rw [List.getElem?_eq_getElem (by rw [HN.out]; exact hlt)] at hx
        injection hx with hx
        rw [hx] at this
        simpa using this
      have hfO := hown.frozenAt k
      have hlf := lft_bd (l.take k) v L hL0.1
      have hlfs := lft_snoc (l.take k) x v L
      have hds := dist_snoc (l.take k) x v L
      rw [← take_snoc' hx] at hlfs hds
      obtain ⟨lf, hlf0⟩ : ∃ lf, lf = lft (l.take k) v L := ⟨_, rfl⟩
      rw [← hlf0] at hlf hlfs hds ⊢
      have HLF := Lib.hid hlfs
      have HDS := Lib.hid hds
      have s1 := hown.stored k (.int .i64 (min x v))
      rw [i64s_set, row_step hx] at s1
      have S1 := Lib.hid s1
      have HBL := Lib.hid hbel
      have hgne : gO ≠ g := by omega
      clear hx hcell0 hlfs hds s1 hlf0 hlen hown hbel
      by_cases hxv : v < x ∧ 0 < lf
      · have hm : min x v = v := by omega
        rw [hm] at S1
        have s2 := S1.out.1.stored k (.int .i64 (v + 1))
        rw [i64s_set, row_again (by rw [HN.out]; exact hlt)] at s2
        have S2 := Lib.hid s2
        obtain ⟨hx1, hx2⟩ := hxv
        have hif1 : Hid (lft (l.take (k + 1)) v L = lf - 1) := HLF.out.trans (if_pos ⟨hx1, hx2⟩)
        have hif2 : Hid (dist (l.take (k + 1)) v L = dist (l.take k) v L ++ [v + 1]) := HDS.out.trans (by rw [if_pos ⟨hx1, hx2⟩])
        clear s2 hm HLF HDS
        go_wp2_with fail
        go_roundw
        case rel => exact ⟨k + 1, by omega, by go_num, by rw [hif1.out], by rw [hif2.out]; exact S2.out.1, (HBL.out.trans (below_of_grown S1.out.2 HBL.out.size (fun q hq => by injection hq with hq; omega))).trans (below_of_grown S2.out.2 (Nat.le_trans HBL.out.size S1.out.2.size) (fun q hq => by injection hq with hq; omega))⟩
        case measure => simp [intOf]; omega
      · have hif1 : Hid (lft (l.take (k + 1)) v L = lf) := HLF.out.trans (if_neg hxv)
        have hif2 : Hid (dist (l.take (k + 1)) v L = dist (l.take k) v L ++ [min x v]) := HDS.out.trans (by rw [if_neg hxv])
        clear HLF HDS
        by_cases hx1 : v < x
        · have hx2 : ¬ 0 < lf := fun h => hxv ⟨hx1, h⟩
          have hm : min x v = v := by omega
          have HM := Lib.hid hm
          clear hxv hm
          go_wp2_with fail
          go_roundw
          case rel => exact ⟨k + 1, by omega, by go_num, by rw [hif1.out], by rw [hif2.out, HM.out]; have := S1.out.1; rw [HM.out] at this; exact this, HBL.out.trans (below_of_grown S1.out.2 HBL.out.size (fun q hq => by injection hq with hq; omega)) |> (by rw [HM.out] at *; exact ·)⟩
          case measure => simp [intOf]; omega
        · have hm : min x v = x := by omega
          have HM := Lib.hid hm
          clear hxv hm
          go_wp2_with fail
          go_roundw
          case rel => exact ⟨k + 1, by omega, by go_num, by rw [hif1.out], by rw [hif2.out, HM.out]; have := S1.out.1; rw [HM.out] at this; exact this, HBL.out.trans (below_of_grown S1.out.2 HBL.out.size (fun q hq => by injection hq with hq; omega)) |> (by rw [HM.out] at *; exact ·)⟩
          case measure => simp [intOf]; omega
    · have hLq := HLQ.out
      subst hLq
      have hkn : k = n := by omega
      have e1 : l.take k = l := List.take_of_length_le (by rw [HN.out]; omega)
      have e2 : l.drop k = [] := List.drop_eq_nil_of_le (by rw [HN.out]; omega)
      have e3 : (dist l v (total - q)).length = n := by rw [dist_length, HN.out]
      rw [e1, e2, List.append_nil] at hown
      have E3 := Lib.hid e3
      clear hkn e1 e2 e3
      go_wp2
      go_ret2
      exact ⟨A4, c4, by rw [E3.out]; rfl, by rw [E3.out]; exact hown, hbel⟩
end Go.Proofs.Ythcmkjiemlfpcaa
