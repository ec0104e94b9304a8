/- chroniclelaw4.spoilt. -/
import Derived.Test.YtjipebedibjoiaaRecRow
namespace Go.Proofs.Ytjipebedibjoiaa
open Go Go.RowKit
set_option linter.unusedVariables false
set_option linter.unusedSimpArgs false

/-- Seven cells stored into a row of the call's own. -/
theorem own_put7 {w : World} {base g n c : Nat} {e : TypeId} {size : Nat} {xs : List Value} (h : w.ownsRow base e size (.slice (some ⟨g, 0, none⟩) n c) n xs) (j : Nat) (u0 u1 u2 u3 u4 u5 u6 : Value) :
    (((((((w.setCell ⟨g, j, none⟩ u0).setCell ⟨g, j + 1, none⟩ u1).setCell ⟨g, j + 2, none⟩ u2).setCell ⟨g, j + 3, none⟩ u3).setCell ⟨g, j + 4, none⟩ u4).setCell ⟨g, j + 5, none⟩ u5).setCell ⟨g, j + 6, none⟩ u6).ownsRow base e size (.slice (some ⟨g, 0, none⟩) n c) n (((((((xs.set j u0).set (j + 1) u1).set (j + 2) u2).set (j + 3) u3).set (j + 4) u4).set (j + 5) u5).set (j + 6) u6) ∧
    w.grownBy (((((((w.setCell ⟨g, j, none⟩ u0).setCell ⟨g, j + 1, none⟩ u1).setCell ⟨g, j + 2, none⟩ u2).setCell ⟨g, j + 3, none⟩ u3).setCell ⟨g, j + 4, none⟩ u4).setCell ⟨g, j + 5, none⟩ u5).setCell ⟨g, j + 6, none⟩ u6) (some g) := by
  have h0 := h.stored j u0
  have h1 := h0.1.stored (j + 1) u1
  have h2 := h1.1.stored (j + 2) u2
  have h3 := h2.1.stored (j + 3) u3
  have h4 := h3.1.stored (j + 4) u4
  have h5 := h4.1.stored (j + 5) u5
  have h6 := h5.1.stored (j + 6) u6
  exact ⟨h6.1, grown_trans h0.2 (grown_trans h1.2 (grown_trans h2.2 (grown_trans h3.2 (grown_trans h4.2 (grown_trans h5.2 h6.2)))))⟩
theorem own_len {w : World} {base n : Nat} {e : TypeId} {size : Nat} {v : Value} {xs : List Value} (h : w.ownsRow base e size v n xs) : xs.length = n * size := h.1
set_option maxHeartbeats 1000000 in
set_option maxRecDepth 100000 in
theorem spoilt_own (base n : Nat) (v : Value) (xs : List Value) (w : World) (h : w.ownsRow base 31 7 v n xs) (hl : n ≤ 1500000000000) (hb : base ≤ w.heap.size) :
    Calls Try.prog 18 #[v] w fun e w' => e = .returned (.int .i64 ((n : Int) + 64)) ∧ Below base w w' := by
  obtain ⟨A, c, rfl, hnc, hcm, hAb⟩ := own_shape h
  have HO := Lib.hid h
  clear h
  go_enter Try.func18, Try.ntmps18
  go_wp2
  go_loopw [3] (fun i wr => ∃ (k : Nat) (zs : List Value), k ≤ n ∧ i = .int .i64 k ∧ wr.ownsRow base 31 7 (.slice A n c) n zs ∧ Below base w wr) (fun i _ => n - (intOf i).toNat)
  case atStart => exact ⟨0, xs, Nat.zero_le _, rfl, HO.out, Below.refl _ _⟩
  case round =>
    obtain ⟨k, zs, hk, rfl, hown, hbel⟩ := hrel
    by_cases hlt : k < n
    · obtain ⟨g, hA, hgb, hgl, _, _⟩ := own_pos hown (by omega)
      subst hA
      have hz := own_len hown
      have hc : ∀ j, j < 7 → ∃ u, wr.cell? ⟨g, k * 7 + j, none⟩ = some u := fun j hj => ⟨_, (hown.cellAt (k * 7 + j) (by omega)).trans (List.getElem?_eq_getElem (by omega))⟩
      obtain ⟨y0, c0⟩ := hc 0 (by omega)
      obtain ⟨y1, c1⟩ := hc 1 (by omega)
      obtain ⟨y2, c2⟩ := hc 2 (by omega)
      obtain ⟨y3, c3⟩ := hc 3 (by omega)
      obtain ⟨y4, c4⟩ := hc 4 (by omega)
      obtain ⟨y5, c5⟩ := hc 5 (by omega)
      obtain ⟨y6, c6⟩ := hc 6 (by omega)
      rw [Nat.add_zero] at c0
      have f0 := hown.frozenAt (k * 7)
      have f1 := hown.frozenAt (k * 7 + 1)
      have f2 := hown.frozenAt (k * 7 + 2)
      have f3 := hown.frozenAt (k * 7 + 3)
      have f4 := hown.frozenAt (k * 7 + 4)
      have f5 := hown.frozenAt (k * 7 + 5)
      have f6 := hown.frozenAt (k * 7 + 6)
      have HS := Lib.hid (own_put7 hown (k * 7) (.int .i64 (-1)) (.int .i64 (k : Int)) (.int .i64 0) (.int .i64 0) (.int .i64 0) (.string ⟨#[]⟩) (.string ⟨#[]⟩))
      have HBE := Lib.hid hbel
      have i0 : (0 : Int) ≤ (k : Int) := by omega
      have i1 : (k : Int) < (n : Int) := by omega
      clear hown hz hc HO hbel
      go_wp2
      go_roundw
      case rel => exact ⟨k + 1, _, by omega, by go_num, HS.out.1, HBE.out.trans (below_of_grown HS.out.2 (by have := HBE.out.size; omega) (fun j hj => by injection hj with hj; subst hj; exact hgb))⟩
      case measure => simp [intOf]; omega
    · clear hnc hcm hAb HO
      obtain ⟨wo, hwo⟩ : ∃ wo : World, wo = wr := ⟨_, rfl⟩
      rw [← hwo] at hown hbel ⊢
      clear hwo
      go_wp2
      go_loopw [0, 4] (fun b i wr => ∃ (k : Nat) (zs : List Value), k ≤ 64 ∧ i = .int .i64 k ∧ wr.ownsRow base 31 7 b (n + k) zs ∧ Below base w wr) (fun _ i _ => 64 - (intOf i).toNat)
      case atStart => exact ⟨0, zs, Nat.zero_le _, rfl, hown, hbel⟩
      case round =>
        obtain ⟨j, ys, hj, rfl, hown', hbel'⟩ := hrel
        have hsz := hbel'.size
        by_cases hlt : j < 64
        · go_wp2_with (at_builtin; (refine pushR wr rfl (.tmp 20) (.tmp 22) rfl base u0 (n + j) ys rfl hown' ⟨-2, 0, 0, 0, 0, ⟨#[]⟩, ⟨#[]⟩⟩ _ rfl rfl (by omega) (by omega) ?_); intro v' w1 hown1 hg1 _)
          have hb1 := hbel'.trans (below_of_grown hg1 (by omega) (fun k hk => (hown'.lt k hk).1))
          clear hg1 hown'
          go_wp2
          go_roundw
          case rel => exact ⟨j + 1, _, by omega, by go_num, by rw [← Nat.add_assoc]; exact hown1, hb1⟩
          case measure => simp [intOf]; omega
        · have hj64 : j = 64 := by omega
          subst hj64
          obtain ⟨A', c', hv, _⟩ := own_shape hown'
          subst hv
          clear hown'
          go_wp2
          go_ret
          exact ⟨by go_num, hbel'⟩
end Go.Proofs.Ytjipebedibjoiaa
