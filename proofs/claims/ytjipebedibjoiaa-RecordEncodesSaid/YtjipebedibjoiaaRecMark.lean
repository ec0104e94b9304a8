/- chroniclelaw4.marked. -/
import Derived.Test.YtjipebedibjoiaaF1
namespace Go.Proofs.Ytjipebedibjoiaa
open Go Go.RowKit
set_option linter.unusedVariables false
set_option linter.unusedSimpArgs false

set_option maxHeartbeats 400000 in
set_option maxRecDepth 100000 in
theorem marked4_own (base n : Nat) (v : Value) (xs : List Nat) (m : Nat) (w : World) (h : w.ownsRow base 5 1 v n (b8 xs)) (hl : n ≤ 140737488351232) (hb : base ≤ w.heap.size) :
    Calls Try.prog 23 #[v, .int .u8 (m : Int)] w fun e w' => e = .returned (.int .i64 ((n : Int) + 64)) ∧ Below base w w' := by
  obtain ⟨A, c, rfl, hnc, hcm, hAb⟩ := own_shape h
  have hx := own8_n h
  have HX := Lib.hid hx
  clear hx
  go_enter Try.func23, Try.ntmps23
  go_wp2
  go_loopw [5] (fun i wr => ∃ (k : Nat) (zs : List Nat), k ≤ n ∧ i = .int .i64 k ∧ wr.ownsRow base 5 1 (.slice A n c) n (b8 zs) ∧ Below base w wr) (fun i _ => n - (intOf i).toNat)
  case atStart => exact ⟨0, xs, Nat.zero_le _, rfl, h, Below.refl _ _⟩
  case round =>
    obtain ⟨k, zs, hk, rfl, hown, hbel⟩ := hrel
    by_cases hlt : k < n
    · have hz := own8_n hown
      obtain ⟨g, off, rfl, hg, hcell⟩ := (rd_own hown).at_ (List.getElem?_eq_getElem (show k < zs.length by omega))
      have hoff : off = 0 := by
        rcases hown.2 with ⟨hv, _⟩ | ⟨g', cap, cur, hv, _⟩
        · simp at hv
        · simp at hv; exact hv.1.2
      subst hoff
      have hf := hown.frozenAt k
      have hst := hown.stored k (.int .u8 (m : Int))
      rw [b8_set] at hst
      have hgb := (hAb _ rfl).1
      rw [Nat.zero_add] at hcell
      obtain ⟨x, hx⟩ : ∃ x, x = zs[k] := ⟨_, rfl⟩
      rw [← hx] at hcell
      have HS := Lib.hid hst
      clear hst hown hx hz
      go_wp2
      go_roundw
      case rel => exact ⟨k + 1, _, by omega, by go_num, HS.out.1, hbel.trans (below_of_grown HS.out.2 (by have := hbel.size; omega) (fun j hj => by injection hj with hj; subst hj; exact hgb))⟩
      case measure => simp [intOf]; omega
    · clear hnc hcm hAb h HX
      obtain ⟨wo, hwo⟩ : ∃ wo : World, wo = wr := ⟨_, rfl⟩
      rw [← hwo] at hown hbel ⊢
      clear hwo
      go_wp2
      go_loopw [0, 6] (fun b i wr => ∃ (k : Nat) (zs : List Nat), k ≤ 64 ∧ i = .int .i64 k ∧ wr.ownsRow base 5 1 b (n + k) (b8 zs) ∧ Below base w wr) (fun _ i _ => 64 - (intOf i).toNat)
      case atStart => exact ⟨0, zs, Nat.zero_le _, rfl, hown, hbel⟩
      case round =>
        obtain ⟨j, ys, hj, rfl, hown', hbel'⟩ := hrel
        have hsz := hbel'.size
        by_cases hlt : j < 64
        · go_wp2_with (at_builtin; (refine push8 wr rfl (.tmp 21) (.tmp 23) rfl base u0 (n + j) ys rfl hown' _ m rfl rfl (by omega) (by omega) ?_); intro v' w1 hown1 hg1 _)
          have hb1 := hbel'.trans (below_of_grown hg1 (by omega) (fun k hk => (hown'.lt k hk).1))
          clear hg1 hown'
          go_wp2
          go_roundw
          case rel => exact ⟨j + 1, _, by omega, by go_num, by rw [← Nat.add_assoc]; exact hown1, hb1⟩
          case measure => simp [intOf]; omega
        · have hj64 : j = 64 := by omega
          subst hj64
          obtain ⟨A', c', hv, _⟩ := own_shape hown'
          subst hv
          clear hown'
          go_wp2
          go_ret
          exact ⟨by go_num, hbel'⟩
end Go.Proofs.Ytjipebedibjoiaa
