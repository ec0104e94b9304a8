/- quota.Spread. -/
import Derived.Test.YthcmkjiemlfpcaaSpSt
import Derived.Deep.CutRange
namespace Go.Proofs.Ythcmkjiemlfpcaa
open Go Go.RowKit
set_option linter.unusedVariables false
set_option linter.unusedSimpArgs false

theorem spmul_bd {t x : Int} (h1 : 0 ≤ t) (h2 : t ≤ 1099511627776) (h3 : 0 ≤ x) (h4 : x ≤ 1048576) : 0 ≤ t * x ∧ t * x ≤ 1152921504606846976 :=
  ⟨Int.mul_nonneg h1 h3, Int.le_trans (Int.mul_le_mul h2 h4 h3 (by omega)) (by omega)⟩
/-- A weight that may be. -/
def wOk (x : Int) : Prop := 0 ≤ x ∧ x ≤ 1048576
theorem sum_pre {l : List Int} {k : Nat} (h : ∀ x ∈ l.take k, wOk x) (hl : l.length ≤ 64) : 0 ≤ (l.take k).sum ∧ (l.take k).sum ≤ 67108864 := by
  have := sum_bd (l := l.take k) (M := 1048576) h
  have h2 : (l.take k).length ≤ 64 := by simp; omega
  omega
theorem take_ok {l : List Int} {k : Nat} {x : Int} (h : ∀ y ∈ l.take k, wOk y) (hx : l[k]? = some x) (hxo : wOk x) : ∀ y ∈ l.take (k + 1), wOk y := by
  obtain ⟨hk, rfl⟩ := List.getElem?_eq_some_iff.1 hx
  rw [List.take_succ_eq_append_getElem hk]
  intro y hy
  rcases List.mem_append.1 hy with h1 | h1
  · exact h y h1
  · rw [List.mem_singleton.1 h1]; exact hxo
set_option maxHeartbeats 2000000 in
set_option maxRecDepth 100000 in
theorem spread_bad (A : Option Addr) (c n : Nat) (l : List Int) (total : Int) (w : World) (hr : Rd w A (i64s l)) (hn : l.length = n) (hs : ¬ spOk total l) (hn8 : n * 8 ≤ 140737488351232) :
    Calls Try.prog 28 #[.int .i64 total, .slice A n c] w fun e w' => e = .returned (.tuple #[.slice none 0 0, .int .i64 131]) ∧ Below w.heap.size w w' := by
  have HR := Lib.hid hr
  have HN := Lib.hid hn
  have HS := Lib.hid hs
  clear hr hn hs
  by_cases hl : n ≤ 64
  · have hgt : decide ((64 : Int) < (n : Int)) = false := decide_eq_false (by omega)
    by_cases ht : 0 ≤ total ∧ total ≤ 1099511627776
    · have IT := inside_yes ht.1 ht.2
      have HT := Lib.hid ht
      clear ht
      go_enter Try.func28, Try.ntmps28
      go_wp2_with (go_at_call 30; refine (within_is _ _ _ true _ IT).mono ?_; rintro e w' ⟨rfl, rfl⟩)
      go_loopw [27, 6] (fun iv sv wr => ∃ k : Nat, k ≤ n ∧ iv = .int .i64 k ∧ sv = .int .i64 (l.take k).sum ∧ Hid (wr = w) ∧ Hid (∀ x ∈ l.take k, wOk x)) (fun iv _ _ => n - (intOf iv).toNat)
      case atStart => exact ⟨0, Nat.zero_le _, rfl, rfl, Lib.hid rfl, Lib.hid (fun x hx => by simp at hx)⟩
      case round =>
        obtain ⟨k, hk, rfl, rfl, HW, HP⟩ := hrel
        have hsb := sum_pre HP.out (by rw [HN.out]; exact hl)
        by_cases hlt : k < n
        · obtain ⟨x, hx⟩ : ∃ x, l[k]? = some x := ⟨_, List.getElem?_eq_getElem (by rw [HN.out]; exact hlt)⟩
          obtain ⟨g, off, rfl, hg, hcell0⟩ := HR.out.i64 hx
          have hcell : wr.cell? ⟨g, off + k, none⟩ = some (.int .i64 x) := by rw [HW.out]; exact hcell0
          have i0 : (0 : Int) ≤ (k : Int) := by omega
          have i1 : (k : Int) < (n : Int) := by omega
          have HSUM := Lib.hid (sum_take_succ hx)
          obtain ⟨s, hs⟩ : ∃ s, s = (l.take k).sum := ⟨_, rfl⟩
          rw [← hs] at hsb HSUM ⊢
          by_cases hxo : 0 ≤ x ∧ x ≤ 1048576
          · have IX := inside_yes hxo.1 hxo.2
            have HPN := Lib.hid (take_ok HP.out hx hxo)
            have e1 : IntKind.i64.wrap (s + x) = s + x := IntWalk.i64_in _ (by omega)
            clear hx hcell0 hs hxo
            go_wp2_with (go_at_call 30; refine (within_is _ _ _ true _ IX).mono ?_; rintro e w' ⟨rfl, rfl⟩)
            clear e1
            go_roundw
            case rel => exact ⟨k + 1, by omega, by go_num, by rw [HSUM.out], HW, HPN⟩
            case measure => simp [intOf]; omega
          · have IX := inside_no hxo
            clear hx hcell0 hs hxo
            go_wp2_with (go_at_call 30; refine (within_is _ _ _ false _ IX).mono ?_; rintro e w' ⟨rfl, rfl⟩)
            go_ret2
            exact ⟨rfl, HW.out ▸ Below.refl _ _⟩
        · have hkn : k = n := by omega
          have e1 : l.take k = l := List.take_of_length_le (by rw [HN.out]; omega)
          have HZ : Hid ((l.take k).sum = 0) := Lib.hid (by
            rw [e1]
            exact Classical.byContradiction fun hne => HS.out ⟨by rw [HN.out]; exact hl, HT.out, fun y hy => HP.out y (by rw [e1]; exact hy), hne⟩)
          have hz0 : ((l.take k).sum == 0) = true := by rw [HZ.out]; rfl
          subst hkn
          clear e1 hsb
          go_wp2
          go_ret2
          exact ⟨rfl, HW.out ▸ Below.refl _ _⟩
    · have IT := inside_no ht
      clear ht
      go_enter Try.func28, Try.ntmps28
      go_wp2_with (go_at_call 30; refine (within_is _ _ _ false _ IT).mono ?_; rintro e w' ⟨rfl, rfl⟩)
      go_ret2
      exact ⟨rfl, Below.refl _ _⟩
  · have hgt : decide ((64 : Int) < (n : Int)) = true := decide_eq_true (by omega)
    go_enter Try.func28, Try.ntmps28
    go_wp2
    go_ret2
    exact ⟨rfl, Below.refl _ _⟩
end Go.Proofs.Ythcmkjiemlfpcaa
