/- chroniclelaw13.same, moved, back, marked. -/
import Derived.Test.YthcmkjiemlfpcaaSh5
namespace Go.Proofs.Ythcmkjiemlfpcaa
open Go Go.RowKit
set_option linter.unusedVariables false

def mv (x : Int) : Int := wrap64 (x + 1)

/-- One element more of a list has been put in another one's place. -/
theorem put_mid {α : Type} (us xs ys : List α) (k : Nat) (hu : us.length = k) (hk : k < xs.length) (y : α) :
    (us ++ (xs.drop k ++ ys)).set k y = (us ++ [y]) ++ (xs.drop (k + 1) ++ ys) := by
  rw [List.set_append_right _ _ (by omega), hu, Nat.sub_self, List.drop_eq_getElem_cons hk, List.cons_append, List.set_cons_zero, List.append_assoc]
  rfl
theorem get_mid' {α : Type} (us xs ys : List α) (k : Nat) (hu : us.length = k) (hk : k < xs.length) : (us ++ (xs.drop k ++ ys))[k]? = some xs[k] := by
  rw [List.getElem?_append_right (by omega), hu, Nat.sub_self, List.drop_eq_getElem_cons hk]
  rfl

set_option maxHeartbeats 400000 in
set_option maxRecDepth 100000 in
theorem moved_own (base g N cap n c : Nat) (xs ys : List Int) (w : World) (h : w.ownsRow base 2 1 (.slice (some ⟨g, 0, none⟩) N cap) N (i64s (xs ++ ys))) (hn : xs.length = n) (hl : n * 8 ≤ 140737488355328) :
    Calls Try.prog 23 #[.slice (some ⟨g, 0, none⟩) n c] w fun e w' =>
      e = .returned (.slice (some ⟨g, 0, none⟩) n c) ∧ w'.ownsRow base 2 1 (.slice (some ⟨g, 0, none⟩) N cap) N (i64s (xs.map mv ++ ys)) ∧ w.grownBy w' (some g) := by
  have hN := own64_n h
  simp only [List.length_append] at hN
  have Hn := Lib.hid hn
  have hxN : xs.length ≤ N := by omega
  clear hn hN
  go_enter Try.func23, Try.ntmps23
  go_wp2
  go_loopw [3] (fun i wr => ∃ k : Nat, k ≤ n ∧ i = .int .i64 k ∧ wr.ownsRow base 2 1 (.slice (some ⟨g, 0, none⟩) N cap) N (i64s ((xs.take k).map mv ++ (xs.drop k ++ ys))) ∧ w.grownBy wr (some g)) (fun i _ => n - (intOf i).toNat)
  case atStart => exact ⟨0, Nat.zero_le _, rfl, by simpa using h, ⟨rfl, rfl, rfl, Nat.le_refl _, fun _ _ _ => rfl⟩⟩
  case round =>
    obtain ⟨k, hk, rfl, hown, hg⟩ := hrel
    by_cases hlt : k < n
    · have hkx : k < xs.length := by rw [Hn.out]; exact hlt
      have hu : ((xs.take k).map mv).length = k := by simp; omega
      have hc := hown.cellAt k (by omega)
      rw [i64s_get, get_mid' _ xs ys k hu hkx] at hc
      have hf := hown.frozenAt k
      have hst := hown.stored k (.int .i64 (wrap64 (xs[k] + 1)))
      rw [i64s_set, put_mid _ xs ys k hu hkx] at hst
      have ht : (xs.take (k + 1)).map mv = (xs.take k).map mv ++ [wrap64 (xs[k] + 1)] := by rw [List.take_succ_eq_append_getElem hkx, List.map_append]; rfl
      rw [← ht] at hst
      obtain ⟨x, hx⟩ : ∃ x, x = xs[k] := ⟨_, rfl⟩
      rw [← hx] at hc hst
      have hc' : wr.cell? ⟨g, k, none⟩ = some (.int .i64 x) := hc
      have HS := Lib.hid hst
      clear hx hst hc hown ht hu
      go_wp2
      go_roundw
      case rel => exact ⟨k + 1, by omega, by go_num, HS.out.1, grown_trans hg HS.out.2⟩
      case measure => simp [intOf]; omega
    · have hkn : k = n := by omega
      have e1 : xs.take k = xs := List.take_of_length_le (by rw [Hn.out]; omega)
      have e2 : xs.drop k = [] := List.drop_eq_nil_of_le (by rw [Hn.out]; omega)
      rw [e1, e2, List.nil_append] at hown
      clear hkn e1 e2
      go_wp2
      go_ret
      exact ⟨rfl, hown, hg⟩

set_option maxHeartbeats 400000 in
set_option maxRecDepth 100000 in
theorem back_own (base g N cap n c c2 : Nat) (A : Option Addr) (xs ys zs : List Int) (w : World) (h : w.ownsRow base 2 1 (.slice (some ⟨g, 0, none⟩) N cap) N (i64s (xs ++ ys))) (hn : xs.length = n) (hz : zs.length = n) (hr : Rd w A (i64s zs)) (hA : zs ≠ [] → ∀ a, A = some a → a.block < base) (hg0 : base ≤ g) (hl : n * 8 ≤ 140737488355328) (hc2 : n ≤ c2) (hB : base ≤ w.heap.size) :
    Calls Try.prog 24 #[.slice (some ⟨g, 0, none⟩) n c, .slice A n c2] w fun e w' =>
      e = .returned (.tuple #[]) ∧ w'.ownsRow base 2 1 (.slice (some ⟨g, 0, none⟩) N cap) N (i64s (zs ++ ys)) ∧ w.grownBy w' (some g) := by
  have hN := own64_n h
  simp only [List.length_append] at hN
  have Hn := Lib.hid hn
  have Hz := Lib.hid hz
  have HR := Lib.hid hr
  have HAb := Lib.hid hA
  have hxN : xs.length ≤ N := by omega
  clear hn hN hz hr hA
  go_enter Try.func24, Try.ntmps24
  go_wp2
  go_loopw [4] (fun i wr => ∃ k : Nat, k ≤ n ∧ i = .int .i64 k ∧ wr.ownsRow base 2 1 (.slice (some ⟨g, 0, none⟩) N cap) N (i64s (zs.take k ++ (xs.drop k ++ ys))) ∧ w.grownBy wr (some g)) (fun i _ => n - (intOf i).toNat)
  case atStart => exact ⟨0, Nat.zero_le _, rfl, by simpa using h, ⟨rfl, rfl, rfl, Nat.le_refl _, fun _ _ _ => rfl⟩⟩
  case round =>
    obtain ⟨k, hk, rfl, hown, hg⟩ := hrel
    by_cases hlt : k < n
    · have hkx : k < xs.length := by rw [Hn.out]; exact hlt
      have hkz : k < zs.length := by rw [Hz.out]; exact hlt
      have hu : (zs.take k).length = k := by simp; omega
      have hc := hown.cellAt k (by omega)
      rw [i64s_get, get_mid' _ xs ys k hu hkx] at hc
      have hf := hown.frozenAt k
      have hst := hown.stored k (.int .i64 zs[k])
      rw [i64s_set, put_mid _ xs ys k hu hkx] at hst
      have ht : zs.take (k + 1) = zs.take k ++ [zs[k]] := List.take_succ_eq_append_getElem hkz
      rw [← ht] at hst
      obtain ⟨gA, oA, rfl, hgA, hcA0⟩ := HR.out.i64 (List.getElem?_eq_getElem hkz)
      have hgAb := HAb.out (by intro h; rw [h] at hkz; simp at hkz) _ rfl
      have hcA := hg.cell hcA0 (fun e => by simp only [Option.some.injEq] at e hgAb; omega)
      obtain ⟨x, hx⟩ : ∃ x, x = xs[k] := ⟨_, rfl⟩
      obtain ⟨z, hz⟩ : ∃ z, z = zs[k] := ⟨_, rfl⟩
      rw [← hx] at hc
      rw [← hz] at hst hcA
      have hc' : wr.cell? ⟨g, k, none⟩ = some (.int .i64 x) := hc
      have HS := Lib.hid hst
      have hne : gA ≠ g := by simp only at hgAb; omega
      clear hx hst hc hown ht hu hz hcA0 hgAb
      go_wp2
      go_roundw
      case rel => exact ⟨k + 1, by omega, by go_num, HS.out.1, grown_trans hg HS.out.2⟩
      case measure => simp [intOf]; omega
    · have hkn : k = n := by omega
      have e1 : zs.take k = zs := List.take_of_length_le (by rw [Hz.out]; omega)
      have e2 : xs.drop k = [] := List.drop_eq_nil_of_le (by rw [Hn.out]; omega)
      rw [e1, e2, List.nil_append] at hown
      clear hkn e1 e2
      go_wp2
      go_end0
      exact ⟨rfl, hown, hg⟩

set_option maxHeartbeats 400000 in
set_option maxRecDepth 100000 in
theorem marked64_own (base n : Nat) (v : Value) (xs : List Int) (w : World) (h : w.ownsRow base 2 1 v n (i64s xs)) (hl : n * 8 ≤ 140737488351232) (hb : base ≤ w.heap.size) :
    Calls Try.prog 25 #[v] w fun e w' => e = .returned (.int .i64 ((n + 64 : Nat) : Int)) ∧ Below base w w' := by
  obtain ⟨A, c, rfl, hnc, hcm, hAb⟩ := own_shape h
  have hx := own64_n h
  have HX := Lib.hid hx
  clear hx
  go_enter Try.func25, Try.ntmps25
  go_wp2
  go_loopw [3] (fun i wr => ∃ (k : Nat) (zs : List Int), k ≤ n ∧ i = .int .i64 k ∧ wr.ownsRow base 2 1 (.slice A n c) n (i64s zs) ∧ Below base w wr) (fun i _ => n - (intOf i).toNat)
  case atStart => exact ⟨0, xs, Nat.zero_le _, rfl, h, Below.refl _ _⟩
  case round =>
    obtain ⟨k, zs, hk, rfl, hown, hbel⟩ := hrel
    by_cases hlt : k < n
    · have hz := own64_n hown
      obtain ⟨g, off, rfl, hg, hcell⟩ := (rd_own hown).i64 (List.getElem?_eq_getElem (show k < zs.length by omega))
      have hoff : off = 0 := by
        rcases hown.2 with ⟨hv, _⟩ | ⟨g', cap, cur, hv, _⟩
        · simp at hv
        · simp at hv; exact hv.1.2
      subst hoff
      have hf := hown.frozenAt k
      have hst := hown.stored k (.int .i64 (-1 - (k : Int)))
      rw [i64s_set] at hst
      have hgb := (hAb _ rfl).1
      rw [Nat.zero_add] at hcell
      obtain ⟨x, hx⟩ : ∃ x, x = zs[k] := ⟨_, rfl⟩
      rw [← hx] at hcell
      have HS := Lib.hid hst
      clear hst hown hx hz
      go_wp2
      go_roundw
      case rel => exact ⟨k + 1, _, by omega, by go_num, HS.out.1, hbel.trans (below_of_grown HS.out.2 (by have := hbel.size; omega) (fun j hj => by injection hj with hj; subst hj; exact hgb))⟩
      case measure => simp [intOf]; omega
    · clear hnc hcm hAb h HX
      obtain ⟨wo, hwo⟩ : ∃ wo : World, wo = wr := ⟨_, rfl⟩
      rw [← hwo] at hown hbel ⊢
      clear hwo
      go_wp2
      go_loopw [0, 4] (fun b i wr => ∃ (k : Nat) (zs : List Int), k ≤ 64 ∧ i = .int .i64 k ∧ wr.ownsRow base 2 1 b (n + k) (i64s zs) ∧ Below base w wr) (fun _ i _ => 64 - (intOf i).toNat)
      case atStart => exact ⟨0, zs, Nat.zero_le _, rfl, hown, hbel⟩
      case round =>
        obtain ⟨j, ys, hj, rfl, hown', hbel'⟩ := hrel
        have hsz := hbel'.size
        by_cases hlt : j < 64
        · go_wp2_with (at_builtin; (refine push64 wr rfl (.tmp 20) (.tmp 21) rfl base u0 (n + j) ys rfl hown' (-99) rfl (by omega) (by omega) ?_); intro v' w1 hown1 hg1 _)
          have hb1 := hbel'.trans (below_of_grown hg1 (by omega) (fun k hk => (hown'.lt k hk).1))
          clear hg1 hown'
          go_wp2
          go_roundw
          case rel => exact ⟨j + 1, _, by omega, by go_num, by rw [← Nat.add_assoc]; exact hown1, hb1⟩
          case measure => simp [intOf]; omega
        · have hj64 : j = 64 := by omega
          subst hj64
          obtain ⟨A', c', hv, _⟩ := own_shape hown'
          have HV := Lib.hid hv
          clear hv
          subst u0
          go_wp2
          go_ret
          exact ⟨rfl, hbel'⟩

set_option maxHeartbeats 400000 in
set_option maxRecDepth 100000 in
theorem same64_yes (A B : Option Addr) (n c d : Nat) (xs : List Int) (w : World) (ha : Rd w A (i64s xs)) (hb : Rd w B (i64s xs)) (hn : xs.length = n) (hl : n * 8 ≤ 140737488355328) (hc : n ≤ c) (hd : n ≤ d) :
    Calls Try.prog 27 #[.slice A n c, .slice B n d] w fun e w' => e = .returned (.bool true) ∧ ∃ k, w' = w.drewN k := by
  have HA := Lib.hid ha
  have HB := Lib.hid hb
  have HN := Lib.hid hn
  clear ha hb hn
  go_enter Try.func27, Try.ntmps27
  go_wp2
  go_loopw [5] (fun i wr => ∃ k m : Nat, k ≤ n ∧ i = .int .i64 k ∧ wr = w.drewN m) (fun i _ => n - (intOf i).toNat)
  case atStart => exact ⟨0, 0, Nat.zero_le _, rfl, rfl⟩
  case round =>
    obtain ⟨k, m, hk, rfl, rfl⟩ := hrel
    by_cases hlt : k < n
    · have hkx : k < xs.length := by rw [HN.out]; exact hlt
      obtain ⟨x, hx⟩ : ∃ x, xs[k]? = some x := ⟨_, List.getElem?_eq_getElem hkx⟩
      obtain ⟨g, off, rfl, hg, hc1⟩ := HA.out.i64 hx
      obtain ⟨g', off', rfl, hg', hc2⟩ := HB.out.i64 hx
      have h0 : (0 : Int) ≤ (k : Int) := by omega
      have h1 : (k : Int) < (n : Int) := by omega
      clear hx hkx
      go_wp2
      go_quiet (fail)
      go_wp2
      go_roundw
      case rel => exact ⟨k + 1, _, by omega, by go_num, rfl⟩
      case measure => simp [intOf]; omega
    · go_wp2
      go_ret
      exact ⟨rfl, m, rfl⟩
end Go.Proofs.Ythcmkjiemlfpcaa
