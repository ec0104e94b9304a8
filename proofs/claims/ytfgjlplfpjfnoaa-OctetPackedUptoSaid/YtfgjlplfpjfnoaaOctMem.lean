/- chroniclelaw1.roomy, flipped, marked: what they do to memory. -/
import Derived.Test.YtfgjlplfpjfnoaaApp8
namespace Go.Proofs.Ytfgjlplfpjfnoaa
open Go Go.RowKit

set_option maxHeartbeats 400000 in
theorem roomy_any (A : Option Addr) (n c : Nat) (bs : List Nat) (w : World) (hr : Rd w A (b8 bs)) (hn : bs.length = n) (hl : n ≤ 140737488351232) :
    Calls Try.prog 21 #[.slice A n c] w fun e w' => Got8 w w' e (bs ++ [165, 90, 167, 91]) := by
  have h0 := own_lit w w.heap.size [] 5 0 (Nat.le_refl _) (by decide) rfl
  have hr1 : Rd (w.alloc (.cells [].toArray 5)) A (b8 bs) := hr.below ((Below.refl _ _).alloc (Nat.le_refl _) _)
  have HN := Lib.hid hn
  clear hn
  go_enter Try.func21, Try.ntmps21
  go_wp2_with (first
    | (at_builtin; (refine app8 _ rfl (.tmp 4) (.tmp 5) rfl w.heap.size _ 0 [] rfl h0 A n c bs rfl HN.out hr1 (by omega) (by simp) ?_); intro v1 w1 hown1 hg1 _)
    | (at_builtin; (refine app8 _ rfl (.tmp 7) (.tmp 8) rfl w.heap.size v1 _ bs rfl (hown1.alloc _) (some ⟨w1.heap.size, 0, none⟩) 4 4 [165, 90, 167, 91] rfl rfl (rd_lit w1 _ _) (by omega) (by have := hg1.size; simp at this ⊢; omega) ?_); intro v2 w2 hown2 hg2 _))
  go_ret
  refine got8_mk hown2 (by simp; have := HN.out; omega) rfl ?_
  have b1 : Below w.heap.size w w1 := ((Below.refl _ _).alloc (Nat.le_refl _) _).trans (below_of_grown hg1 (by simp) (fun k hk => (h0.lt k hk).1))
  exact (b1.alloc b1.size _).trans (below_of_grown hg2 (by have := b1.size; simp; omega) (fun k hk => (hown1.lt k hk).1))

def fl (b : Nat) : Nat := 255 - b
theorem fl_fl {b : Nat} (h : b < 256) : fl (fl b) = b := by unfold fl; omega
theorem fl_lt (b : Nat) : fl b < 256 := by unfold fl; omega
theorem map_fl_fl {bs : List Nat} (h : By bs) : (bs.map fl).map fl = bs := by
  rw [List.map_map]
  refine (List.map_congr_left (fun b hb => ?_)).trans (List.map_id _)
  exact fl_fl (h b hb)
theorem by_fl (bs : List Nat) : By (bs.map fl) := fun b hb => by
  obtain ⟨c, _, rfl⟩ := List.mem_map.1 hb
  exact fl_lt c
theorem xor255 : ∀ x : Fin 256, (x.val ^^^ 255) = 255 - x.val := by decide +kernel
theorem bits_fl {x : Nat} (h : x < 256) : bits .xor .u8 (x : Int) 255 = ((fl x : Nat) : Int) := by
  refine (u8_xor_nat x 255 h (by omega)).trans ?_
  rw [xor255 ⟨x, h⟩]
  rfl

/-- One element more of a list has been turned. -/
theorem set_mid {α : Type} (f : α → α) (xs ys : List α) (k : Nat) (hk : k < xs.length) :
    ((xs.take k).map f ++ (xs.drop k ++ ys)).set k (f xs[k]) = (xs.take (k + 1)).map f ++ (xs.drop (k + 1) ++ ys) := by
  have hl : ((xs.take k).map f).length = k := by simp; omega
  rw [List.set_append_right _ _ (by omega), hl, Nat.sub_self, List.drop_eq_getElem_cons hk, List.take_succ_eq_append_getElem hk]
  simp only [List.map_append, List.map_cons, List.map_nil, List.cons_append, List.set_cons_zero, List.append_assoc, List.nil_append]

theorem get_mid {α : Type} (f : α → α) (xs ys : List α) (k : Nat) (hk : k < xs.length) : ((xs.take k).map f ++ (xs.drop k ++ ys))[k]? = some xs[k] := by
  have hl : ((xs.take k).map f).length = k := by simp; omega
  rw [List.getElem?_append_right (by omega), hl, Nat.sub_self, List.drop_eq_getElem_cons hk]
  rfl

theorem b8_set (bs : List Nat) (k b : Nat) : (b8 bs).set k (.int .u8 (b : Int)) = b8 (bs.set k b) := by simp [b8, List.map_set]

set_option maxHeartbeats 400000 in
set_option maxRecDepth 100000 in
theorem flipped_own (base g N cap n c : Nat) (xs ys : List Nat) (w : World) (h : w.ownsRow base 5 1 (.slice (some ⟨g, 0, none⟩) N cap) N (b8 (xs ++ ys))) (hby : By xs) (hn : xs.length = n) (hl : n ≤ 140737488355328) :
    Calls Try.prog 22 #[.slice (some ⟨g, 0, none⟩) n c] w fun e w' =>
      e = .returned (.slice (some ⟨g, 0, none⟩) n c) ∧ w'.ownsRow base 5 1 (.slice (some ⟨g, 0, none⟩) N cap) N (b8 (xs.map fl ++ ys)) ∧ w.grownBy w' (some g) := by
  have hN := own8_n h
  simp only [List.length_append] at hN
  have HN := Lib.hid hN
  have Hn := Lib.hid hn
  have hxN : xs.length ≤ N := by omega
  clear hn hN
  go_enter Try.func22, Try.ntmps22
  go_wp2
  go_loopw [3] (fun i wr => ∃ k : Nat, k ≤ n ∧ i = .int .i64 k ∧ wr.ownsRow base 5 1 (.slice (some ⟨g, 0, none⟩) N cap) N (b8 ((xs.take k).map fl ++ (xs.drop k ++ ys))) ∧ w.grownBy wr (some g)) (fun i _ => n - (intOf i).toNat)
  case atStart => exact ⟨0, Nat.zero_le _, rfl, by simpa using h, ⟨rfl, rfl, rfl, Nat.le_refl _, fun _ _ _ => rfl⟩⟩
  case round =>
    obtain ⟨k, hk, rfl, hown, hg⟩ := hrel
    by_cases hlt : k < n
    · have hkx : k < xs.length := by rw [Hn.out]; exact hlt
      have hc := hown.cellAt k (by omega)
      rw [b8_get, get_mid fl xs ys k hkx] at hc
      have hf := hown.frozenAt k
      have hst := hown.stored k (.int .u8 ((fl xs[k] : Nat) : Int))
      rw [b8_set, set_mid fl xs ys k hkx, ← bits_fl (hby _ (List.getElem_mem hkx))] at hst
      obtain ⟨x, hx⟩ : ∃ x, x = xs[k] := ⟨_, rfl⟩
      rw [← hx] at hc hst
      have hc' : wr.cell? ⟨g, k, none⟩ = some (.int .u8 (x : Int)) := hc
      have HS := Lib.hid hst
      clear hx hst hc hown
      go_wp2
      go_roundw
      case rel => exact ⟨k + 1, by omega, by go_num, HS.out.1, grown_trans hg HS.out.2⟩
      case measure => simp [intOf]; omega
    · have hkn : k = n := by omega
      have e1 : xs.take k = xs := List.take_of_length_le (by rw [Hn.out]; omega)
      have e2 : xs.drop k = [] := List.drop_eq_nil_of_le (by rw [Hn.out]; omega)
      rw [e1, e2, List.nil_append] at hown
      clear hkn e1 e2
      go_wp2
      go_ret
      exact ⟨rfl, hown, hg⟩

set_option maxHeartbeats 400000 in
set_option maxRecDepth 100000 in
theorem marked_own (base n : Nat) (v : Value) (xs : List Nat) (m : Nat) (w : World) (h : w.ownsRow base 5 1 v n (b8 xs)) (hl : n ≤ 140737488351232) (hb : base ≤ w.heap.size) :
    Calls Try.prog 23 #[v, .int .u8 (m : Int)] w fun e w' => ∃ A c, e = .returned (.slice A (n + 64) c) ∧ Below base w w' := by
  obtain ⟨A, c, rfl, hnc, hcm, hAb⟩ := own_shape h
  have hx := own8_n h
  have HX := Lib.hid hx
  clear hx
  go_enter Try.func23, Try.ntmps23
  go_wp2
  go_loopw [5] (fun i wr => ∃ (k : Nat) (zs : List Nat), k ≤ n ∧ i = .int .i64 k ∧ wr.ownsRow base 5 1 (.slice A n c) n (b8 zs) ∧ Below base w wr) (fun i _ => n - (intOf i).toNat)
  case atStart => exact ⟨0, xs, Nat.zero_le _, rfl, h, Below.refl _ _⟩
  case round =>
    obtain ⟨k, zs, hk, rfl, hown, hbel⟩ := hrel
    by_cases hlt : k < n
    · have hz := own8_n hown
      obtain ⟨g, off, rfl, hg, hcell⟩ := (rd_own hown).at_ (List.getElem?_eq_getElem (show k < zs.length by omega))
      have hoff : off = 0 := by
        rcases hown.2 with ⟨hv, _⟩ | ⟨g', cap, cur, hv, _⟩
        · simp at hv
        · simp at hv; exact hv.1.2
      subst hoff
      have hf := hown.frozenAt k
      have hst := hown.stored k (.int .u8 (m : Int))
      rw [b8_set] at hst
      have hgb := (hAb _ rfl).1
      rw [Nat.zero_add] at hcell
      obtain ⟨x, hx⟩ : ∃ x, x = zs[k] := ⟨_, rfl⟩
      rw [← hx] at hcell
      have HS := Lib.hid hst
      clear hst hown hx hz
      go_wp2
      go_roundw
      case rel => exact ⟨k + 1, _, by omega, by go_num, HS.out.1, hbel.trans (below_of_grown HS.out.2 (by have := hbel.size; omega) (fun j hj => by injection hj with hj; subst hj; exact hgb))⟩
      case measure => simp [intOf]; omega
    · clear hnc hcm hAb h HX
      obtain ⟨wo, hwo⟩ : ∃ wo : World, wo = wr := ⟨_, rfl⟩
      rw [← hwo] at hown hbel ⊢
      clear hwo
      go_wp2
      go_loopw [0, 6] (fun b i wr => ∃ (k : Nat) (zs : List Nat), k ≤ 64 ∧ i = .int .i64 k ∧ wr.ownsRow base 5 1 b (n + k) (b8 zs) ∧ Below base w wr) (fun _ i _ => 64 - (intOf i).toNat)
      case atStart => exact ⟨0, zs, Nat.zero_le _, rfl, hown, hbel⟩
      case round =>
        obtain ⟨j, ys, hj, rfl, hown', hbel'⟩ := hrel
        have hsz := hbel'.size
        by_cases hlt : j < 64
        · go_wp2_with (at_builtin; (refine push8 wr rfl (.tmp 21) (.tmp 23) rfl base u0 (n + j) ys rfl hown' _ m rfl rfl (by omega) (by omega) ?_); intro v' w1 hown1 hg1 _)
          have hb1 := hbel'.trans (below_of_grown hg1 (by omega) (fun k hk => (hown'.lt k hk).1))
          clear hg1 hown'
          go_wp2
          go_roundw
          case rel => exact ⟨j + 1, _, by omega, by go_num, by rw [← Nat.add_assoc]; exact hown1, hb1⟩
          case measure => simp [intOf]; omega
        · have hj64 : j = 64 := by omega
          subst hj64
          obtain ⟨A', c', hv, _⟩ := own_shape hown'
          have HV := Lib.hid hv
          clear hv
          go_wp2
          go_ret
          exact ⟨A', c', by rw [HV.out]; rfl, hbel'⟩
end Go.Proofs.Ytfgjlplfpjfnoaa
