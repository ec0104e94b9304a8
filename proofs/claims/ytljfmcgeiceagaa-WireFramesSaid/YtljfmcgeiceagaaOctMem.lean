/- chroniclelaw1.roomy, flipped, marked: what they do to memory. -/
import Derived.Test.YtljfmcgeiceagaaApp8
namespace Go.Proofs.Ytljfmcgeiceagaa
open Go Go.RowKit

set_option maxHeartbeats 400000 in
theorem roomy_any (A : Option Addr) (n c : Nat) (bs : List Nat) (w : World) (hr : Rd w A (b8 bs)) (hn : bs.length = n) (hl : n ≤ 140737488351232) :
    Calls Try.prog 9 #[.slice A n c] w fun e w' => Got8 w w' e (bs ++ [165, 90, 167, 91]) := by
  have h0 := own_lit w w.heap.size [] 5 0 (Nat.le_refl _) (by decide) rfl
  have hr1 : Rd (w.alloc (.cells [].toArray 5)) A (b8 bs) := hr.below ((Below.refl _ _).alloc (Nat.le_refl _) _)
  have HN := Lib.hid hn
  clear hn
  go_enter Try.func9, Try.ntmps9
  go_wp2_with (first
    | (at_builtin; (refine app8 _ rfl (.tmp 4) (.tmp 5) rfl w.heap.size _ 0 [] rfl h0 A n c bs rfl HN.out hr1 (by omega) (by simp) ?_); intro v1 w1 hown1 hg1 _)
    | (at_builtin; (refine app8 _ rfl (.tmp 7) (.tmp 8) rfl w.heap.size v1 _ bs rfl (hown1.alloc _) (some ⟨w1.heap.size, 0, none⟩) 4 4 [165, 90, 167, 91] rfl rfl (rd_lit w1 _ _) (by omega) (by have := hg1.size; simp at this ⊢; omega) ?_); intro v2 w2 hown2 hg2 _))
  go_ret
  refine got8_mk hown2 (by simp; have := HN.out; omega) rfl ?_
  have b1 : Below w.heap.size w w1 := ((Below.refl _ _).alloc (Nat.le_refl _) _).trans (below_of_grown hg1 (by simp) (fun k hk => (h0.lt k hk).1))
  exact (b1.alloc b1.size _).trans (below_of_grown hg2 (by have := b1.size; simp; omega) (fun k hk => (hown1.lt k hk).1))

def fl (b : Nat) : Nat := 255 - b
theorem fl_fl {b : Nat} (h : b < 256) : fl (fl b) = b := by unfold fl; omega
theorem fl_lt (b : Nat) : fl b < 256 := by unfold fl; omega
theorem map_fl_fl {bs : List Nat} (h : By bs) : (bs.map fl).map fl = bs := by
  rw [List.map_map]
  refine (List.map_congr_left (fun b hb => ?_)).trans (List.map_id _)
  exact fl_fl (h b hb)
theorem by_fl (bs : List Nat) : By (bs.map fl) := fun b hb => by
  obtain ⟨c, _, rfl⟩ := List.mem_map.1 hb
  exact fl_lt c
theorem xor255 : ∀ x : Fin 256, (x.val ^^^ 255) = 255 - x.val := by decide +kernel
theorem bits_fl {x : Nat} (h : x < 256) : bits .xor .u8 (x : Int) 255 = ((fl x : Nat) : Int) := by
  refine (u8_xor_nat x 255 h (by omega)).trans ?_
  rw [xor255 ⟨x, h⟩]
  rfl

/-- One element more of a list has been turned. -/
theorem set_mid {α : Type} (f : α → α) (xs ys : List α) (k : Nat) (hk : k < xs.length) :
    ((xs.take k).map f ++ (xs.drop k ++ ys)).set k (f xs[k]) = (xs.take (k + 1)).map f ++ (xs.drop (k + 1) ++ ys) := by
  have hl : ((xs.take k).map f).length = k := by simp; omega
  rw [List.set_append_right _ _ (by omega), hl, Nat.sub_self, List.drop_eq_getElem_cons hk, List.take_succ_eq_append_getElem hk]
  simp only [List.map_append, List.map_cons, List.map_nil, List.cons_append, List.set_cons_zero, List.append_assoc, List.nil_append]

theorem get_mid {α : Type} (f : α → α) (xs ys : List α) (k : Nat) (hk : k < xs.length) : ((xs.take k).map f ++ (xs.drop k ++ ys))[k]? = some xs[k] := by
  have hl : ((xs.take k).map f).length = k := by simp; omega
  rw [List.getElem?_append_right (by omega), hl, Nat.sub_self, List.drop_eq_getElem_cons hk]
  rfl

theorem b8_set (bs : List Nat) (k b : Nat) : (b8 bs).set k (.int .u8 (b : Int)) = b8 (bs.set k b) := by simp [b8, List.map_set]

set_option maxHeartbeats 400000 in
set_option maxRecDepth 100000 in
theorem flipped_own (base g N cap n c : Nat) (xs ys : List Nat) (w : World) (h : w.ownsRow base 5 1 (.slice (some ⟨g, 0, none⟩) N cap) N (b8 (xs ++ ys))) (hby : By xs) (hn : xs.length = n) (hl : n ≤ 140737488355328) :
    Calls Try.prog 11 #[.slice (some ⟨g, 0, none⟩) n c] w fun e w' =>
      e = .returned (.slice (some ⟨g, 0, none⟩) n c) ∧ w'.ownsRow base 5 1 (.slice (some ⟨g, 0, none⟩) N cap) N (b8 (xs.map fl ++ ys)) ∧ w.grownBy w' (some g) := by
  have hN := own8_n h
  simp only [List.length_append] at hN
  have HN := Lib.hid hN
  have Hn := Lib.hid hn
  have hxN : xs.length ≤ N := by omega
  clear hn hN
  go_enter Try.func11, Try.ntmps11
  go_wp2
  go_loopw [3] (fun i wr => ∃ k : Nat, k ≤ n ∧ i = .int .i64 k ∧ wr.ownsRow base 5 1 (.slice (some ⟨g, 0, none⟩) N cap) N (b8 ((xs.take k).map fl ++ (xs.drop k ++ ys))) ∧ w.grownBy wr (some g)) (fun i _ => n - (intOf i).toNat)
  case atStart => exact ⟨0, Nat.zero_le _, rfl, by simpa using h, ⟨rfl, rfl, rfl, Nat.le_refl _, fun _ _ _ => rfl⟩⟩
  case round =>
    obtain ⟨k, hk, rfl, hown, hg⟩ := hrel
    by_cases hlt : k < n
    · have hkx : k < xs.length := by rw [Hn.out]; exact hlt
      have hc := hown.cellAt k (by omega)
      rw [b8_get, get_mid fl xs ys k hkx] at hc
      have hf := hown.frozenAt k
      have hst := hown.stored k (.int .u8 ((fl xs[k] : Nat) : Int))
      rw [b8_set, set_mid fl xs ys k hkx, ← bits_fl (hby _ (List.getElem_mem hkx))] at hst
      obtain ⟨x, hx⟩ : ∃ x, x = xs[k] := ⟨_, rfl⟩
      rw [← hx] at hc hst
      have hc' : wr.cell? ⟨g, k, none⟩ = some (.int .u8 (x : Int)) := hc
      have HS := Lib.hid hst
      clear hx hst hc hown
      go_wp2
      go_roundw
      case rel => exact ⟨k + 1, by omega, by go_num, HS.out.1, grown_trans hg HS.out.2⟩
      case measure => simp [intOf]; omega
    · have hkn : k = n := by omega
      have e1 : xs.take k = xs := List.take_of_length_le (by rw [Hn.out]; omega)
      have e2 : xs.drop k = [] := List.drop_eq_nil_of_le (by rw [Hn.out]; omega)
      rw [e1, e2, List.nil_append] at hown
      clear hkn e1 e2
      go_wp2
      go_ret
      exact ⟨rfl, hown, hg⟩

end Go.Proofs.Ytljfmcgeiceagaa
