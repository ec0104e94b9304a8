/- chroniclelaw1.roomy, flipped, marked: what they do to memory. -/
import Derived.Test.YtmdpncjffikmiaaApp8
namespace Go.Proofs.Ytmdpncjffikmiaa
open Go Go.RowKit

def fl (b : Nat) : Nat := 255 - b
theorem fl_fl {b : Nat} (h : b < 256) : fl (fl b) = b := by unfold fl; omega
theorem fl_lt (b : Nat) : fl b < 256 := by unfold fl; omega
theorem map_fl_fl {bs : List Nat} (h : By bs) : (bs.map fl).map fl = bs := by
  rw [List.map_map]
  refine (List.map_congr_left (fun b hb => ?_)).trans (List.map_id _)
  exact fl_fl (h b hb)
theorem by_fl (bs : List Nat) : By (bs.map fl) := fun b hb => by
  obtain ⟨c, _, rfl⟩ := List.mem_map.1 hb
  exact fl_lt c
theorem xor255 : ∀ x : Fin 256, (x.val ^^^ 255) = 255 - x.val := by decide +kernel
theorem bits_fl {x : Nat} (h : x < 256) : bits .xor .u8 (x : Int) 255 = ((fl x : Nat) : Int) := by
  refine (u8_xor_nat x 255 h (by omega)).trans ?_
  rw [xor255 ⟨x, h⟩]
  rfl

/-- One element more of a list has been turned. -/
theorem set_mid {α : Type} (f : α → α) (xs ys : List α) (k : Nat) (hk : k < xs.length) :
    ((xs.take k).map f ++ (xs.drop k ++ ys)).set k (f xs[k]) = (xs.take (k + 1)).map f ++ (xs.drop (k + 1) ++ ys) := by
  have hl : ((xs.take k).map f).length = k := by simp; omega
  rw [List.set_append_right _ _ (by omega), hl, Nat.sub_self, List.drop_eq_getElem_cons hk, List.take_succ_eq_append_getElem hk]
  simp only [List.map_append, List.map_cons, List.map_nil, List.cons_append, List.set_cons_zero, List.append_assoc, List.nil_append]

theorem get_mid {α : Type} (f : α → α) (xs ys : List α) (k : Nat) (hk : k < xs.length) : ((xs.take k).map f ++ (xs.drop k ++ ys))[k]? = some xs[k] := by
  have hl : ((xs.take k).map f).length = k := by simp; omega
  rw [List.getElem?_append_right (by omega), hl, Nat.sub_self, List.drop_eq_getElem_cons hk]
  rfl

theorem b8_set (bs : List Nat) (k b : Nat) : (b8 bs).set k (.int .u8 (b : Int)) = b8 (bs.set k b) := by simp [b8, List.map_set]

end Go.Proofs.Ytmdpncjffikmiaa
