/- Writers: U64, Text, Bytes, Len. -/
import Derived.Test.YtmdpncjffikmiaaWr2
namespace Go.Proofs.Ytmdpncjffikmiaa
open Go Go.RowKit
set_option linter.unusedVariables false


theorem bytes_w (base g : Nat) (v : Value) (xs : List Nat) (w : World) (h : Wr base w 84 g v xs) (hl : xs.length ≤ 140737488351232) :
    Calls Try.prog 70 #[.pointer (some ⟨g, 0, none⟩)] w fun e w' => Got8 w w' e xs := by
  have hc := cell_of_one h.cell
  have hglt := h.lt
  obtain ⟨A, c, rfl, hcn, _, _⟩ := own_shape h.own
  have HR := Lib.hid (rd_own h.own)
  clear h
  go_enter Try.func70, Try.ntmps70
  go_wp2_with (at_builtin; (refine app8 w rfl (.const (.slice none 0 0)) (.tmp 8) rfl w.heap.size _ 0 [] rfl (World.ownsRow_nil _ _ _ _) A xs.length c xs rfl rfl HR.out (by omega) (Nat.le_refl _) ?_); intro v1 w1 ho hg _; have HO := Lib.hid ho; have HG := Lib.hid hg; clear ho hg)
  go_ret
  exact got8_mk HO.out (by omega) (by simp) (below_of_grown HG.out (Nat.le_refl _) (fun k hk => by cases hk))


end Go.Proofs.Ytmdpncjffikmiaa
