/- chronicleref13.Spread. -/
import Derived.Test.YthcmkjiemlfpcaaSpWalk2
namespace Go.Proofs.Ythcmkjiemlfpcaa
open Go Go.RowKit
set_option linter.unusedVariables false
set_option linter.unusedSimpArgs false

set_option maxHeartbeats 2000000 in
set_option maxRecDepth 100000 in
theorem rspread_bad (A : Option Addr) (c n : Nat) (l : List Int) (total : Int) (w : World) (hr : Rd w A (i64s l)) (hn : l.length = n) (hs : ¬ spOk total l) (hn8 : n * 8 ≤ 140737488351232) :
    Calls Try.prog 29 #[.int .i64 total, .slice A n c] w fun e w' => e = .returned (.tuple #[.slice none 0 0, .int .i64 131]) ∧ Below w.heap.size w w' := by
  have HR := Lib.hid hr
  have HN := Lib.hid hn
  have HS := Lib.hid hs
  clear hr hn hs
  by_cases hl : n ≤ 64
  · have hgt : decide ((64 : Int) < (n : Int)) = false := decide_eq_false (by omega)
    by_cases ht : 0 ≤ total ∧ total ≤ 1099511627776
    · have IT := inside_yes ht.1 ht.2
      have HT := Lib.hid ht
      clear ht
      go_enter Try.func29, Try.ntmps29
      go_wp2_with (go_at_call 31; refine (rwithin_is _ _ _ true _ IT).mono ?_; rintro e w' ⟨rfl, rfl⟩)
      go_loopw [7, 6] (fun iv sv wr => ∃ k : Nat, k ≤ n ∧ iv = .int .i64 k ∧ sv = .int .i64 (l.take k).sum ∧ Hid (wr = w) ∧ Hid (∀ x ∈ l.take k, wOk x)) (fun iv _ _ => n - (intOf iv).toNat)
      case atStart => exact ⟨0, Nat.zero_le _, rfl, rfl, Lib.hid rfl, Lib.hid (fun x hx => by simp at hx)⟩
      case round =>
        obtain ⟨k, hk, rfl, rfl, HW, HP⟩ := hrel
        have hsb := sum_pre HP.out (by rw [HN.out]; exact hl)
        by_cases hlt : k < n
        · obtain ⟨x, hx⟩ : ∃ x, l[k]? = some x := ⟨_, List.getElem?_eq_getElem (by rw [HN.out]; exact hlt)⟩
          obtain ⟨g, off, rfl, hg, hcell0⟩ := HR.out.i64 hx
          have hcell : wr.cell? ⟨g, off + k, none⟩ = some (.int .i64 x) := by rw [HW.out]; exact hcell0
          have i0 : (0 : Int) ≤ (k : Int) := by omega
          have i1 : (k : Int) < (n : Int) := by omega
          have HSUM := Lib.hid (sum_take_succ hx)
          obtain ⟨s, hs⟩ : ∃ s, s = (l.take k).sum := ⟨_, rfl⟩
          rw [← hs] at hsb HSUM ⊢
          by_cases hxo : 0 ≤ x ∧ x ≤ 1048576
          · have IX := inside_yes hxo.1 hxo.2
            have HPN := Lib.hid (take_ok HP.out hx hxo)
            have e1 : IntKind.i64.wrap (s + x) = s + x := IntWalk.i64_in _ (by omega)
            clear hx hcell0 hs hxo
            go_wp2_with (go_at_call 31; refine (rwithin_is _ _ _ true _ IX).mono ?_; rintro e w' ⟨rfl, rfl⟩)
            clear e1
            go_roundw
            case rel => exact ⟨k + 1, by omega, by go_num, by rw [HSUM.out], HW, HPN⟩
            case measure => simp [intOf]; omega
          · have IX := inside_no hxo
            clear hx hcell0 hs hxo
            go_wp2_with (go_at_call 31; refine (rwithin_is _ _ _ false _ IX).mono ?_; rintro e w' ⟨rfl, rfl⟩)
            go_ret2
            exact ⟨rfl, HW.out ▸ Below.refl _ _⟩
        · have hkn : k = n := by omega
          have e1 : l.take k = l := List.take_of_length_le (by rw [HN.out]; omega)
          have HZ : Hid ((l.take k).sum = 0) := Lib.hid (by
            rw [e1]
            exact Classical.byContradiction fun hne => HS.out ⟨by rw [HN.out]; exact hl, HT.out, fun y hy => HP.out y (by rw [e1]; exact hy), hne⟩)
          have hz0 : ((l.take k).sum == 0) = true := by rw [HZ.out]; rfl
          subst hkn
          clear e1 hsb
          go_wp2
          go_ret2
          exact ⟨rfl, HW.out ▸ Below.refl _ _⟩
    · have IT := inside_no ht
      clear ht
      go_enter Try.func29, Try.ntmps29
      go_wp2_with (go_at_call 31; refine (rwithin_is _ _ _ false _ IT).mono ?_; rintro e w' ⟨rfl, rfl⟩)
      go_ret2
      exact ⟨rfl, Below.refl _ _⟩
  · have hgt : decide ((64 : Int) < (n : Int)) = true := decide_eq_true (by omega)
    go_enter Try.func29, Try.ntmps29
    go_wp2
    go_ret2
    exact ⟨rfl, Below.refl _ _⟩

/-- Under way: the shares and the rests. -/
structure RpS (w W : World) (no nr : Nat) (xs rs : List Int) (vo vr : Value) : Prop where
  out : W.ownsRow w.heap.size 2 1 vo no (i64s xs)
  rst : W.ownsRow w.heap.size 2 1 vr nr (i64s rs)
  n1 : ∀ q, vo.ownBlock = some q → vr.ownBlock ≠ some q
  be : Below w.heap.size w W
section
variable {w W W' : World} {no nr : Nat} {xs rs : List Int} {vo vr v' : Value}
theorem RpS.start (w : World) : RpS w w 0 0 [] [] (.slice none 0 0) (.slice none 0 0) := ⟨World.ownsRow_nil _ _ _ _, World.ownsRow_nil _ _ _ _, fun q h => by simp [Value.ownBlock] at h, Below.refl _ _⟩
theorem RpS.pushO {z : Int} (h : RpS w W no nr xs rs vo vr) (ho : W'.ownsRow w.heap.size 2 1 v' (no + 1) (i64s (xs ++ [z]))) (hg : W.grownBy W' vo.ownBlock) (how : v'.ownBlock = vo.ownBlock ∨ ∃ k, v'.ownBlock = some k ∧ W.heap.size ≤ k) : RpS w W' (no + 1) nr (xs ++ [z]) rs v' vr :=
  ⟨ho, own_keepG h.rst hg h.n1, fun q hq => by
    rcases how with e | ⟨k, e, hk⟩
    · exact h.n1 q (e ▸ hq)
    · intro h2
      have := (h.rst.lt q h2).2
      rw [e] at hq
      injection hq with hq
      omega, h.be.trans (below_of_grown hg h.be.size (fun q hq => (h.out.lt q hq).1))⟩
theorem RpS.pushR {z : Int} (h : RpS w W no nr xs rs vo vr) (ho : W'.ownsRow w.heap.size 2 1 v' (nr + 1) (i64s (rs ++ [z]))) (hg : W.grownBy W' vr.ownBlock) (how : v'.ownBlock = vr.ownBlock ∨ ∃ k, v'.ownBlock = some k ∧ W.heap.size ≤ k) : RpS w W' no (nr + 1) xs (rs ++ [z]) vo v' :=
  ⟨own_keepG h.out hg (fun q hq h2 => h.n1 q h2 hq), ho, fun q hq h2 => by
    rcases how with e | ⟨k, e, hk⟩
    · exact h.n1 q hq (e ▸ h2)
    · have := (h.out.lt q hq).2
      rw [e] at h2
      injection h2 with h2
      omega, h.be.trans (below_of_grown hg h.be.size (fun q hq => (h.rst.lt q hq).1))⟩
theorem RpS.drewN (h : RpS w W no nr xs rs vo vr) (k : Nat) : RpS w (W.drewN k) no nr xs rs vo vr :=
  ⟨own_below h.out (below_drewN (Below.refl _ _) k), own_below h.rst (below_drewN (Below.refl _ _) k), h.n1, below_drewN h.be k⟩
theorem RpS.putO {g c n i : Nat} {z : Int} {ys : List Int} (h : RpS w W n nr xs rs (.slice (some ⟨g, 0, none⟩) n c) vr) (hy : xs.set i z = ys) : RpS w (W.setCell ⟨g, i, none⟩ (.int .i64 z)) n nr ys rs (.slice (some ⟨g, 0, none⟩) n c) vr := by
  have hb := h.out.lt g rfl
  have s1 := h.out.stored i (.int .i64 z)
  rw [i64s_set, hy] at s1
  exact ⟨s1.1, own_keepG h.rst s1.2 (fun q hq h2 => h.n1 q (by rw [← hq]; rfl) h2), h.n1, h.be.trans (below_of_grown s1.2 h.be.size (fun q hq => by injection hq with hq; omega))⟩
theorem RpS.cellO {n c g k : Nat} {x : Int} (h : RpS w W n nr xs rs (.slice (some ⟨g, 0, none⟩) n c) vr) (hk : k < n) (hx : xs[k]? = some x) : W.cell? ⟨g, k, none⟩ = some (.int .i64 x) := by
  have := h.out.cellAt k (by omega)
  rw [i64s_get, hx] at this
  simpa using this
theorem RpS.cellR {n c g k : Nat} {x : Int} (h : RpS w W no n xs rs vo (.slice (some ⟨g, 0, none⟩) n c)) (hk : k < n) (hx : rs[k]? = some x) : W.cell? ⟨g, k, none⟩ = some (.int .i64 x) := by
  have := h.rst.cellAt k (by omega)
  rw [i64s_get, hx] at this
  simpa using this
end
/-- The shares, the first k of them done. -/
def sprI (t : Int) (l : List Int) (k : Nat) : List Int := (spr t l).take k ++ (bas t l.sum l).drop k
theorem spr_get (t : Int) (l : List Int) {i : Nat} (hi : i < l.length) : (spr t l)[i]? = some (at0 (bas t l.sum l) i + if ((ahead (rst t l.sum l) i : Nat) : Int) < splft t l.sum l then 1 else 0) := by
  unfold spr
  rw [List.getElem?_map, List.getElem?_range hi]
  rfl
theorem sprI_old (t : Int) (l : List Int) {k : Nat} (hk : k < l.length) : (sprI t l k)[k]? = some (at0 (bas t l.sum l) k) := by
  obtain ⟨x, hx⟩ : ∃ x, l[k]? = some x := ⟨_, List.getElem?_eq_getElem hk⟩
  have hb := bas_get t l.sum hx
  have hkb : k < (bas t l.sum l).length := by rw [bas_length]; exact hk
  unfold sprI
  rw [List.getElem?_append_right (by rw [List.length_take]; omega), List.length_take, spr_length, Nat.min_eq_left (Nat.le_of_lt hk), Nat.sub_self, List.drop_eq_getElem_cons hkb]
  simp only [List.getElem?_cons_zero]
  rw [at0_of hb]
  rw [List.getElem?_eq_getElem hkb] at hb
  exact hb
theorem sprI_step (t : Int) (l : List Int) {k : Nat} (hk : k < l.length) : (sprI t l k).set k (at0 (bas t l.sum l) k + if ((ahead (rst t l.sum l) k : Nat) : Int) < splft t l.sum l then 1 else 0) = sprI t l (k + 1) := by
  have hkb : k < (bas t l.sum l).length := by rw [bas_length]; exact hk
  have hks : k < (spr t l).length := by rw [spr_length]; exact hk
  have hs := spr_get t l hk
  unfold sprI
  rw [List.drop_eq_getElem_cons hkb, set_at _ _ k (by rw [List.length_take, spr_length]; omega), take_snoc' hs, List.append_assoc]
  rfl
theorem sprI_stay (t : Int) (l : List Int) {k : Nat} (hk : k < l.length) (h : ¬ ((ahead (rst t l.sum l) k : Nat) : Int) < splft t l.sum l) : sprI t l k = sprI t l (k + 1) := by
  rw [← sprI_step t l hk, if_neg h, Int.add_zero]
  have h2 := sprI_old t l hk
  obtain ⟨hl, he⟩ := List.getElem?_eq_some_iff.1 h2
  rw [← he, List.set_getElem_self]
/-- How many of the first m stand ahead. -/
def cnt (r : List Int) (k m : Nat) : Nat := (List.range m).countP (fun q => bef r q k)
theorem cnt_succ (r : List Int) (k m : Nat) : cnt r k (m + 1) = cnt r k m + if bef r m k = true then 1 else 0 := by
  unfold cnt
  rw [List.range_succ, List.countP_append]
  by_cases h : bef r m k = true <;> simp [h]
theorem cnt_le (r : List Int) (k m : Nat) : cnt r k m ≤ m := by
  unfold cnt
  have := List.countP_le_length (p := fun q => bef r q k) (l := List.range m)
  simpa using this
end Go.Proofs.Ythcmkjiemlfpcaa
