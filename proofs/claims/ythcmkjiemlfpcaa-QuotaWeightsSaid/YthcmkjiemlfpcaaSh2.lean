/- Shares: Search, Clone. -/
import Derived.Test.YthcmkjiemlfpcaaSh1
import Derived.WalkSpells
namespace Go.Proofs.Ythcmkjiemlfpcaa
open Go Go.RowKit
set_option linter.unusedVariables false

/-- The call has made a slice of whole numbers. -/
def Got64 (w w' : World) (e : Ending) (l : List Int) : Prop :=
  ∃ A c, e = .returned (.slice A l.length c) ∧ w'.ownsRow w.heap.size 2 1 (.slice A l.length c) l.length (i64s l) ∧ Below w.heap.size w w'
theorem got64_mk {w w' : World} {v' : Value} {n : Nat} {xs : List Value} {l : List Int} (hown : w'.ownsRow w.heap.size 2 1 v' n xs) (hn : n = l.length) (hx : xs = i64s l) (hb : Below w.heap.size w w') :
    Got64 w w' (.returned v') l := by
  subst hn hx
  obtain ⟨A, c, rfl, _⟩ := own_shape hown
  exact ⟨A, c, rfl, hown, hb⟩

theorem app64 (w : World) {ops : Array Oper} {rest : List Oper} {o : Oper} {a : Act} {Q : Exit → Act → World → Prop} (hgd : o.guard = none) (s x : Operand)
    (ho : o.op = .call { callee := .builtin .append, args := #[s, x], argTypes := #[36, 36] })
    (base : Nat) (v : Value) (n : Nat) (xs : List Int) (hs : a.eval s = v) (hown : w.ownsRow base 2 1 v n (i64s xs))
    (A : Option Addr) (m c : Nat) (news : List Int) (hx : a.eval x = .slice A m c) (hl : news.length = m) (hr : Rd w A (i64s news))
    (hbytes : (n + m) * 8 ≤ 140737488355328) (hbase : base ≤ w.heap.size)
    (h : ∀ v' w', w'.ownsRow base 2 1 v' (n + m) (i64s (xs ++ news)) → w.grownBy w' v.ownBlock → (v'.ownBlock = v.ownBlock ∨ ∃ k, v'.ownBlock = some k ∧ w.heap.size ≤ k) → wpList Try.prog ops Q rest (a.put o.dst v') w') :
    wpList Try.prog ops Q (o :: rest) a w := by
  obtain ⟨i0, hi, hz0, hz1, hz2⟩ := info_parts info64
  refine wpList_app w hgd s x 36 ho base 2 i0 (.int .i64 0) 1 8 Try.underlying36 hi hz0 hz1 hz2 rfl (by omega) v n (i64s xs) hs hown A m c (i64s news) hx (by rw [i64s_length]; omega) hr (i64s_one _) (by omega) (by unfold maxLen; omega) hbase ?_
  intro v' w' h1 h2 h3
  exact h v' w' (by rw [i64s_append]; exact h1) h2 h3

theorem own_lit64 (w : World) (base : Nat) (cs : List Value) (e : TypeId) (n : Nat) (hb : base ≤ w.heap.size) (hm : n ≤ maxLen) (hs : cs.length = n) :
    (w.alloc (.cells cs.toArray e)).ownsRow base e 1 (.slice (some ⟨w.heap.size, 0, none⟩) n n) n cs := by
  have := World.ownsRow_lit (base := base) (e := e) (size := 1) w cs.toArray n hb hm (by simpa using hs)
  simpa using this

set_option maxHeartbeats 400000 in
theorem clone_is (A : Option Addr) (c n : Nat) (l : List Int) (w : World) (hr : Rd w A (i64s l)) (hn : l.length = n) (hc : n ≤ c) (hl : n * 8 ≤ 140737488351232) :
    Calls Try.prog 38 #[.slice A n c] w fun e w' => Got64 w w' e l := by
  have HN := Lib.hid hn
  clear hn
  cases A with
  | none =>
    have hl0 : l = [] := by
      apply Classical.byContradiction
      intro hne
      obtain ⟨g, off, hh, _⟩ := hr (by intro h; exact hne (by simpa [i64s] using h))
      cases hh
    subst hl0
    have := HN.out
    simp at this
    subst this
    clear hr HN
    have hk := fun (w : World) => Lib.run_eql_slice_nil (P := Try.prog) w 36 2 none 0 c 0 0 Try.underlying36
    go_enter Try.func38, Try.ntmps38
    go_wp2
    go_ret
    exact ⟨none, 0, rfl, World.ownsRow_nil _ _ _ _, Below.refl _ _⟩
  | some a =>
    have h0 := own_lit64 w w.heap.size [] 2 0 (Nat.le_refl _) (by decide) rfl
    have hr1 : Rd (w.alloc (.cells [].toArray 2)) (some a) (i64s l) := hr.below ((Below.refl _ _).alloc (Nat.le_refl _) _)
    have hk := fun (w : World) => Lib.run_eql_slice_nil (P := Try.prog) w 36 2 (some a) n c 0 0 Try.underlying36
    go_enter Try.func38, Try.ntmps38
    go_wp2_with (at_builtin; (refine app64 _ rfl (.tmp 5) (.tmp 6) rfl w.heap.size _ 0 [] rfl h0 (some a) n c l rfl HN.out hr1 (by omega) (by simp) ?_); intro v1 w1 hown1 hg1 _)
    go_ret
    refine got64_mk hown1 (by have := HN.out; omega) (by simp) ?_
    exact ((Below.refl _ _).alloc (Nat.le_refl _) _).trans (below_of_grown hg1 (by simp) (fun k hk => (h0.lt k hk).1))

theorem shr1 (x : Int) : True := trivial

set_option maxHeartbeats 1000000 in
/-- Search finds the level. -/
theorem search_is (A : Option Addr) (c n gS gF gT : Nat) (l : List Int) (total v : Int) (w : World) (hS : w.cell? ⟨gS, 0, none⟩ = some (.slice A n c))
    (hF : w.cell? ⟨gF, 0, none⟩ = some (.func (.func 37) #[] #[.pointer (some ⟨gS, 0, none⟩)])) (hT : w.cell? ⟨gT, 0, none⟩ = some (.int .i64 total))
    (hr : Rd w A (i64s l)) (hn : l.length = n) (hc : n ≤ c) (hl : n ≤ 64) (ha : Asks l) (hv : IsLev total l v) (h0 : 0 ≤ total) :
    Calls Try.prog 39 #[.int .i64 1099511627776, .func (.func 40) #[] #[.pointer (some ⟨gF, 0, none⟩), .pointer (some ⟨gT, 0, none⟩)]] w fun e w' => e = .returned (.int .i64 v) ∧ ∃ k, w' = w.drewN k := by
  have P1 := Lib.hid (fun h b W (hW : ∃ k, W = w.drewN k) (h0 : 0 ≤ h) (h1 : h ≤ 1099511627776) (hb : decide (total < capSum l (h + 1)) = b) => (by
    obtain ⟨k, rfl⟩ := hW
    exact (more_is A c n gS gF gT l h total b (w.drewN k) hS hF hT hr hn hc hl ha h0 h1 hb).mono fun e W' hh => (⟨hh.1, by obtain ⟨q, hq⟩ := hh.2; exact ⟨k + q, by rw [hq, World.drewN_drewN]⟩⟩ : e = .returned (.bool b) ∧ ∃ k, W' = w.drewN k) :
    Calls Try.prog 40 #[.int .i64 h, .pointer (some ⟨gF, 0, none⟩), .pointer (some ⟨gT, 0, none⟩)] W fun e W' => e = .returned (.bool b) ∧ ∃ k, W' = w.drewN k))
  have HV := Lib.hid hv
  have HZ := Lib.hid (show capSum l 0 ≤ total by rw [capSum_zero ha]; exact h0)
  clear hv hS hF hT hr hn ha h0
  go_enter Try.func39, Try.ntmps39
  go_wp2
  go_loopw [5, 6] (fun i j wr => ∃ (x y : Int), 0 ≤ x ∧ x ≤ y ∧ y ≤ 1099511627776 ∧ i = .int .i64 x ∧ j = .int .i64 y ∧ Hid (capSum l x ≤ total) ∧ Hid (y = 1099511627776 ∨ total < capSum l (y + 1)) ∧ Hid (∃ k, wr = w.drewN k))
    (fun i j _ => (intOf j - intOf i).toNat)
  case atStart => exact ⟨0, 1099511627776, by omega, by omega, by omega, rfl, rfl, HZ.out, .inl rfl, 0, rfl⟩
  case round =>
    obtain ⟨x, y, hx, hxy, hy, rfl, rfl, H1, H2, HW⟩ := hrel
    by_cases hlt : x < y
    · have hm : 0 ≤ (x + y) / 2 ∧ (x + y) / 2 ≤ 1099511627776 ∧ x ≤ (x + y) / 2 ∧ (x + y) / 2 < y := by omega
      by_cases hb : total < capSum l ((x + y) / 2 + 1)
      · have HB := Lib.hid hb
        have hb' : decide (total < capSum l ((x + y) / 2 + 1)) = true := by simp [hb]
        have Q1 := Lib.hid (P1.out ((x + y) / 2) true wr HW.out hm.1 hm.2.1 hb')
        clear hb hb'
        go_wp2_with (go_at_call 40; refine Q1.out.mono ?_; rintro e w2 ⟨rfl, hw2⟩; have HW2 := Lib.hid hw2; clear hw2)
        go_roundw
        case rel => exact ⟨x, (x + y) / 2, by omega, by omega, by omega, rfl, rfl, H1.out, .inr HB.out, HW2.out⟩
        case measure => simp [intOf]; omega
      · have HB := Lib.hid hb
        have hb' : decide (total < capSum l ((x + y) / 2 + 1)) = false := by simp only [decide_eq_false_iff_not]; exact hb
        have Q1 := Lib.hid (P1.out ((x + y) / 2) false wr HW.out hm.1 hm.2.1 hb')
        clear hb hb'
        go_wp2_with (go_at_call 40; refine Q1.out.mono ?_; rintro e w2 ⟨rfl, hw2⟩; have HW2 := Lib.hid hw2; clear hw2)
        go_roundw
        case rel => exact ⟨(x + y) / 2 + 1, y, by omega, by omega, by omega, rfl, rfl, (by have := HB.out; show capSum l ((x + y) / 2 + 1) ≤ total; omega), H2.out, HW2.out⟩
        case measure => simp [intOf]; omega
    · have e : x = y := by omega
      subst e
      have hvx : v = x := HV.out.unique ⟨by omega, by omega, H1.out, H2.out⟩
      have HX := Lib.hid hvx
      clear hlt hvx
      go_wp2
      go_ret
      exact ⟨ret_i HX.out.symm, HW.out⟩
end Go.Proofs.Ythcmkjiemlfpcaa
