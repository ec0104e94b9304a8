/- Shares: its closures, and Go's library that it calls. -/
import Derived.Test.YthcmkjiemlfpcaaQCheck
import Derived.Test.YthcmkjiemlfpcaaShPlain
import Derived.Test.YthcmkjiemlfpcaaInts
import Derived.Deep.RegionHeld3
namespace Go.Proofs.Ythcmkjiemlfpcaa
open Go Go.RowKit
set_option linter.unusedVariables false

theorem bad_is (v : Int) (b : Bool) (w : World) (hb : Hid (inside v 0 1099511627776 = b)) :
    Calls Try.prog 35 #[.int .i64 v] w fun e w' => e = .returned (.bool (!b)) ∧ w = w' := by
  go_enter Try.func35, Try.ntmps35
  go_wp2_with (go_at_call 30; refine (within_is v 0 1099511627776 b _ hb).mono ?_; rintro e w' ⟨rfl, rfl⟩)
  go_ret
  exact ⟨rfl, rfl⟩

theorem asks_at {l : List Int} (h : Asks l) {k : Nat} {x : Int} (hk : l[k]? = some x) : 0 ≤ x ∧ x ≤ 1099511627776 := h x (List.mem_of_getElem? hk)

set_option maxHeartbeats 400000 in
/-- None is bad. -/
theorem index_none (A : Option Addr) (c n : Nat) (l : List Int) (w : World) (hr : Rd w A (i64s l)) (hn : l.length = n) (hc : n ≤ c) (hl : n ≤ 64) (ha : Asks l) :
    Calls Try.prog 44 #[.slice A n c, .func (.func 35) #[] #[]] w fun e w' => e = .returned (.int .i64 (-1)) ∧ w = w' := by
  have HN := Lib.hid hn
  have HR := Lib.hid hr
  have HA := Lib.hid ha
  clear hn hr ha
  go_enter Try.func44, Try.ntmps44
  go_wp2
  go_loop [8] (fun i => ∃ k : Nat, k ≤ n ∧ i = .int .i64 k) (fun i => n - (intOf i).toNat)
  case atStart => exact ⟨0, Nat.zero_le _, rfl⟩
  case round =>
    obtain ⟨k, hk, rfl⟩ := hrel
    by_cases hlt : k < n
    · obtain ⟨x, hx⟩ : ∃ x, l[k]? = some x := ⟨_, List.getElem?_eq_getElem (by rw [HN.out]; exact hlt)⟩
      obtain ⟨g, off, rfl, hg, hcell⟩ := HR.out.i64 hx
      have hxa := asks_at HA.out hx
      have hi := inside_yes hxa.1 hxa.2
      clear hx hxa
      go_wp2_with (go_at_call 35; refine (bad_is x true _ hi).mono ?_; rintro e w' ⟨rfl, rfl⟩)
      go_round
      case rel => exact ⟨k + 1, by omega, by go_num⟩
      case measure => simp [intOf]; omega
    · go_wp2
      go_ret
      exact ⟨rfl, rfl⟩

def SomeIdx (w : World) (e : Ending) (w' : World) : Prop := ∃ k : Nat, k ≤ 64 ∧ e = .returned (.int .i64 (k : Int)) ∧ w = w'

set_option maxHeartbeats 400000 in
/-- One is bad. -/
theorem index_some (A : Option Addr) (c n : Nat) (l : List Int) (w : World) (hr : Rd w A (i64s l)) (hn : l.length = n) (hc : n ≤ c) (hl : n ≤ 64) (ha : ¬ Asks l) :
    Calls Try.prog 44 #[.slice A n c, .func (.func 35) #[] #[]] w (SomeIdx w) := by
  have HN := Lib.hid hn
  have HR := Lib.hid hr
  have HA := Lib.hid ha
  clear hn hr ha
  go_enter Try.func44, Try.ntmps44
  go_wp2
  go_loop [8] (fun i => ∃ k : Nat, k ≤ n ∧ i = .int .i64 k ∧ Hid (Asks (l.take k))) (fun i => n - (intOf i).toNat)
  case atStart => exact ⟨0, Nat.zero_le _, rfl, fun x hx => by simp at hx⟩
  case round =>
    obtain ⟨k, hk, rfl, HK⟩ := hrel
    by_cases hlt : k < n
    · obtain ⟨x, hx⟩ : ∃ x, l[k]? = some x := ⟨_, List.getElem?_eq_getElem (by rw [HN.out]; exact hlt)⟩
      obtain ⟨g, off, rfl, hg, hcell⟩ := HR.out.i64 hx
      have HX := Lib.hid hx
      clear hx
      by_cases hxa : 0 ≤ x ∧ x ≤ 1099511627776
      · have hi := inside_yes hxa.1 hxa.2
        go_wp2_with (go_at_call 35; refine (bad_is x true _ hi).mono ?_; rintro e w' ⟨rfl, rfl⟩)
        go_round
        case rel => exact ⟨k + 1, by omega, by go_num, fun y hy => by
          have hkl : k < l.length := by rw [HN.out]; exact hlt
          rw [List.take_succ_eq_append_getElem hkl] at hy
          rcases List.mem_append.1 hy with hy | hy
          · exact HK.out y hy
          · have e1 := List.mem_singleton.1 hy
            have e2 := HX.out
            rw [List.getElem?_eq_getElem hkl] at e2
            injection e2 with e2
            rw [e1, e2]
            exact hxa⟩
        case measure => simp [intOf]; omega
      · have hi := inside_no (v := x) (lo := 0) (hi := 1099511627776) hxa
        clear hxa
        go_wp2_with (go_at_call 35; refine (bad_is x false _ hi).mono ?_; rintro e w' ⟨rfl, rfl⟩)
        go_ret
        exact ⟨k, by omega, rfl, rfl⟩
    · exfalso
      have : k = n := by omega
      subst this
      have h := HK.out
      rw [List.take_of_length_le (by rw [HN.out]; omega)] at h
      exact HA.out h

theorem contains_is (A : Option Addr) (c n : Nat) (l : List Int) (b : Bool) (w : World) (hr : Rd w A (i64s l)) (hn : l.length = n) (hc : n ≤ c) (hl : n ≤ 64) (ha : Hid (b = true ↔ ¬ Asks l)) :
    Calls Try.prog 36 #[.slice A n c, .func (.func 35) #[] #[]] w fun e w' => e = .returned (.bool b) ∧ w = w' := by
  by_cases h : Asks l
  · have P1 := Lib.hid (fun W (hw : w = W) => index_none A c n l W (hw ▸ hr) hn hc hl h)
    have hb : b = false := by
      rw [Bool.eq_false_iff]
      intro e
      exact ha.out.1 e h
    subst hb
    clear ha hr hn h
    go_enter Try.func36, Try.ntmps36
    go_wp2_with (go_at_call 44; refine (P1.out _ rfl).mono ?_; rintro e w' ⟨rfl, rfl⟩)
    go_ret
    exact ⟨rfl, rfl⟩
  · have P1 := Lib.hid (fun W (hw : w = W) => index_some A c n l W (hw ▸ hr) hn hc hl h)
    have hb : b = true := ha.out.2 h
    subst hb
    clear ha hr hn h
    go_enter Try.func36, Try.ntmps36
    go_wp2_with (go_at_call 44; refine (P1.out _ rfl).mono ?_; rintro e w' ⟨k, hk, rfl, rfl⟩)
    go_ret
    exact ⟨rfl, rfl⟩

theorem take_capSum {l : List Int} {k : Nat} {x v : Int} (hx : l[k]? = some x) : capSum (l.take (k + 1)) v = capSum (l.take k) v + min x v := by
  obtain ⟨hk, rfl⟩ := List.getElem?_eq_some_iff.1 hx
  rw [List.take_succ_eq_append_getElem hk, capSum_snoc]
theorem take_bd {l : List Int} (h : Asks l) (hl : l.length ≤ 64) (k : Nat) {v : Int} (hv : 0 ≤ v) : 0 ≤ capSum (l.take k) v ∧ capSum (l.take k) v ≤ 70368744177664 := by
  have h1 := capSum_bd (h.take k) hv
  have h2 : (l.take k).length ≤ 64 := by simp; omega
  omega

set_option maxHeartbeats 400000 in
/-- given: the sum at a level. -/
theorem given_is (A : Option Addr) (c n gS : Nat) (l : List Int) (v : Int) (w : World) (hS : w.cell? ⟨gS, 0, none⟩ = some (.slice A n c)) (hr : Rd w A (i64s l)) (hn : l.length = n) (hc : n ≤ c) (hl : n ≤ 64) (ha : Asks l) (hv : 0 ≤ v) (hv' : v ≤ 1099511627777) :
    Calls Try.prog 37 #[.int .i64 v, .pointer (some ⟨gS, 0, none⟩)] w fun e w' => e = .returned (.int .i64 (capSum l v)) ∧ w = w' := by
  have HN := Lib.hid hn
  have HR := Lib.hid hr
  have HA := Lib.hid ha
  clear hn hr ha
  go_enter Try.func37, Try.ntmps37
  go_wp2
  go_loop [4, 9] (fun s i => ∃ k : Nat, k ≤ n ∧ i = .int .i64 k ∧ s = .int .i64 (capSum (l.take k) v)) (fun _ i => n - (intOf i).toNat)
  case atStart => exact ⟨0, Nat.zero_le _, rfl, rfl⟩
  case round =>
    obtain ⟨k, hk, rfl, rfl⟩ := hrel
    by_cases hlt : k < n
    · obtain ⟨x, hx⟩ : ∃ x, l[k]? = some x := ⟨_, List.getElem?_eq_getElem (by rw [HN.out]; exact hlt)⟩
      obtain ⟨g, off, rfl, hg, hcell⟩ := HR.out.i64 hx
      have hxa := asks_at HA.out hx
      have hb := take_bd HA.out (by rw [HN.out]; exact hl) k hv
      have HC := Lib.hid (take_capSum (v := v) hx)
      clear hx
      obtain ⟨s, hs⟩ : ∃ s, s = capSum (l.take k) v := ⟨_, rfl⟩
      rw [← hs] at hb HC ⊢
      clear hs
      by_cases hxv : x ≤ v
      · have hm : min x v = x := by omega
        go_wp2
        go_round
        case rel => exact ⟨k + 1, by omega, by go_num, by rw [HC.out, hm]⟩
        case measure => simp [intOf]; omega
      · have hm : min x v = v := by omega
        have hvx : v < x := by omega
        go_wp2
        go_round
        case rel => exact ⟨k + 1, by omega, by go_num, by rw [HC.out, hm]⟩
        case measure => simp [intOf]; omega
    · go_wp2
      go_ret
      exact ⟨ret_i (by rw [List.take_of_length_le (by rw [HN.out]; omega)]), rfl⟩

set_option maxHeartbeats 400000 in
/-- The reference's sum at a level. -/
theorem rsum_is (A : Option Addr) (c n : Nat) (l : List Int) (v : Int) (w : World) (hr : Rd w A (i64s l)) (hn : l.length = n) (hc : n ≤ c) (hl : n ≤ 64) (ha : Asks l) (hv : 0 ≤ v) (hv' : v ≤ 1099511627777) :
    Calls Try.prog 41 #[.slice A n c, .int .i64 v] w fun e w' => e = .returned (.int .i64 (capSum l v)) ∧ w = w' := by
  have HN := Lib.hid hn
  have HR := Lib.hid hr
  have HA := Lib.hid ha
  clear hn hr ha
  go_enter Try.func41, Try.ntmps41
  go_wp2
  go_loop [5, 6] (fun s i => ∃ k : Nat, k ≤ n ∧ i = .int .i64 k ∧ s = .int .i64 (capSum (l.take k) v)) (fun _ i => n - (intOf i).toNat)
  case atStart => exact ⟨0, Nat.zero_le _, rfl, rfl⟩
  case round =>
    obtain ⟨k, hk, rfl, rfl⟩ := hrel
    by_cases hlt : k < n
    · obtain ⟨x, hx⟩ : ∃ x, l[k]? = some x := ⟨_, List.getElem?_eq_getElem (by rw [HN.out]; exact hlt)⟩
      obtain ⟨g, off, rfl, hg, hcell⟩ := HR.out.i64 hx
      have hxa := asks_at HA.out hx
      have hb := take_bd HA.out (by rw [HN.out]; exact hl) k hv
      have HC := Lib.hid (take_capSum (v := v) hx)
      clear hx
      obtain ⟨s, hs⟩ : ∃ s, s = capSum (l.take k) v := ⟨_, rfl⟩
      rw [← hs] at hb HC ⊢
      clear hs
      by_cases hxv : x ≤ v
      · have hm : min x v = x := by omega
        go_wp2
        go_round
        case rel => exact ⟨k + 1, by omega, by go_num, by rw [HC.out, hm]⟩
        case measure => simp [intOf]; omega
      · have hm : min x v = v := by omega
        have hvx : v < x := by omega
        go_wp2
        go_round
        case rel => exact ⟨k + 1, by omega, by go_num, by rw [HC.out, hm]⟩
        case measure => simp [intOf]; omega
    · go_wp2
      go_ret
      exact ⟨ret_i (by rw [List.take_of_length_le (by rw [HN.out]; omega)]), rfl⟩

/-- The test that Search is handed. -/
theorem more_is (A : Option Addr) (c n gS gF gT : Nat) (l : List Int) (h total : Int) (b : Bool) (w : World) (hS : w.cell? ⟨gS, 0, none⟩ = some (.slice A n c))
    (hF : w.cell? ⟨gF, 0, none⟩ = some (.func (.func 37) #[] #[.pointer (some ⟨gS, 0, none⟩)])) (hT : w.cell? ⟨gT, 0, none⟩ = some (.int .i64 total))
    (hr : Rd w A (i64s l)) (hn : l.length = n) (hc : n ≤ c) (hl : n ≤ 64) (ha : Asks l) (hv : 0 ≤ h) (hv' : h ≤ 1099511627776) (hb : decide (total < capSum l (h + 1)) = b) :
    Calls Try.prog 40 #[.int .i64 h, .pointer (some ⟨gF, 0, none⟩), .pointer (some ⟨gT, 0, none⟩)] w fun e w' => e = .returned (.bool b) ∧ ∃ k, w' = w.drewN k := by
  have P1 := Lib.hid (fun k => given_is A c n gS l (h + 1) (w.drewN k) hS hr hn hc hl ha (by omega) (by omega))
  have e1 : IntKind.i64.wrap (h + 1) = h + 1 := IntWalk.i64_in _ (by omega)
  have HB := Lib.hid hb
  clear hr hn ha hS hb
  generalize capSum l (h + 1) = s at *
  go_enter Try.func40, Try.ntmps40
  go_wp2_with fail
  go_quiet ((go_at_call 37; exact (P1.out _).mono fun _ _ hh => ⟨hh.1, _, hh.2.symm⟩))
  go_wp2
  go_ret
  exact ⟨by rw [← HB.out]; rfl, _, rfl⟩
end Go.Proofs.Ythcmkjiemlfpcaa
