/- chroniclelaw1.same: two slices of bytes, held against each other. -/
import Derived.Test.YtljfmcgeiceagaaGreatF1
namespace Go.Proofs.YtljfmcgeiceagaaGreat
open Go Go.RowKit

def r4sameB (xs ys : List Nat) : Bool := decide (xs = ys)

/-- The call reads alone. -/
def r4Looks (w w' : World) (e : Ending) (v : Value) : Prop := e = .returned v ∧ ∃ n, w' = w.drewN n

set_option maxHeartbeats 400000 in
set_option maxRecDepth 100000 in
theorem r4same_all (A B : Option Addr) (c d : Nat) (xs ys : List Nat) (w : World) (ha : Rd w A (b8 xs)) (hb : Rd w B (b8 ys)) (la : xs.length ≤ 140737488355328) (lb : ys.length ≤ 140737488355328) :
    Calls Tryz.prog 81 #[.slice A xs.length c, .slice B ys.length d] w fun e w' => r4Looks w w' e (.bool (r4sameB xs ys)) := by
  by_cases hl : xs.length = ys.length
  · have hne : ((xs.length : Int) != (ys.length : Int)) = false := by rw [bne_eq_false_iff_eq]; omega
    have HL := Lib.hid hl
    clear hl
    go_enter Tryz.func81, Tryz.ntmps81
    go_wp2
    go_loopw [5] (fun i wr => ∃ k n : Nat, k ≤ xs.length ∧ i = .int .i64 k ∧ wr = w.drewN n ∧ Hid (xs.take k = ys.take k)) (fun i _ => xs.length - (intOf i).toNat)
    case atStart => exact ⟨0, 0, Nat.zero_le _, rfl, rfl, by simp [Hid]⟩
    case round =>
      obtain ⟨k, n, hk, rfl, rfl, H⟩ := hrel
      by_cases hlt : k < xs.length
      · have hltb : k < ys.length := by rw [← HL.out]; exact hlt
        obtain ⟨g, off, rfl, hg, hcell⟩ := ha.at_ (List.getElem?_eq_getElem hlt)
        obtain ⟨g', off', rfl, hg', hcell'⟩ := hb.at_ (List.getElem?_eq_getElem hltb)
        obtain ⟨x, hx⟩ : ∃ x, x = xs[k] := ⟨_, rfl⟩
        obtain ⟨y, hy⟩ : ∃ y, y = ys[k] := ⟨_, rfl⟩
        rw [← hx] at hcell
        rw [← hy] at hcell'
        have h0 : (0 : Int) ≤ (k : Int) := by omega
        have h1 : (k : Int) < (xs.length : Int) := by omega
        have h2 : (k : Int) < (ys.length : Int) := by omega
        by_cases hxy : x = y
        · have hne' : ((x : Int) != (y : Int)) = false := by rw [bne_eq_false_iff_eq]; omega
          have hN : xs.take (k + 1) = ys.take (k + 1) := by
            rw [List.take_succ_eq_append_getElem hlt, List.take_succ_eq_append_getElem hltb, H.out, ← hx, ← hy, hxy]
          have HN := Lib.hid hN
          clear hN hx hy hxy ha hb
          go_wp2
          go_quiet (fail)
          go_wp2
          go_roundw
          case rel => exact ⟨k + 1, _, by omega, by go_num, rfl, HN⟩
          case measure => simp [intOf]; omega
        · have hne' : ((x : Int) != (y : Int)) = true := by rw [bne_iff_ne]; omega
          have hN : r4sameB xs ys = false := by
            unfold r4sameB
            rw [decide_eq_false_iff_not]
            intro h
            subst h
            exact hxy (hx.trans hy.symm)
          have HN := Lib.hid hN
          clear hN hx hy hxy ha hb
          go_wp2
          go_quiet (fail)
          go_wp2
          go_ret
          rw [HN.out]
          exact ⟨rfl, _, World.drewN_drewN ..⟩
      · have hN : r4sameB xs ys = true := by
          have h := H.out
          have h2 := HL.out
          rw [List.take_of_length_le (by omega), List.take_of_length_le (by omega)] at h
          simp [r4sameB, h]
        have HN := Lib.hid hN
        clear hN ha hb
        go_wp2
        go_ret
        rw [HN.out]
        exact ⟨rfl, _, rfl⟩
  · have hne : ((xs.length : Int) != (ys.length : Int)) = true := by rw [bne_iff_ne]; omega
    have hN : r4sameB xs ys = false := by
      unfold r4sameB
      rw [decide_eq_false_iff_not]
      intro h
      exact hl (by rw [h])
    have HN := Lib.hid hN
    clear hN hl ha hb
    go_enter Tryz.func81, Tryz.ntmps81
    go_wp2
    go_ret
    rw [HN.out]
    exact ⟨rfl, 0, rfl⟩

theorem r4same_any (A B : Option Addr) (n m c d : Nat) (xs ys : List Nat) (w : World) (ha : Rd w A (b8 xs)) (hb : Rd w B (b8 ys)) (hn : xs.length = n) (hm : ys.length = m) (la : n ≤ 140737488355328) (lb : m ≤ 140737488355328) :
    Calls Tryz.prog 81 #[.slice A n c, .slice B m d] w fun e w' => r4Looks w w' e (.bool (r4sameB xs ys)) := by
  subst hn hm
  exact r4same_all A B c d xs ys w ha hb la lb

/-- The same bytes. -/
theorem r4same_yes (A B : Option Addr) (n m c d : Nat) (xs ys : List Nat) (w : World) (ha : Rd w A (b8 xs)) (hb : Rd w B (b8 ys)) (hn : xs.length = n) (hm : ys.length = m) (la : n ≤ 140737488355328) (lb : m ≤ 140737488355328) (h : xs = ys) :
    Calls Tryz.prog 81 #[.slice A n c, .slice B m d] w fun e w' => r4Looks w w' e (.bool true) := by
  have := r4same_any A B n m c d xs ys w ha hb hn hm la lb
  rw [show r4sameB xs ys = true from by simp [r4sameB, h]] at this
  exact this

/-- Other bytes. -/
theorem r4same_no (A B : Option Addr) (n m c d : Nat) (xs ys : List Nat) (w : World) (ha : Rd w A (b8 xs)) (hb : Rd w B (b8 ys)) (hn : xs.length = n) (hm : ys.length = m) (la : n ≤ 140737488355328) (lb : m ≤ 140737488355328) (h : xs ≠ ys) :
    Calls Tryz.prog 81 #[.slice A n c, .slice B m d] w fun e w' => r4Looks w w' e (.bool false) := by
  have := r4same_any A B n m c d xs ys w ha hb hn hm la lb
  rw [show r4sameB xs ys = false from by simp [r4sameB, h]] at this
  exact this
end Go.Proofs.YtljfmcgeiceagaaGreat
