/- numberAt, the document's (printed by gen_sqrnum.py). -/
import Derived.Test.YtjipebedibjoiaaSqRdP
namespace Go.Proofs.Ytjipebedibjoiaa
open Go Go.RowKit
set_option linter.unusedVariables false
set_option linter.unusedSimpArgs false

def nAt (b : List Nat) (q : Nat) : Nat × Nat × Bool := match nA b q with
  | none => (0, q, false)
  | some (v, x) => (v, x, true)
theorem nAt_none {b : List Nat} {q k v : Nat} {r : List Nat} {x : Nat} (h : Uv.ru 0 0 (b.drop q) = Uv.ru k v r) (h1 : Uv.ru k v r = (0, 0, x)) (hx : x ≠ 0) : nAt b q = (0, q, false) := by
  have e : nA b q = none := by
    unfold nA
    rw [h, h1, if_neg (by simp [hx])]
  unfold nAt
  rw [e]
theorem nAt_some {b : List Nat} {q k v : Nat} {r : List Nat} {v' k' : Nat} (h : Uv.ru 0 0 (b.drop q) = Uv.ru k v r) (h1 : Uv.ru k v r = (v', k', 0)) (hk : k' ≤ 3) : nAt b q = (v', q + k', true) := by
  have e : nA b q = some (v', q + k') := by
    unfold nA
    rw [h, h1, if_pos ⟨rfl, hk⟩]
  unfold nAt
  rw [e]
theorem nAt_far {b : List Nat} {q v : Nat} {r : List Nat} (h : Uv.ru 0 0 (b.drop q) = Uv.ru 3 v r) (hr : By r) (hv : v < 2097152) : nAt b q = (0, q, false) := by
  have e : nA b q = none := by
    unfold nA
    rw [h]
    rcases Uv.ru_err r 3 v with h1 | ⟨_, _, h1⟩
    · obtain ⟨v', _, h2, _⟩ := Uv.ru_taken r 3 v hr (by omega) (by simpa using hv) h1
      have := Uv.uv_pos v'
      rw [if_neg (by omega)]
    · rw [if_neg (by omega)]
  unfold nAt
  rw [e]
theorem ru_val {b : List Nat} (hb : By b) : ∀ {i a : Nat}, a < 128 ^ i → i ≤ 3 → (Uv.ru i a b).2.2 = 0 → (Uv.ru i a b).2.1 ≤ 3 → (Uv.ru i a b).1 < 2097152 := by
  induction b with
  | nil => intro i a ha hi h; simp [Uv.ru] at h
  | cons c r ih =>
    intro i a ha hi h h3
    have hr : By r := fun x hx => hb x (List.mem_cons_of_mem _ hx)
    simp only [Uv.ru] at h h3 ⊢
    by_cases h1 : i = 9 ∧ c ≠ 1
    · rw [if_pos h1] at h; simp at h
    · rw [if_neg h1] at h h3 ⊢
      by_cases h2 : 0 < i ∧ c = 0
      · rw [if_pos h2] at h; simp at h
      · rw [if_neg h2] at h h3 ⊢
        have hs : a + c % 128 * 128 ^ i < 128 ^ (i + 1) := by
          have h4 : c % 128 * 128 ^ i ≤ 127 * 128 ^ i := Nat.mul_le_mul_right _ (by omega)
          rw [Nat.pow_succ]
          omega
        by_cases h5 : c < 128
        · rw [if_pos h5] at h3 ⊢
          simp only at h3 ⊢
          have h6 : (128 : Nat) ^ (i + 1) ≤ 128 ^ 3 := Nat.pow_le_pow_right (by omega) h3
          have h7 : (128 : Nat) ^ 3 = 2097152 := by decide
          omega
        · rw [if_neg h5] at h h3 ⊢
          by_cases hi3 : i = 3
          · exfalso
            subst hi3
            obtain ⟨v', _, e2, _⟩ := Uv.ru_taken r (3 + 1) _ hr (by omega) hs h
            have := Uv.uv_pos v'
            omega
          · exact ih hr hs (by omega) h h3
theorem nAt_le {b : List Nat} {q : Nat} (hb : By b) (hq : q ≤ b.length) : (nAt b q).1 < 2097152 ∧ q ≤ (nAt b q).2.1 ∧ (nAt b q).2.1 ≤ b.length ∧ ((nAt b q).2.2 = true → q < (nAt b q).2.1) := by
  unfold nAt nA
  split
  · simp; exact hq
  · rename_i v x h
    split at h
    · rename_i h1
      injection h with h
      injection h with h2 h3
      obtain ⟨v', e1, e2, e3, e4, _, _⟩ := Uv.ru_taken (b.drop q) 0 0 (by_drop hb q) (by omega) (by omega) h1.1
      simp only [Nat.zero_add, Nat.pow_zero, Nat.mul_one] at e1 e2
      rw [List.length_drop] at e3
      have hp := Uv.uv_pos v'
      have h4 := h1.2
      have h5 := ru_val (by_drop hb q) (i := 0) (a := 0) (by omega) (by omega) h1.1 h1.2
      simp only
      refine ⟨by omega, by omega, by omega, fun _ => by omega⟩
    · simp at h

set_option maxHeartbeats 1000000 in
set_option maxRecDepth 100000 in
theorem numberAt_is (A : Option Addr) (n c at_ : Nat) (bs : List Nat) (w : World) (hr : Rd w A (b8 bs)) (hn : bs.length = n) (hby : By bs) (hl : n ≤ 140737488351232) (ha : at_ ≤ n) :
    Calls Try.prog 148 #[.slice A n c, .int .i64 (at_ : Int)] w fun e w' => e = .returned (.tuple #[.int .i64 ((nAt bs at_).1 : Int), .int .i64 ((nAt bs at_).2.1 : Int), .bool (nAt bs at_).2.2]) ∧ ∃ m, w' = w.drewN m := by
  have HR := Lib.hid hr
  have HN := Lib.hid hn
  have HY := Lib.hid hby
  obtain ⟨q, hq⟩ : ∃ q, q = nAt bs at_ := ⟨_, rfl⟩
  have HQ := Lib.hid hq
  rw [← hq]
  clear hr hn hby hq
  go_enter Try.func148, Try.ntmps148
  go_wp2
  go_loopw [7, 8, 9] (fun v u i wr => ∃ (k y j : Nat), k ≤ 3 ∧ v = .int .i64 y ∧ u = .int .i64 ((128 ^ k : Nat) : Int) ∧ i = .int .i64 k ∧ y < 128 ^ k ∧ at_ + k ≤ n ∧ Hid (Uv.ru 0 0 (bs.drop at_) = Uv.ru k y (bs.drop (at_ + k))) ∧ wr = w.drewN j) (fun _ _ i _ => 3 - (intOf i).toNat)
  case atStart => exact ⟨0, 0, 0, by omega, rfl, rfl, rfl, by simp, ha, Lib.hid rfl, rfl⟩
  case round =>
    obtain ⟨k, y, j, hk, rfl, rfl, rfl, hy, hkn, HU, rfl⟩ := hrel
    rcases (show k = 0 ∨ k = 1 ∨ k = 2 ∨ k = 3 by omega) with rfl | rfl | rfl | rfl
    · rw [show ((128 ^ 0 : Nat) : Int) = 1 from rfl]
      have hy2 : y = 0 := by simpa using hy
      subst hy2
      clear hy
      simp only [Nat.add_zero] at hkn
      clear HU
      have HU : Hid (Uv.ru 0 0 (bs.drop at_) = Uv.ru 0 0 (bs.drop at_)) := Lib.hid rfl
      by_cases hend : at_ < n
      · obtain ⟨x, hx, hx8, hd⟩ := HY.out.get (k := at_) (by rw [HN.out]; exact hend)
        obtain ⟨g, off, rfl, hg, hc⟩ := HR.out.at_ hx
        have HD := Lib.hid hd
        clear hx hd
        by_cases hx1 : x < 128
        · have HE : Hid (q = (x, at_ + 1, true)) := Lib.hid (by rw [HQ.out]; refine (nAt_some HU.out (by rw [HD.out, Uv.ru, if_neg (by omega), if_neg (by omega), if_pos hx1, Nat.mod_eq_of_lt hx1]) (by omega)).trans (by simp))
          go_wp2
          all_goals
            go_ret3
            exact ⟨by rw [HE.out]; go_num, _, rfl⟩
        · have HU2 : Hid (Uv.ru 0 0 (bs.drop at_) = Uv.ru (0 + 1) (x - 128) (bs.drop (at_ + (0 + 1)))) := Lib.hid (by rw [HD.out, Uv.ru, if_neg (by omega), if_neg (by omega), if_neg hx1, show x % 128 = x - 128 by omega, show 0 + (x - 128) * 128 ^ 0 = x - 128 by simp])
          go_wp2
          go_roundw
          case rel => exact ⟨0 + 1, x - 128, _, by omega, by go_num, by go_num, by go_num, by omega, by omega, HU2, rfl⟩
          case measure => simp [intOf]
      · have HE : Hid (q = (0, at_, false)) := Lib.hid (by rw [HQ.out]; exact nAt_none (x := 10) HU.out (by rw [List.drop_of_length_le (by rw [HN.out]; omega), Uv.ru]) (by omega))
        go_wp2
        go_ret3
        exact ⟨by rw [HE.out]; rfl, _, rfl⟩
    · rw [show ((128 ^ 1 : Nat) : Int) = 128 from rfl]
      have hy2 : y < 128 := hy
      clear hy
      by_cases hend : at_ + 1 < n
      · obtain ⟨x, hx, hx8, hd⟩ := HY.out.get (k := at_ + 1) (by rw [HN.out]; exact hend)
        obtain ⟨g, off, rfl, hg, hc⟩ := HR.out.at_ hx
        have HD := Lib.hid hd
        clear hx hd
        by_cases hx1 : x < 128
        · by_cases hx0 : x = 0
          · have HE : Hid (q = (0, at_, false)) := Lib.hid (by rw [HQ.out]; exact nAt_none (x := 11) HU.out (by rw [HD.out, Uv.ru, if_neg (by omega), if_pos (by omega)]) (by omega))
            subst hx0
            go_wp2
            go_ret3
            exact ⟨by rw [HE.out]; rfl, _, rfl⟩
          · have HE : Hid (q = (y + x * 128, at_ + 1 + 1, true)) := Lib.hid (by rw [HQ.out]; refine (nAt_some HU.out (by rw [HD.out, Uv.ru, if_neg (by omega), if_neg (by omega), if_pos hx1, Nat.mod_eq_of_lt hx1]) (by omega)).trans (by simp [Nat.add_assoc]))
            go_wp2
            go_ret3
            exact ⟨by rw [HE.out]; go_num, _, rfl⟩
        · have HU2 : Hid (Uv.ru 0 0 (bs.drop at_) = Uv.ru (1 + 1) (y + (x - 128) * 128) (bs.drop (at_ + (1 + 1)))) := Lib.hid (by rw [HU.out, HD.out, Uv.ru, if_neg (by omega), if_neg (by omega), if_neg hx1, show x % 128 = x - 128 by omega])
          go_wp2
          go_roundw
          case rel => exact ⟨1 + 1, y + (x - 128) * 128, _, by omega, by go_num, by go_num, by go_num, by omega, by omega, HU2, rfl⟩
          case measure => simp [intOf]
      · have HE : Hid (q = (0, at_, false)) := Lib.hid (by rw [HQ.out]; exact nAt_none (x := 10) HU.out (by rw [List.drop_of_length_le (by rw [HN.out]; omega), Uv.ru]) (by omega))
        go_wp2
        go_ret3
        exact ⟨by rw [HE.out]; rfl, _, rfl⟩
    · rw [show ((128 ^ 2 : Nat) : Int) = 16384 from rfl]
      have hy2 : y < 16384 := hy
      clear hy
      by_cases hend : at_ + 2 < n
      · obtain ⟨x, hx, hx8, hd⟩ := HY.out.get (k := at_ + 2) (by rw [HN.out]; exact hend)
        obtain ⟨g, off, rfl, hg, hc⟩ := HR.out.at_ hx
        have HD := Lib.hid hd
        clear hx hd
        by_cases hx1 : x < 128
        · by_cases hx0 : x = 0
          · have HE : Hid (q = (0, at_, false)) := Lib.hid (by rw [HQ.out]; exact nAt_none (x := 11) HU.out (by rw [HD.out, Uv.ru, if_neg (by omega), if_pos (by omega)]) (by omega))
            subst hx0
            go_wp2
            go_ret3
            exact ⟨by rw [HE.out]; rfl, _, rfl⟩
          · have HE : Hid (q = (y + x * 16384, at_ + 2 + 1, true)) := Lib.hid (by rw [HQ.out]; refine (nAt_some HU.out (by rw [HD.out, Uv.ru, if_neg (by omega), if_neg (by omega), if_pos hx1, Nat.mod_eq_of_lt hx1]) (by omega)).trans (by simp [Nat.add_assoc]))
            go_wp2
            go_ret3
            exact ⟨by rw [HE.out]; go_num, _, rfl⟩
        · have HU2 : Hid (Uv.ru 0 0 (bs.drop at_) = Uv.ru (2 + 1) (y + (x - 128) * 16384) (bs.drop (at_ + (2 + 1)))) := Lib.hid (by rw [HU.out, HD.out, Uv.ru, if_neg (by omega), if_neg (by omega), if_neg hx1, show x % 128 = x - 128 by omega])
          go_wp2
          go_roundw
          case rel => exact ⟨2 + 1, y + (x - 128) * 16384, _, by omega, by go_num, by go_num, by go_num, by omega, by omega, HU2, rfl⟩
          case measure => simp [intOf]
      · have HE : Hid (q = (0, at_, false)) := Lib.hid (by rw [HQ.out]; exact nAt_none (x := 10) HU.out (by rw [List.drop_of_length_le (by rw [HN.out]; omega), Uv.ru]) (by omega))
        go_wp2
        go_ret3
        exact ⟨by rw [HE.out]; rfl, _, rfl⟩
    · have HE : Hid (q = (0, at_, false)) := Lib.hid (by rw [HQ.out]; exact nAt_far HU.out (by_drop HY.out _) (by simpa using hy))
      go_wp2
      go_ret3
      exact ⟨by rw [HE.out]; rfl, _, rfl⟩
end Go.Proofs.Ytjipebedibjoiaa
