/- How long a match is: the document's, and the statement's own (printed by gen_sqml.py). -/
import Derived.Test.YtljfmcgeiceagaaSqGreedy
import Derived.IntWalk
namespace Go.Proofs.Ytljfmcgeiceagaa
open Go Go.RowKit
set_option linter.unusedVariables false
set_option linter.unusedSimpArgs false

set_option maxHeartbeats 1000000 in
set_option maxRecDepth 100000 in
theorem rlength_is (A : Option Addr) (n c i d : Nat) (t : List Nat) (w : World) (hr : Rd w A (b8 t)) (hn : t.length = n) (hl : n ≤ 140737488351232) (hi : i ≤ n) (hd : 1 ≤ d) (hdi : d ≤ i) :
    Calls Try.prog 112 #[.slice A n c, .int .i64 (i : Int), .int .i64 (d : Int)] w fun e w' => e = .returned (.int .i64 ((ml t i d : Nat) : Int)) ∧ ∃ m, w' = w.drewN m := by
  have HR := Lib.hid hr
  have HN := Lib.hid hn
  obtain ⟨q, hq⟩ : ∃ q, q = ml t i d := ⟨_, rfl⟩
  have HQ : Hid (q = mlF t i d (258 - 0) 0) := Lib.hid hq
  rw [← hq]
  clear hr hn hq
  go_enter Try.func112, Try.ntmps112
  go_wp2
  go_loopw [7] (fun v wr => ∃ (k j : Nat), k ≤ 258 ∧ i + k ≤ n ∧ v = .int .i64 k ∧ Hid (q = mlF t i d (258 - k) k) ∧ wr = w.drewN j) (fun v _ => 258 - (intOf v).toNat)
  case atStart => exact ⟨0, 0, by omega, by omega, rfl, HQ, rfl⟩
  case round =>
    clear HQ
    obtain ⟨k, j, hk, hik, rfl, HQ, rfl⟩ := hrel
    by_cases h1 : k < 258
    · by_cases h2 : i + k < n
      · obtain ⟨x, hx⟩ : ∃ x, t[i + k]? = some x := ⟨_, List.getElem?_eq_getElem (by rw [HN.out]; exact h2)⟩
        obtain ⟨y, hy⟩ : ∃ y, t[i + k - d]? = some y := ⟨_, List.getElem?_eq_getElem (by rw [HN.out]; omega)⟩
        obtain ⟨g, off, rfl, hg, hcx⟩ := HR.out.at_ hx
        obtain ⟨g', off', e, hg', hcy⟩ := HR.out.at_ hy
        simp only [Option.some.injEq, Addr.mk.injEq, and_true] at e
        obtain ⟨rfl, rfl⟩ := e
        have s1 : IntKind.i64.wrap ((i : Int) + (k : Int)) = (i : Int) + (k : Int) := IntWalk.i64_in _ (by omega)
        have s3 : IntKind.i64.wrap ((i : Int) + (k : Int) - (d : Int)) = (i : Int) + (k : Int) - (d : Int) := IntWalk.i64_in _ (by omega)
        have s2 : ((i : Int) + (k : Int)).toNat = i + k := by omega
        have s4 : ((i : Int) + (k : Int) - (d : Int)).toNat = i + k - d := by omega
        have b1 : (0 : Int) ≤ (i : Int) + (k : Int) := by omega
        have b2 : (i : Int) + (k : Int) < (n : Int) := by omega
        have b3 : (0 : Int) ≤ (i : Int) + (k : Int) - (d : Int) := by omega
        have b4 : (i : Int) + (k : Int) - (d : Int) < (n : Int) := by omega
        have b5 : (k : Int) < 258 := by omega
        have HF : Hid (258 - k = (258 - (k + 1)) + 1) := Lib.hid (by omega)
        have HX : Hid (t.getD (i + k) 0 = x ∧ t.getD (i + k - d) 0 = y) := Lib.hid (by simp [List.getD_eq_getElem?_getD, hx, hy])
        by_cases hxy : x = y
        · have he : ((x : Int) == (y : Int)) = true := by rw [beq_iff_eq]; omega
          have HQ2 : Hid (q = mlF t i d (258 - (k + 1)) (k + 1)) := Lib.hid (by rw [HQ.out, HF.out, mlF, if_pos ⟨by rw [HN.out]; exact h2, by rw [HX.out.1, HX.out.2, hxy]⟩])
          clear hx hy hxy HQ
          go_wp2
          go_quiet (fail)
          clear s1 s2 s3 s4
          go_wp2
          go_roundw
          case rel => exact ⟨k + 1, _, by omega, by omega, by go_num, HQ2, rfl⟩
          case measure => simp [intOf]; omega
        · have he : ((x : Int) == (y : Int)) = false := by rw [beq_eq_false_iff_ne]; omega
          have HQ2 : Hid (q = k) := Lib.hid (by rw [HQ.out, HF.out, mlF, if_neg (fun h => hxy (by rw [← HX.out.1, ← HX.out.2]; exact h.2))])
          clear hx hy hxy HQ
          go_wp2
          go_quiet (fail)
          clear s1 s2 s3 s4
          go_wp2
          go_ret
          exact ⟨by rw [HQ2.out]; rfl, _, World.drewN_drewN ..⟩
      · have hie : i + k = n := by omega
        have b5 : (k : Int) < 258 := by omega
        have s1 : IntKind.i64.wrap ((i : Int) + (k : Int)) = (i : Int) + (k : Int) := IntWalk.i64_in _ (by omega)
        have b2 : decide ((i : Int) + (k : Int) < (n : Int)) = false := by rw [decide_eq_false_iff_not]; omega
        have HQ2 : Hid (q = k) := Lib.hid (by rw [HQ.out, show 258 - k = (258 - (k + 1)) + 1 by omega, mlF, if_neg (fun h => by have h1 := h.1; rw [HN.out] at h1; omega)])
        clear hie HQ
        go_wp2
        go_quiet (fail)
        clear s1
        go_wp2
        go_ret
        exact ⟨by rw [HQ2.out]; rfl, _, World.drewN_drewN ..⟩
    · have hke : k = 258 := by omega
      have HQ2 : Hid (q = 258) := Lib.hid (by rw [HQ.out, hke]; rfl)
      subst hke
      clear HQ h1
      go_wp2
      go_quiet (fail)
      go_wp2
      go_ret
      exact ⟨by rw [HQ2.out]; rfl, _, World.drewN_drewN ..⟩

end Go.Proofs.Ytljfmcgeiceagaa
