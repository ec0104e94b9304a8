/- The number of the five bytes at a place. -/
import Derived.Test.YtljfmcgeiceagaaSqFnd
namespace Go.Proofs.Ytljfmcgeiceagaa
open Go Go.RowKit
set_option linter.unusedVariables false
set_option linter.unusedSimpArgs false

theorem hsF_lt (t : List Nat) (p k : Nat) : hsF t p k < 4294967296 := by
  cases k with
  | zero => simp [hsF]
  | succ k => unfold hsF; omega

set_option maxHeartbeats 1000000 in
set_option maxRecDepth 100000 in
theorem fnumber_is (g : Nat) (A : Option Addr) (n c p m : Nat) (t : List Nat) (w : World) (hf : Fnd w g A n c t m) (hr : Rd w A (b8 t)) (hn : t.length = n) (hby : By t) (hl : n ≤ 4096) (hc : n ≤ c) (hp : p + 5 ≤ n) :
    Calls Try.prog 114 #[.pointer (some ⟨g, 0, none⟩), .int .i64 (p : Int)] w fun e w' => e = .returned (.int .i64 ((hs t p : Nat) : Int)) ∧ w = w' := by
  obtain ⟨x0, hx0⟩ : ∃ x, t[p]? = some x := ⟨_, List.getElem?_eq_getElem (by omega)⟩
  obtain ⟨ga, off, rfl, hga, _⟩ := hr.at_ hx0
  have HR := Lib.hid hr
  have HN := Lib.hid hn
  have HY := Lib.hid hby
  have ht := hf.text
  have i0 : (0 : Int) ≤ (p : Int) := by omega
  have i1 : (p : Int) + 5 ≤ (c : Int) := by omega
  have i2 : (p : Int) ≤ (p : Int) + 5 := by omega
  have HH : Hid (hs t p = hsF t p 5 % 1024) := Lib.hid rfl
  clear hr hn hby hx0 hf
  go_enter Try.func114, Try.ntmps114
  go_wp2
  go_loop [5, 17] (fun h i => ∃ k : Nat, k ≤ 5 ∧ i = .int .i64 k ∧ h = .int .u32 ((hsF t p k : Nat) : Int)) (fun _ i => 5 - (intOf i).toNat)
  case atStart => exact ⟨0, by omega, rfl, rfl⟩
  case round =>
    obtain ⟨k, hk, rfl, rfl⟩ := hrel
    have hh := hsF_lt t p k
    by_cases hlt : k < 5
    · obtain ⟨x, hx⟩ : ∃ x, t[p + k]? = some x := ⟨_, List.getElem?_eq_getElem (by rw [HN.out]; omega)⟩
      obtain ⟨ga', off', e, hg', hcx⟩ := HR.out.at_ hx
      simp only [Option.some.injEq, Addr.mk.injEq, and_true] at e
      obtain ⟨rfl, rfl⟩ := e
      rw [← Nat.add_assoc] at hcx
      have hx8 : x < 256 := HY.out x (List.mem_of_getElem? hx)
      have HS : Hid (((hsF t p (k + 1) : Nat) : Int) = (((hsF t p k : Nat) : Int) * 31 + (x : Int)) % 4294967296) := Lib.hid (by
        rw [hsF, List.getD_eq_getElem?_getD, hx]
        simp)
      obtain ⟨h0, hh0⟩ : ∃ h0, h0 = hsF t p k := ⟨_, rfl⟩
      rw [← hh0] at HS hh ⊢
      clear hh0 hx
      go_wp2
      go_round
      case rel => exact ⟨k + 1, by omega, by go_num, by rw [HS.out]; congr 1; omega⟩
      case measure => simp [intOf]; omega
    · have hk5 : k = 5 := by omega
      subst hk5
      obtain ⟨h0, hh0⟩ : ∃ h0, h0 = hsF t p 5 := ⟨_, rfl⟩
      have HE : Hid (((hs t p : Nat) : Int) = (h0 : Int) % 1024) := Lib.hid (by rw [HH.out, ← hh0]; omega)
      rw [← hh0] at hh ⊢
      clear hh0
      go_wp2
      go_ret
      exact ⟨by rw [HE.out]; rfl, rfl⟩
end Go.Proofs.Ytljfmcgeiceagaa
