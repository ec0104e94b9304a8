/- The finder: how long a match is; a place is passed. -/
import Derived.Test.YtljfmcgeiceagaaSqNum
import Derived.Test.YtljfmcgeiceagaaF3
namespace Go.Proofs.Ytljfmcgeiceagaa
open Go Go.RowKit
set_option linter.unusedVariables false
set_option linter.unusedSimpArgs false

set_option maxHeartbeats 1000000 in
set_option maxRecDepth 100000 in
theorem alike_is (g : Nat) (A : Option Addr) (n c p i m : Nat) (t : List Nat) (w : World) (hf : Fnd w g A n c t m) (hr : Rd w A (b8 t)) (hn : t.length = n) (hl : n ≤ 4096) (hp : p < i) (hi : i ≤ n) :
    Calls Try.prog 115 #[.pointer (some ⟨g, 0, none⟩), .int .i64 (p : Int), .int .i64 (i : Int)] w fun e w' => e = .returned (.int .i64 ((ml t i (i - p) : Nat) : Int)) ∧ ∃ d, w' = w.drewN d := by
  have HR := Lib.hid hr
  have HN := Lib.hid hn
  have ht := hf.text
  obtain ⟨d, hd⟩ : ∃ d, d = i - p := ⟨_, rfl⟩
  rw [← hd]
  obtain ⟨q, hq⟩ : ∃ q, q = ml t i d := ⟨_, rfl⟩
  have HQ : Hid (q = mlF t i d (258 - 0) 0) := Lib.hid hq
  rw [← hq]
  clear hr hn hq hf
  go_enter Try.func115, Try.ntmps115
  go_wp2
  go_loopw [7] (fun v wr => ∃ (k j : Nat), k ≤ 258 ∧ i + k ≤ n ∧ v = .int .i64 k ∧ Hid (q = mlF t i d (258 - k) k) ∧ wr = w.drewN j) (fun v _ => 258 - (intOf v).toNat)
  case atStart => exact ⟨0, 0, by omega, by omega, rfl, HQ, rfl⟩
  case round =>
    clear HQ
    obtain ⟨k, j, hk, hik, rfl, HQ, rfl⟩ := hrel
    by_cases h1 : k < 258
    · by_cases h2 : i + k < n
      · obtain ⟨x, hx⟩ : ∃ x, t[i + k]? = some x := ⟨_, List.getElem?_eq_getElem (by rw [HN.out]; exact h2)⟩
        obtain ⟨y, hy⟩ : ∃ y, t[p + k]? = some y := ⟨_, List.getElem?_eq_getElem (by rw [HN.out]; omega)⟩
        obtain ⟨ga, off, rfl, hg, hcx⟩ := HR.out.at_ hx
        obtain ⟨g', off', e, hg', hcy⟩ := HR.out.at_ hy
        simp only [Option.some.injEq, Addr.mk.injEq, and_true] at e
        obtain ⟨rfl, rfl⟩ := e
        have s1 : IntKind.i64.wrap ((i : Int) + (k : Int)) = (i : Int) + (k : Int) := IntWalk.i64_in _ (by omega)
        have s3 : IntKind.i64.wrap ((p : Int) + (k : Int)) = (p : Int) + (k : Int) := IntWalk.i64_in _ (by omega)
        have s2 : ((i : Int) + (k : Int)).toNat = i + k := by omega
        have s4 : ((p : Int) + (k : Int)).toNat = p + k := by omega
        have b1 : (0 : Int) ≤ (i : Int) + (k : Int) := by omega
        have b2 : (i : Int) + (k : Int) < (n : Int) := by omega
        have b3 : (0 : Int) ≤ (p : Int) + (k : Int) := by omega
        have b4 : (p : Int) + (k : Int) < (n : Int) := by omega
        have b5 : (k : Int) < 258 := by omega
        have HF : Hid (258 - k = (258 - (k + 1)) + 1) := Lib.hid (by omega)
        have HX : Hid (t.getD (i + k) 0 = x ∧ t.getD (i + k - d) 0 = y) := Lib.hid (by rw [show i + k - d = p + k by omega]; simp [List.getD_eq_getElem?_getD, hx, hy])
        have HD := Lib.hid hd
        clear hd
        by_cases hxy : x = y
        · have he : ((y : Int) == (x : Int)) = true := by rw [beq_iff_eq]; omega
          have HQ2 : Hid (q = mlF t i d (258 - (k + 1)) (k + 1)) := Lib.hid (by rw [HQ.out, HF.out, mlF, if_pos ⟨by rw [HN.out]; exact h2, by rw [HX.out.1, HX.out.2, hxy]⟩])
          clear hx hy hxy HQ
          go_wp2
          go_quiet (fail)
          clear s1 s2 s3 s4
          go_wp2
          go_roundw
          case rel => exact ⟨k + 1, _, by omega, by omega, by go_num, HQ2, rfl⟩
          case measure => simp [intOf]; omega
        · have he : ((y : Int) == (x : Int)) = false := by rw [beq_eq_false_iff_ne]; omega
          have HQ2 : Hid (q = k) := Lib.hid (by rw [HQ.out, HF.out, mlF, if_neg (fun h => hxy (by rw [← HX.out.1, ← HX.out.2]; exact h.2))])
          clear hx hy hxy HQ
          go_wp2
          go_quiet (fail)
          clear s1 s2 s3 s4
          go_wp2
          go_ret
          exact ⟨by rw [HQ2.out]; rfl, _, World.drewN_drewN ..⟩
      · have hie : i + k = n := by omega
        have b5 : (k : Int) < 258 := by omega
        have s1 : IntKind.i64.wrap ((i : Int) + (k : Int)) = (i : Int) + (k : Int) := IntWalk.i64_in _ (by omega)
        have b2 : decide ((i : Int) + (k : Int) < (n : Int)) = false := by rw [decide_eq_false_iff_not]; omega
        have HQ2 : Hid (q = k) := Lib.hid (by rw [HQ.out, show 258 - k = (258 - (k + 1)) + 1 by omega, mlF, if_neg (fun h => by have h1 := h.1; rw [HN.out] at h1; omega)])
        clear hie HQ hd
        go_wp2
        go_quiet (fail)
        clear s1
        go_wp2
        go_ret
        exact ⟨by rw [HQ2.out]; rfl, _, World.drewN_drewN ..⟩
    · have hke : k = 258 := by omega
      have HQ2 : Hid (q = 258) := Lib.hid (by rw [HQ.out, hke]; rfl)
      subst hke
      clear HQ h1 hd
      go_wp2
      go_quiet (fail)
      go_wp2
      go_ret
      exact ⟨by rw [HQ2.out]; rfl, _, World.drewN_drewN ..⟩

set_option maxHeartbeats 1000000 in
set_option maxRecDepth 100000 in
theorem passes_is (g : Nat) (A : Option Addr) (n c m : Nat) (t : List Nat) (w : World) (hf : Fnd w g A n c t m) (hr : Rd w A (b8 t)) (hn : t.length = n) (hby : By t) (hl : n ≤ 4096) (hc : n ≤ c) (hm : m < n) :
    Calls Try.prog 110 #[.pointer (some ⟨g, 0, none⟩), .int .i64 (m : Int)] w fun e w' => e = .returned (.tuple #[]) ∧ Fnd w' g A n c t (m + 1) ∧ KeptS w w' (fun q => q = g) ∧ w'.heap.size = w.heap.size := by
  have HN := Lib.hid hn
  have ht := hf.text
  by_cases h5 : m + 5 ≤ n
  · have PN := Lib.hid (fnumber_is g A n c m m t w hf hr hn hby hl hc h5)
    have hh := hs_lt t m
    have ca := hf.ahead (p := m) (by omega)
    have cl := hf.last hh
    have fa := hf.free (1025 + m)
    have fl := hf.free (1 + hs t m)
    have HP := Lib.hid (hf.pass (by omega) (by omega))
    have HF := Lib.hid hf
    clear hr hn hby hf
    go_enter Try.func110, Try.ntmps110
    go_wp2_with (go_at_call 114; refine PN.out.mono ?_; rintro e w1 ⟨rfl, rfl⟩)
    have i0 : (0 : Int) ≤ ((hs t m : Nat) : Int) := by omega
    have i1 : ((hs t m : Nat) : Int) < 1024 := by omega
    have i2 : (0 : Int) ≤ (m : Int) := by omega
    have i3 : (m : Int) < 4096 := by omega
    go_region
    go_wp2
    go_end0
    refine ⟨rfl, HP.out, ?_, by simp⟩
    have k := (kept1_set w g (1025 + m) (.int .i64 ((lastOf t m (hs t m) : Nat) : Int))).trans (kept1_set _ g (1 + hs t m) (.int .i64 ((m : Int) + 1))) (fun q hq => .inl hq)
    exact ⟨k.os, k.tape, k.output, k.size, k.block⟩
  · have HE : Hid (Fnd w g A n c t (m + 1)) := Lib.hid (by unfold Fnd; rw [fcl_late _ t (by omega)]; exact hf)
    clear hr hn hby hf
    go_enter Try.func110, Try.ntmps110
    go_wp2_with fail
    exact bodyPost_ret (v := .tuple #[]) (by simp [results, Try.results110, go_sem]) rfl ⟨rfl, HE.out, KeptS.refl _ _, rfl⟩
end Go.Proofs.Ytljfmcgeiceagaa
