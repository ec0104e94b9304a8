/- The walk of SqueezeFar. -/
import Derived.Test.YtmdpncjffikmiaaSqFar
namespace Go.Proofs.Ytmdpncjffikmiaa
open Go Go.RowKit
set_option linter.unusedVariables false
set_option linter.unusedSimpArgs false

theorem far_word (b : Nat) : far b 6 = [250, 251, 252, 253, 254, 255] := by
  rw [far_succ, far_succ, far_succ, far_succ, far_succ, far_succ]
  rw [fb_1 (by omega), fb_1 (by omega), fb_1 (by omega), fb_1 (by omega), fb_1 (by omega), fb_1 (by omega)]
  rfl
theorem far_end (b : Nat) : far b (6 + b) ++ [250, 251, 252, 253, 254, 255] = far b (b + 12) := by
  have e : ∀ j, fb b (6 + b + j) = 250 + j := fun j => by rw [fb_3 (by omega)]; omega
  have e0 := e 0
  rw [show b + 12 = 6 + b + 5 + 1 by omega, far_succ, show 6 + b + 5 = 6 + b + 4 + 1 from rfl, far_succ, show 6 + b + 4 = 6 + b + 3 + 1 from rfl, far_succ, show 6 + b + 3 = 6 + b + 2 + 1 from rfl, far_succ, show 6 + b + 2 = 6 + b + 1 + 1 from rfl, far_succ, far_succ]
  rw [show 6 + b + 1 + 1 = 6 + b + 2 from rfl, show 6 + b + 2 + 1 = 6 + b + 3 from rfl, show 6 + b + 3 + 1 = 6 + b + 4 from rfl, show 6 + b + 4 + 1 = 6 + b + 5 from rfl, e 1, e 2, e 3, e 4, e 5, show fb b (6 + b) = 250 from e0]
  simp

set_option maxHeartbeats 4000000 in
set_option maxRecDepth 100000 in
theorem squeezeFar_walk (a0 : Int) (w : World) (w0 : -9223372036854775808 ≤ a0 ∧ a0 ≤ 9223372036854775807) :
    Calls Try.prog 13 #[.int .i64 a0] w fun e w' => e = .returned (.bool true) ∧ Below w.heap.size w w' := by
  by_cases hout : a0 < 0 ∨ 4000 < a0
  · by_cases hn : a0 < 0
    all_goals
      go_enter Try.func13, Try.ntmps13
      have hgt : ¬ a0 < 0 → 4000 < a0 := fun h => by omega
      first
        | (have hgt2 := hgt hn; clear hgt hout)
        | clear hgt hout
      go_wp2_with fail
      refine (head_is w).mono ?_
      rintro e w1 ⟨rfl, hb1⟩
      have B1 := Lib.hid hb1
      clear hb1
      go_wp2_with fail
      go_ret
      exact ⟨rfl, B1.out⟩
  · obtain ⟨b, rfl⟩ : ∃ b : Nat, a0 = (b : Int) := ⟨a0.toNat, by omega⟩
    have hb4 : b ≤ 4000 := by omega
    clear hout w0
    obtain ⟨s, hs⟩ : ∃ s : List Nat, s = [250, 251, 252, 253, 254, 255] := ⟨_, rfl⟩
    have HS : Hid (#[.int .u8 250, .int .u8 251, .int .u8 252, .int .u8 253, .int .u8 254, .int .u8 255] = (b8 s).toArray ∧ s.length = 6) := Lib.hid (by subst hs; exact ⟨rfl, rfl⟩)
    have HF6 : Hid (s = far b 6) := Lib.hid (by rw [hs, far_word])
    have HFE : Hid (far b (6 + b) ++ s = far b (b + 12)) := Lib.hid (by rw [hs]; exact far_end b)
    have HFN : Hid (b + 6 ≤ 2048 → tokens (far b (b + 12)) = [⟨(far b (b + 12)).take (b + 6), 0, 0⟩, ⟨[], ((b + 6 : Nat) : Int), ((6 : Nat) : Int)⟩]) := Lib.hid far_near
    have HFF : Hid (2048 < b + 6 → tokens (far b (b + 12)) = [⟨far b (b + 12), 0, 0⟩]) := Lib.hid (fun h => far_far h hb4)
    have HT : Hid (tks (far b (b + 12)) = (tokens (far b (b + 12)), 0)) := Lib.hid (tks_short (by rw [far_length]; omega))
    clear hs
    have H0 : Hid ((w.alloc (.cells #[.int .u8 250, .int .u8 251, .int .u8 252, .int .u8 253, .int .u8 254, .int .u8 255] 5)).ownsRow (w.heap.size + 1) 5 1 (.slice none 0 0) 0 (b8 [])) := Lib.hid (World.ownsRow_nil _ _ _ _)
    have HWR : Hid (Rd (w.alloc (.cells #[.int .u8 250, .int .u8 251, .int .u8 252, .int .u8 253, .int .u8 254, .int .u8 255] 5)) (some ⟨w.heap.size, 0, none⟩) (b8 s)) := Lib.hid (rd_lit8 HS.out.1)
    have HBW : Hid (Below w.heap.size w (w.alloc (.cells #[.int .u8 250, .int .u8 251, .int .u8 252, .int .u8 253, .int .u8 254, .int .u8 255] 5))) := Lib.hid ((Below.refl _ _).alloc (Nat.le_refl _) _)
    go_enter Try.func13, Try.ntmps13
    go_wp2_with (at_builtin; (refine app8 _ rfl (.tmp 17) (.tmp 18) rfl (w.heap.size + 1) (.slice none 0 0) 0 [] rfl H0.out (some ⟨w.heap.size, 0, none⟩) 6 6 s rfl HS.out.2 HWR.out (by omega) (by simp) ?_); intro v1 w1 ho1 hg1 hn1; have HB1 := Lib.hid (below_of_grown hg1 (B := w.heap.size + 1) (by simp) (fun q hq => by cases hq)); rw [List.nil_append, HF6.out] at ho1; have HO1 := Lib.hid ho1; clear ho1 hg1 hn1)
    obtain ⟨W, hW⟩ : ∃ W, W = w.alloc (.cells #[.int .u8 250, .int .u8 251, .int .u8 252, .int .u8 253, .int .u8 254, .int .u8 255] 5) := ⟨_, rfl⟩
    have hWs : W.heap.size = w.heap.size + 1 := by rw [hW]; simp
    rw [← hW] at HWR HBW HB1
    clear H0 hW
    go_loopw [4, 5] (fun v i wr => ∃ k : Nat, k ≤ b ∧ i = .int .i64 k ∧ Hid (wr.ownsRow (w.heap.size + 1) 5 1 v (6 + k) (b8 (far b (6 + k)))) ∧ Hid (Below (w.heap.size + 1) W wr)) (fun _ i _ => b - (intOf i).toNat)
    case atStart => exact ⟨0, Nat.zero_le _, rfl, HO1, HB1⟩
    case round =>
      clear HO1 HB1
      obtain ⟨k, hk, rfl, HO, HW⟩ := hrel
      have hsz := HW.out.size
      rw [hWs] at hsz
      by_cases hkn : k < b
      · have HPT : Hid (far b (6 + (k + 1)) = far b (6 + k) ++ [fb b (6 + k)]) := Lib.hid (far_succ b (6 + k))
        by_cases hp : k % 2 = 0
        · have hp2 : ((k : Int) % 2 == 0) = true := by rw [beq_iff_eq]; omega
          have hz : ((k : Int) / 2) % 256 = ((fb b (6 + k) : Nat) : Int) := by rw [fb_e (by omega) (by omega) (by omega)]; omega
          have HZ := Lib.hid hz
          clear hz hp
          go_wp2_with (at_builtin; go_loud ((refine push8 wr rfl (.tmp 28) (.tmp 32) (by rfl) (w.heap.size + 1) u4 (6 + k) (far b (6 + k)) (by rfl) HO.out _ (fb b (6 + k)) HZ.out (by rfl) (by omega) hsz ?_); intro v2 w2 ho2 hg2 hn2; have HO2 := Lib.hid ho2; have HW2 := Lib.hid (HW.out.trans (below_of_grown hg2 hsz (fun q hq => (HO.out.lt q hq).1))); clear ho2 hg2 hn2))
          go_roundw
          case rel => exact ⟨k + 1, by omega, by go_num, Lib.hid (by rw [HPT.out]; exact HO2.out), HW2⟩
          case measure => simp [intOf]; omega
        · have hp2 : ((k : Int) % 2 == 0) = false := by rw [beq_eq_false_iff_ne]; omega
          have hz : 100 + ((k : Int) / 512) = ((fb b (6 + k) : Nat) : Int) := by rw [fb_o (by omega) (by omega) (by omega)]; omega
          have HZ := Lib.hid hz
          clear hz hp
          go_wp2_with (at_builtin; go_loud ((refine push8 wr rfl (.tmp 34) (.tmp 39) (by rfl) (w.heap.size + 1) u4 (6 + k) (far b (6 + k)) (by rfl) HO.out _ (fb b (6 + k)) HZ.out (by rfl) (by omega) hsz ?_); intro v2 w2 ho2 hg2 hn2; have HO2 := Lib.hid ho2; have HW2 := Lib.hid (HW.out.trans (below_of_grown hg2 hsz (fun q hq => (HO.out.lt q hq).1))); clear ho2 hg2 hn2))
          go_roundw
          case rel => exact ⟨k + 1, by omega, by go_num, Lib.hid (by rw [HPT.out]; exact HO2.out), HW2⟩
          case measure => simp [intOf]; omega
      · have hke : k = b := by omega
        subst hke
        have HR := Lib.hid (HWR.out.below (by rw [hWs]; exact HW.out))
        go_wp2_with (at_builtin; (refine app8 _ rfl (.tmp 41) (.tmp 42) rfl (w.heap.size + 1) u4 (6 + k) (far k (6 + k)) rfl HO.out (some ⟨w.heap.size, 0, none⟩) 6 6 s rfl HS.out.2 HR.out (by omega) hsz ?_); intro v2 w2 ho2 hg2 hn2; have HW2 := Lib.hid (HW.out.trans (below_of_grown hg2 hsz (fun q hq => (HO.out.lt q hq).1))); rw [HFE.out, show 6 + k + 6 = k + 12 by omega] at ho2; have HO2 := Lib.hid ho2; clear ho2 hg2 hn2)
        obtain ⟨A2, c2, rfl, _⟩ := own_shape HO2.out
        have hcap := (own_cap HO2.out).1
        have R2 := Lib.hid (rd_own HO2.out)
        have hz2 : w.heap.size + 1 ≤ w2.heap.size := by have := HW2.out.size; omega
        have B2 := Lib.hid (HBW.out.trans (HW2.out.mono (Nat.le_succ _)))
        have FBY := Lib.hid (far_by hb4 (Nat.le_refl (k + 12)))
        have FL := Lib.hid (far_length k (k + 12))
        obtain ⟨F, hF⟩ : ∃ F, F = far k (k + 12) := ⟨_, rfl⟩
        rw [← hF] at HFN HFF HT R2 FBY FL
        clear hF HO2 HO HW HR HFE
        obtain ⟨T, hT⟩ : ∃ T, T = tokens F := ⟨_, rfl⟩
        rw [← hT] at HFN HFF HT
        clear hT
        go_wp2_with fail
        refine ((tokens_is A2 (k + 12) c2 F w2 R2.out FL.out FBY.out (by omega) hcap).mono (fun e w9 h => h.two)).mono ?_
        rw [HT.out]
        rintro e w3 ⟨A3, c3, l3, rfl, hq3, ht3, hb3⟩
        simp only at hq3 ht3 ⊢
        have T3 := Lib.hid ht3
        have Q3 := Lib.hid hq3
        have B3 := Lib.hid (B2.out.trans (hb3.mono (Nat.le_of_succ_le hz2)))
        have hz3 := B3.out.size
        clear ht3 hq3 hb3
        obtain ⟨N, hN⟩ : ∃ N, N = T.length := ⟨_, rfl⟩
        have HNT : Hid (T.length = N) := Lib.hid hN.symm
        rw [← hN] at T3 ⊢
        clear hN
        have f1 : IntKind.i64.wrap ((k : Int) + 6) = (k : Int) + 6 := IntWalk.i64_in _ (by omega)
        by_cases hnear : k + 6 ≤ 2048
        · have hTT := HFN.out hnear
          have hN2 : N = 2 := by rw [← HNT.out, hTT]; rfl
          obtain ⟨x, hx⟩ : ∃ x, l3[1]? = some x := ⟨_, List.getElem?_eq_getElem (by rw [T3.out.len]; omega)⟩
          have hxt : T[1]? = some x.tk := by rw [← Q3.out]; exact toks_get hx
          rw [hTT] at hxt
          obtain ⟨q, hq⟩ : ∃ q, q = 1 := ⟨_, rfl⟩
          rw [← hq] at hx
          obtain ⟨g, off, rfl, hg, hc0, hc1, hc2⟩ := T3.out.rd.tok hx
          obtain ⟨xA, xc, lit, xd, xl⟩ := x
          simp only [TkV.tk, List.getElem?_cons_zero, List.getElem?_cons_succ, Option.some.injEq, Tk.mk.injEq] at hxt
          obtain ⟨e1, e2, e3⟩ := hxt
          have hll : lit.length = 0 := by rw [← e1]; rfl
          have e2' : xd = (k : Int) + 6 := by omega
          have e3' : xl = 6 := by omega
          subst e2' e3'
          simp only at hc0 hc1 hc2
          rw [hll] at hc0
          have f0 : IntKind.i64.wrap ((N : Int) - 1) = (q : Int) := by rw [IntWalk.i64_in _ (by omega)]; omega
          have f2 : ((N : Int) == 0) = false := by rw [beq_eq_false_iff_ne]; omega
          have f3 : (0 : Int) ≤ (q : Int) := by omega
          have f4 : (q : Int) < (N : Int) := by omega
          have f5 : (k : Int) + 6 ≤ 2048 := by omega
          clear hTT hx e1 e2 e3 hll hq hN2 hnear HFN HFF
          go_wp2_with fail
          go_ret
          exact ⟨rfl, B3.out.alloc hz3 _⟩
        · have hTT := HFF.out (by omega)
          have hN2 : N = 1 := by rw [← HNT.out, hTT]; rfl
          obtain ⟨x, hx⟩ : ∃ x, l3[0]? = some x := ⟨_, List.getElem?_eq_getElem (by rw [T3.out.len]; omega)⟩
          have hxt : T[0]? = some x.tk := by rw [← Q3.out]; exact toks_get hx
          rw [hTT] at hxt
          obtain ⟨q, hq⟩ : ∃ q, q = 0 := ⟨_, rfl⟩
          rw [← hq] at hx
          obtain ⟨g, off, rfl, hg, hc0, hc1, hc2⟩ := T3.out.rd.tok hx
          obtain ⟨xA, xc, lit, xd, xl⟩ := x
          simp only [TkV.tk, List.getElem?_cons_zero, List.getElem?_cons_succ, Option.some.injEq, Tk.mk.injEq] at hxt
          obtain ⟨e1, e2, e3⟩ := hxt
          have hll : lit.length = k + 12 := by rw [← e1]; exact FL.out
          subst e2 e3
          simp only at hc0 hc1 hc2
          obtain ⟨L, hL⟩ : ∃ L, L = lit.length := ⟨_, rfl⟩
          rw [← hL] at hc0 hll
          have f0 : IntKind.i64.wrap ((N : Int) - 1) = (q : Int) := by rw [IntWalk.i64_in _ (by omega)]; omega
          have f2 : ((N : Int) == 0) = false := by rw [beq_eq_false_iff_ne]; omega
          have f3 : (0 : Int) ≤ (q : Int) := by omega
          have f4 : (q : Int) < (N : Int) := by omega
          have f5 : ¬ (k : Int) + 6 ≤ 2048 := by omega
          have f6 : (6 : Int) ≤ (L : Int) := by omega
          clear hTT hx e1 hll hL hq hN2 hnear HFN HFF
          go_wp2_with fail
          go_ret
          exact ⟨rfl, B3.out.alloc hz3 _⟩
end Go.Proofs.Ytmdpncjffikmiaa
