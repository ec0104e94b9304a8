/- The walk of WireKnows. -/
import Derived.Test.YtljfmcgeiceagaaK1
import Derived.Test.YtljfmcgeiceagaaWiCodes
namespace Go.Proofs.Ytljfmcgeiceagaa
open Go Go.RowKit
set_option linter.unusedVariables false
set_option linter.unusedSimpArgs false

theorem codeOf_all : ∀ v ∈ codes.flatten, ∃ k : Fin 12, codeOf v = (k.val : Int) ∧ (k.val = 0 ↔ v = 0) := by decide +kernel
theorem codeOf_rng (e : Int) : ∃ k : Nat, k ≤ 11 ∧ codeOf e = (k : Int) ∧ (k = 0 ↔ e = 0) := by
  by_cases h : e ∈ codes.flatten
  · obtain ⟨k, h1, h2⟩ := codeOf_all e h
    exact ⟨k.val, by omega, h1, h2⟩
  · refine ⟨1, by omega, by unfold codeOf; rw [if_neg h]; rfl, ?_⟩
    constructor
    · intro h1; omega
    · rintro rfl; exact absurd (by decide) h
theorem own_le2 {w : World} {base n c size : Nat} {e : TypeId} {A : Option Addr} {xs : List Value} (h : w.ownsRow base e size (.slice A n c) n xs) : n ≤ c := by
  obtain ⟨A', c', hv, h1, _, _⟩ := own_shape h
  injection hv with _ _ h3
  subst h3
  exact h1
theorem enc_ping (k : Nat) (w : World) (hk : k ≤ 11) :
    Calls Try.prog 25 #[.agg #[.int .u32 0, .int .i64 1, .int .i64 (k : Int), .int .i64 0, .int .i64 0, .bool false, .slice none 0 0, .slice none 0 0]] w fun e w' => ∃ A c, e = .returned (.tuple #[.slice A 18 c, .int .i64 0]) ∧ 18 ≤ c ∧ Rd w' A (b8 (wrap 197 (bts 0 1 k))) ∧ Below w.heap.size w w' := by
  have P := encode0_is 0 1 k w (by omega) (by omega) (by omega) hk
  have hl : (wrap 197 (bts 0 1 k)).length = 18 := by rw [wrap_length]; rfl
  unfold FramePost respV at P
  refine Calls.mono P ?_
  rintro e w' ⟨A, c, he, ho, hb⟩
  rw [hl] at he ho
  exact ⟨A, c, he, own_le2 ho, rd_own ho, hb⟩
theorem dec_ping (A : Option Addr) (c k : Nat) (w : World) (hc : 18 ≤ c) (hr : Rd w A (b8 (wrap 197 (bts 0 1 k)))) (hk : k ≤ 11) :
    Calls Try.prog 26 #[.slice A 18 c] w fun e w' => e = .returned (.tuple #[.agg #[.int .u32 0, .int .i64 1, .int .i64 (k : Int), .int .i64 0, .int .i64 0, .bool false, .slice none 0 0, .slice none 0 0], .int .i64 0]) ∧ Below w.heap.size w w' :=
  decode0_is A c 0 1 k w hr hc (by omega) (by omega) (by omega) hk
set_option maxHeartbeats 4000000 in
set_option maxRecDepth 100000 in
theorem wireKnows_walk (e0 : Int) (w : World) (h0 : -9223372036854775808 ≤ e0 ∧ e0 ≤ 9223372036854775807) :
    Calls Try.prog 6 #[.int .i64 e0] w fun e w' => e = .returned (.bool true) ∧ Below w.heap.size w w' := by
  obtain ⟨k, hk, hc, hz⟩ := codeOf_rng e0
  have PC := codeOf_any e0 w
  rw [hc] at PC
  have PC' := Lib.hid PC
  have PE := Lib.hid (fun W => enc_ping k W hk)
  have PD := Lib.hid (fun A c W h1 h2 => dec_ping A c k W h1 h2 hk)
  have PF := Lib.hid (fun W => codeOf_any 33 W)
  rw [show codeOf 33 = 4 from by decide +kernel] at PF
  have g1 : decide ((0 : Int) ≤ (k : Int)) = true := decide_eq_true (by omega)
  have g2 : decide ((k : Int) ≤ 11) = true := decide_eq_true (by omega)
  have HB := Lib.hid (Below.refl w.heap.size w)
  clear hk hc PC h0
  by_cases he : e0 = 0
  · subst he
    obtain rfl : k = 0 := hz.2 rfl
    clear hz
    go_enter Try.func6, Try.ntmps6
    go_wp2_with fail
    refine PC'.out.mono ?_
    rintro e w1 ⟨rfl, hb⟩
    have HB1 := Lib.hid (HB.out.trans (hb.mono HB.out.size))
    clear hb PC' HB
    go_wp2_with fail
    refine (PE.out _).mono ?_
    rintro e w2 ⟨A2, c2, rfl, hc2, hr2, hb⟩
    have HB2 := Lib.hid (HB1.out.trans (hb.mono HB1.out.size))
    have HC2 := Lib.hid hc2
    have HR2 := Lib.hid hr2
    clear hb PE HB1 hc2 hr2
    go_wp2_with fail
    refine (PD.out _ _ _ HC2.out HR2.out).mono ?_
    rintro e w3 ⟨rfl, hb⟩
    have HB3 := Lib.hid (HB2.out.trans (hb.mono HB2.out.size))
    clear hb PD HB2 HC2 HR2
    go_wp2_with fail
    refine (PF.out _).mono ?_
    rintro e w4 ⟨rfl, hb⟩
    have HB4 := Lib.hid ((HB3.out.alloc HB3.out.size _).trans (hb.mono (HB3.out.alloc HB3.out.size _).size))
    clear hb PF
    go_wp2_with fail
    go_ret
    exact ⟨by first | rfl | simp, HB4.out⟩
  · have hk0 : ¬ (k : Int) = 0 := fun h => he (hz.1 (by omega))
    have g3 : ((k : Int) == 0) = false := beq_false_of_ne hk0
    have g4 : (e0 == 0) = false := beq_false_of_ne he
    clear hz he hk0
    go_enter Try.func6, Try.ntmps6
    go_wp2_with fail
    refine PC'.out.mono ?_
    rintro e w1 ⟨rfl, hb⟩
    have HB1 := Lib.hid (HB.out.trans (hb.mono HB.out.size))
    clear hb PC' HB
    go_wp2_with fail
    refine (PE.out _).mono ?_
    rintro e w2 ⟨A2, c2, rfl, hc2, hr2, hb⟩
    have HB2 := Lib.hid (HB1.out.trans (hb.mono HB1.out.size))
    have HC2 := Lib.hid hc2
    have HR2 := Lib.hid hr2
    clear hb PE HB1 hc2 hr2
    go_wp2_with fail
    refine (PD.out _ _ _ HC2.out HR2.out).mono ?_
    rintro e w3 ⟨rfl, hb⟩
    have HB3 := Lib.hid (HB2.out.trans (hb.mono HB2.out.size))
    clear hb PD HB2 HC2 HR2
    go_wp2_with fail
    refine (PF.out _).mono ?_
    rintro e w4 ⟨rfl, hb⟩
    have HB4 := Lib.hid ((HB3.out.alloc HB3.out.size _).trans (hb.mono (HB3.out.alloc HB3.out.size _).size))
    clear hb PF
    go_wp2_with fail
    go_ret
    exact ⟨by first | rfl | simp, HB4.out⟩
end Go.Proofs.Ytljfmcgeiceagaa
