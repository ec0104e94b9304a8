/- The walk of RecordCompacts. -/
import Derived.Test.YtjipebedibjoiaaC2
import Derived.Test.YtjipebedibjoiaaD4
namespace Go.Proofs.Ytjipebedibjoiaa
open Go Go.RowKit
set_option linter.unusedVariables false
set_option linter.unusedSimpArgs false

set_option maxHeartbeats 2000000 in
set_option maxRecDepth 100000 in
theorem recordCompactsU_walk (A0 : Option Addr) (c0 : Nat) (b0 : List Rc) (a1 : Int) (a2 : Int) (w : World) (c0l : b0.length ≤ c0) (r0 : Rd w A0 (rcCells b0)) (y0 : ∀ x ∈ b0, x.Ok) (l0 : b0.length * 72 ≤ 140737488351232) (w1 : -9223372036854775808 ≤ a1 ∧ a1 ≤ 9223372036854775807) (w2 : -9223372036854775808 ≤ a2 ∧ a2 ≤ 9223372036854775807) (ub : b0.length ≤ 1048576) :
    Calls Try.prog 3 #[.slice A0 b0.length c0, .int .i64 a1, .int .i64 a2] w fun e w' => e = .returned (.bool true) ∧ Below w.heap.size w w' := by
  obtain ⟨n, hn⟩ : ∃ n, n = b0.length := ⟨_, rfl⟩
  rw [← hn] at c0l ub ⊢
  have HN := Lib.hid hn.symm
  have HR0 := Lib.hid r0
  have PM := Lib.hid (moved_is A0 n c0 b0 w r0 hn.symm (by omega))
  have PC := Lib.hid (fun A c (l : List Rc) W (hr : Rd W A (rcCells l)) (hl : l.length = n) => compact_is A n c l a1 a2 W hr hl (by omega))
  have PR := Lib.hid (fun W (hb : Below w.heap.size w W) => rcompact_is A0 n c0 b0 a1 a2 W (r0.below hb) hn.symm (by omega))
  have hlen := cmpW_len b0 a1 a2
  rw [← hn] at hlen
  obtain ⟨⟨K, mark⟩, hq⟩ : ∃ q, q = cmpW b0 a1 a2 := ⟨_, rfl⟩
  have PC0 := Lib.hid (fun A c W (hr : Rd W A (rcCells b0)) => compact_is A n c b0 a1 a2 W hr hn.symm (by omega))
  rw [← hq] at PR PC0 hlen
  unfold CmpPost at PC PR PC0
  simp only at PR PC0 hlen
  obtain ⟨N, hN⟩ : ∃ N, N = K.length := ⟨_, rfl⟩
  rw [← hN] at PR PC0 hlen
  have HNN := Lib.hid hN.symm
  have hmm : (mark == mark) = true := by simp
  have bN : ((N : Int) + 64 == IntKind.i64.wrap ((N : Int) + 64)) = true := by rw [IntKind.wrap_i64, beq_iff_eq]; omega
  clear hn r0 y0 l0 hq hN w1 w2
  go_enter Try.func3, Try.ntmps3
  go_wp2_with fail
  refine PM.out.mono ?_
  rintro e wa ⟨B, d, rfl, hof, hba⟩
  obtain ⟨gf, hB, hgf1, hgf2, hcf, hcm⟩ := own_pos hof (by omega)
  subst hB
  have HF := Lib.hid (⟨hof, hba⟩ : FullR w wa gf d n (b0.map mv))
  have RF := Lib.hid (HF.out.rf (by rw [List.length_map, HN.out]))
  clear hof hba hgf1 hgf2 hcf hcm PM
  go_wp2_with fail
  refine (PC.out _ d (b0.map mv) wa RF.out (by rw [List.length_map, HN.out])).mono ?_
  rintro e w3 ⟨A3, c3, rfl, -, hb3⟩
  have HF3 := Lib.hid (HF.out.below hb3)
  clear hb3 HF RF PC
  go_wp2_with fail
  refine (back_is gf d n c0 A0 (b0.map mv) b0 w w3 HF3.out (by rw [List.length_map, HN.out]) HR0.out HN.out (by omega)).mono ?_
  rintro e w4 ⟨rfl, hf4⟩
  have HF4 := Lib.hid hf4
  have G4 := Lib.hid (hf4.rf HN.out)
  clear hf4 HF3
  go_wp2_with fail
  refine (PC0.out _ d w4 G4.out).mono ?_
  rintro e w5 ⟨A5, c5, rfl, ho5, hb5⟩
  have HO5 := Lib.hid ho5
  have HF5 := Lib.hid (HF4.out.below hb5)
  have G5 := Lib.hid (HF5.out.rf HN.out)
  clear ho5 hb5 HF4 G4
  go_wp2_with fail
  refine (PC0.out _ d w5 G5.out).mono ?_
  rintro e w6 ⟨A6, c6, rfl, ho6, hb6⟩
  have HO6 := Lib.hid ho6
  have HB6 := Lib.hid hb6
  clear ho6 hb6 G5
  go_wp2_with fail
  refine (spoilt_own w5.heap.size N _ (rcCells K) w6 HO6.out (by omega) HB6.out.size).mono ?_
  rintro e w7 ⟨rfl, hb7⟩
  have HB7 := Lib.hid (HB6.out.trans hb7)
  have HF7 := Lib.hid (HF5.out.below HB7.out)
  have HO57 := Lib.hid (own_below HO5.out HB7.out)
  clear hb7 HF5 HO5 HB6 HO6 HB7
  go_wp2_with fail
  refine (PR.out _ HF7.out.be).mono ?_
  rintro e w8 ⟨A8, c8, rfl, ho8, hb8⟩
  have HO8 := Lib.hid ho8
  have HF8 := Lib.hid (HF7.out.below hb8)
  have HO58 := Lib.hid (own_below HO57.out hb8)
  clear ho8 hb8 HF7 HO57 PR
  go_wp2_with fail
  refine (alike_yes A5 A8 N c5 c8 K w8 (rd_own HO58.out) (rd_own HO8.out) HNN.out (by omega)).mono ?_
  rintro e w9 ⟨rfl, d9, rfl⟩
  have HF9 := Lib.hid (HF8.out.below (below_drewN (Below.refl _ _) d9))
  have R9 := Lib.hid (HR0.out.below HF9.out.be)
  go_wp2_with fail
  refine (kept_is gf d n c0 A0 b0 w _ HF9.out R9.out HN.out (by omega)).mono ?_
  rintro e w10 ⟨rfl, d10, rfl⟩
  go_wp2_with fail
  go_ret
  exact ⟨rfl, below_drewN HF8.out.be _⟩
end Go.Proofs.Ytjipebedibjoiaa
