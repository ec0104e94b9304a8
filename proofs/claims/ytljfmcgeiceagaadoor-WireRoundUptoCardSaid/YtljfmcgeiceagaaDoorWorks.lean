/- works: a small request and a small response, there and back. -/
import Derived.Test.YtljfmcgeiceagaaDoorK1
import Derived.Test.YtljfmcgeiceagaaDoorQ1
namespace Go.Proofs.YtljfmcgeiceagaaDoor
open Go Go.RowKit
set_option linter.unusedVariables false
set_option linter.unusedSimpArgs false

theorem decq_wrap {x : Rq} (hm : MayQ x) (hk : x.Ok) : decq (wrap 197 (bdyq x)) = (x, 0) := by
  have hl := bdyq_len hm hk
  have hb := bd_wrap (bdyq_by hm) (by omega) (by omega)
  unfold decq
  rw [hb, if_neg (by simp), (prq_fw hm hk).1]
  rfl
theorem ownQ_le {w : World} {base n c size : Nat} {e : TypeId} {A : Option Addr} {xs : List Value} (h : w.ownsRow base e size (.slice A n c) n xs) : n ≤ c := by
  obtain ⟨A', c', hv, h1, _, _⟩ := own_shape h
  injection hv with _ _ h3
  subst h3
  exact h1
def rq7 : Rq := ⟨7, 7, ⟨#[116]⟩, ⟨#[107]⟩, ⟨#[]⟩, 0, 0, 0, 0⟩
theorem rq7_may : MayQ rq7 := okq_may.1 (by decide +kernel)
theorem rq7_ok : rq7.Ok := rq7_may.ok (by decide) (by unfold r64 rq7; simp) (by unfold r64 rq7; simp) (by unfold r64 rq7; simp) (by unfold r64 rq7; simp)
set_option maxHeartbeats 4000000 in
set_option maxRecDepth 100000 in
theorem alikez_is (id op c : Nat) (w : World) :
    Calls Tryd.prog 22 #[respV id op c, respV id op c] w fun e w' => e = .returned (.bool true) ∧ Below w.heap.size w w' := by
  have h1 : ((id : Int) != (id : Int)) = false := by simp
  have h2 : ((op : Int) != (op : Int)) = false := by simp
  have h3 : ((c : Int) != (c : Int)) = false := by simp
  unfold respV
  go_enter Tryd.func22, Tryd.ntmps22
  go_wp2_with fail
  go_loop [5] (fun i => i = .int .i64 0) (fun i => 0)
  case atStart => rfl
  case round =>
    subst hrel
    go_wp2_with fail
    go_loop [6] (fun i => i = .int .i64 0) (fun i => 0)
    case atStart => rfl
    case round =>
      subst hrel
      go_wp2_with fail
      go_ret
      exact ⟨rfl, ((Below.refl _ _).alloc (Nat.le_refl _) _).alloc (by simp) _⟩
set_option maxHeartbeats 4000000 in
set_option maxRecDepth 100000 in
theorem works16_is (w : World) (ht : Tab w) : Calls Tryd.prog 18 #[] w fun e w' => e = .returned (.bool true) ∧ Below w.heap.size w w' := by
  have HT := Lib.hid ht
  obtain ⟨X, hX⟩ : ∃ X, X = wrap 197 (bdyq rq7) := ⟨_, rfl⟩
  have hXl : X.length ≤ 1180 := by rw [hX, wrap_length]; have := (bdyq_len rq7_may rq7_ok).2; omega
  have hXb : By X := by rw [hX]; exact wrap_by (by omega) (bdyq_by rq7_may)
  have hd : decq X = (rq7, 0) := by rw [hX]; exact decq_wrap rq7_may rq7_ok
  have PE : ∀ W, Tab W → Calls Tryd.prog 8 #[.agg #[.int .u32 7, .int .i64 7, .string ⟨#[116]⟩, .string ⟨#[107]⟩, .string ⟨#[]⟩, .int .i64 0, .int .i64 0, .int .i64 0, .int .i64 0]] W (FramePost W (X, 0)) := fun W h => by
    have := encodeq_is rq7 W h rq7_ok
    rw [show renq rq7 = (X, 0) from by rw [hX]; exact if_pos (okq_may.2 rq7_may)] at this
    exact this
  have PD : ∀ A c W, Tab W → Rd W A (b8 X) → X.length ≤ c → Calls Tryd.prog 12 #[.slice A X.length c] W (fun e w' => e = .returned (.tuple #[.agg #[.int .u32 7, .int .i64 7, .string ⟨#[116]⟩, .string ⟨#[107]⟩, .string ⟨#[]⟩, .int .i64 0, .int .i64 0, .int .i64 0, .int .i64 0], .int .i64 0]) ∧ Below W.heap.size W w') := fun A c W h1 h2 h3 => by
    have := decodeq_is A X.length c X W h2 rfl h3 hXb (by omega) h1
    rw [hd] at this
    exact this
  have HPE := Lib.hid PE
  have HPD := Lib.hid PD
  have PR := Lib.hid (fun W => encode0_is 7 7 0 W (by omega) (by omega) (by omega) (by omega))
  have PS := Lib.hid (fun A cc W h1 h2 => decode0_is A cc 7 7 0 W h1 h2 (by omega) (by omega) (by omega) (by omega))
  have PA := Lib.hid (fun W => alikez_is 7 7 0 W)
  have hl18 : (wrap 197 (bts 7 7 0)).length = 18 := by rw [wrap_length]; rfl
  unfold FramePost at HPE PR
  unfold respV at PR PS PA
  simp only at HPE PR
  rw [hl18] at PR
  have e7 : ((7 : Nat) : Int) = 7 := rfl
  have e0 : ((0 : Nat) : Int) = 0 := rfl
  rw [e7, e0] at PR PS PA
  clear hX hXl hXb hd PE PD ht hl18 e7 e0
  have HL := Lib.hid (rfl : X.length = X.length)
  go_enter Tryd.func18, Tryd.ntmps18
  go_wp2_with fail
  have HB0 := Lib.hid ((Below.refl w.heap.size w).alloc (Nat.le_refl _) (.cells #[.int .u32 7, .int .i64 7, .string ⟨#[116]⟩, .string ⟨#[107]⟩, .string ⟨#[]⟩, .int .i64 0, .int .i64 0, .int .i64 0, .int .i64 0] 24))
  refine (HPE.out _ (HT.out.bel HB0.out)).mono ?_
  rintro e w1 ⟨A1, c1, rfl, ho1, hb1⟩
  have HX : Hid (QBox w1 w.heap.size rq7) := Lib.hid ((show QBox _ w.heap.size rq7 from heap_alloc_new w _).below hb1 (by simp))
  have HB1 := Lib.hid (HB0.out.trans (hb1.mono (by simp)))
  have HO1 := Lib.hid ho1
  clear ho1 hb1 HB0 HPE
  go_wp2_with fail
  refine (HPD.out _ _ _ (HT.out.bel HB1.out) (rd_own HO1.out) (ownQ_le HO1.out)).mono ?_
  rintro e w2 ⟨rfl, hb2⟩
  have HX2 := Lib.hid (HX.out.below hb2 HX.out.lt)
  have HB2 := Lib.hid (HB1.out.trans (hb2.mono HB1.out.size))
  clear hb2 HB1 HX HO1 HPD
  go_wp2_with fail
  have HBA := Lib.hid (((Below.refl w2.heap.size w2).alloc (Nat.le_refl _) (.cells #[.int .u32 7, .int .i64 7, .string ⟨#[116]⟩, .string ⟨#[107]⟩, .string ⟨#[]⟩, .int .i64 0, .int .i64 0, .int .i64 0, .int .i64 0] 24)).alloc (by simp) (.cells #[.int .u32 7, .int .i64 7, .int .i64 0, .int .i64 0, .int .i64 0, .bool false, .slice none 0 0, .slice none 0 0] 39))
  refine (PR.out _).mono ?_
  rintro e w3 ⟨A3, c3, rfl, ho3, hb3⟩
  have HXA : Hid (QBox w3 w.heap.size rq7) := Lib.hid ((HX2.out.below HBA.out HX2.out.lt).below hb3 (Nat.lt_of_lt_of_le HX2.out.lt HBA.out.size))
  have HXB : Hid (QBox w3 w2.heap.size rq7) := Lib.hid (((show QBox _ w2.heap.size rq7 from heap_alloc_new w2 _).below ((Below.refl _ _).alloc (Nat.le_refl _) _) (by simp)).below hb3 (by simp; omega))
  have HXC : Hid (RowA w3 (w2.heap.size + 1) #[.int .u32 7, .int .i64 7, .int .i64 0, .int .i64 0, .int .i64 0, .bool false, .slice none 0 0, .slice none 0 0] 39) := Lib.hid (by
    have h := heap_alloc_new (w2.alloc (.cells #[.int .u32 7, .int .i64 7, .string ⟨#[116]⟩, .string ⟨#[107]⟩, .string ⟨#[]⟩, .int .i64 0, .int .i64 0, .int .i64 0, .int .i64 0] 24)) (.cells #[.int .u32 7, .int .i64 7, .int .i64 0, .int .i64 0, .int .i64 0, .bool false, .slice none 0 0, .slice none 0 0] 39)
    rw [show (w2.alloc (.cells #[.int .u32 7, .int .i64 7, .string ⟨#[116]⟩, .string ⟨#[107]⟩, .string ⟨#[]⟩, .int .i64 0, .int .i64 0, .int .i64 0, .int .i64 0] 24)).heap.size = w2.heap.size + 1 by simp] at h
    exact RowA.below h hb3 (by simp))
  have HB3 := Lib.hid ((HB2.out.trans (HBA.out.mono HB2.out.size)).trans (hb3.mono (by have := HB2.out.size; simp; omega)))
  have HO3 := Lib.hid ho3
  have hs1 : w.heap.size < w3.heap.size := HXA.out.lt
  have hs2 : w2.heap.size < w3.heap.size := HXB.out.lt
  have hs3 : w2.heap.size + 1 < w3.heap.size := lt_of_block HXC.out
  clear ho3 hb3 HBA HX2 HB2 PR
  go_wp2_with fail
  refine (PS.out _ _ _ (rd_own HO3.out) (ownQ_le HO3.out)).mono ?_
  rintro e w4 ⟨rfl, hb4⟩
  obtain ⟨x0, x1, x2, x3, x4, x5, x6, x7, x8⟩ := (HXA.out.below hb4 hs1).facts
  obtain ⟨y0, y1, y2, y3, y4, y5, y6, y7, y8⟩ := (HXB.out.below hb4 hs2).facts
  simp only [rq7] at x0 x1 x2 x3 x4 x5 x6 x7 x8 y0 y1 y2 y3 y4 y5 y6 y7 y8
  rw [show ((7 : Nat) : Int) = 7 from rfl] at x0 y0
  have z0 : w4.cell? ⟨w2.heap.size + 1, 0, none⟩ = some (.int .u32 7) := (HXC.out.below hb4 hs3).cell 0
  have z1 : w4.cell? ⟨w2.heap.size + 1, 1, none⟩ = some (.int .i64 7) := (HXC.out.below hb4 hs3).cell 1
  have z2 : w4.cell? ⟨w2.heap.size + 1, 2, none⟩ = some (.int .i64 0) := (HXC.out.below hb4 hs3).cell 2
  have z3 : w4.cell? ⟨w2.heap.size + 1, 3, none⟩ = some (.int .i64 0) := (HXC.out.below hb4 hs3).cell 3
  have z4 : w4.cell? ⟨w2.heap.size + 1, 4, none⟩ = some (.int .i64 0) := (HXC.out.below hb4 hs3).cell 4
  have z5 : w4.cell? ⟨w2.heap.size + 1, 5, none⟩ = some (.bool false) := (HXC.out.below hb4 hs3).cell 5
  have z6 : w4.cell? ⟨w2.heap.size + 1, 6, none⟩ = some (.slice none 0 0) := (HXC.out.below hb4 hs3).cell 6
  have z7 : w4.cell? ⟨w2.heap.size + 1, 7, none⟩ = some (.slice none 0 0) := (HXC.out.below hb4 hs3).cell 7
  have HB4 := Lib.hid (HB3.out.trans (hb4.mono HB3.out.size))
  have hq1 := Nat.lt_of_lt_of_le hs1 hb4.size
  have hq2 := Nat.lt_of_lt_of_le hs2 hb4.size
  have hq3 := Nat.lt_of_lt_of_le hs3 hb4.size
  clear hb4 HXA HXB HXC HB3 PS HO3
  go_wp2_with fail
  refine (PA.out _).mono ?_
  rintro e w5 ⟨rfl, hb5⟩
  have HB5 := Lib.hid ((HB4.out.alloc HB4.out.size _).trans (hb5.mono (HB4.out.alloc HB4.out.size _).size))
  clear hb5
  go_wp2_with fail
  go_ret
  exact ⟨by first | rfl | simp, HB5.out⟩
end Go.Proofs.YtljfmcgeiceagaaDoor
