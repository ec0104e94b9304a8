/- chroniclelaw16.alike at two responses of the same content. -/
import Derived.Test.YtljfmcgeiceagaaGreatRsRd
import Derived.BigQuiet
namespace Go.Proofs.YtljfmcgeiceagaaGreat
open Go Go.RowKit
set_option linter.unusedVariables false
set_option linter.unusedSimpArgs false

set_option maxHeartbeats 4000000 in
set_option maxRecDepth 100000 in
theorem alikep_is (x : Rp) (A1 A2 B1 B2 : Option Addr) (nn nr c1 c2 d1 d2 : Nat) (w : World) (ha : Rd w A1 (strs x.names)) (ha2 : Rd w A2 (strs x.names)) (hb : Rd w B1 (rcCells x.recs)) (hb2 : Rd w B2 (rcCells x.recs)) (hnn : x.names.length = nn) (hnr : x.recs.length = nr) (hl : nn ≤ 1000000000000000) (hl2 : nr ≤ 2000000000000) :
    Calls Tryz.prog 18 #[x.V (.slice B1 nr d1) (.slice A1 nn c1), x.V (.slice B2 nr d2) (.slice A2 nn c2)] w fun e w' => e = .returned (.bool true) ∧ Below w.heap.size w w' := by
  obtain ⟨id, op, code, off, num, more, names, recs⟩ := x
  unfold Rp.V
  simp only at ha ha2 hb hb2 hnn hnr ⊢
  have hB0 := ((Below.refl w.heap.size w).alloc (Nat.le_refl _) (.cells #[.int .u32 (id : Int), .int .i64 op, .int .i64 code, .int .i64 off, .int .i64 num, .bool more, .slice B1 nr d1, .slice A1 nn c1] 26))
  have hB1 := hB0.alloc hB0.size (.cells #[.int .u32 (id : Int), .int .i64 op, .int .i64 code, .int .i64 off, .int .i64 num, .bool more, .slice B2 nr d2, .slice A2 nn c2] 26)
  have hx1 : B8 _ w.heap.size (.int .u32 (id : Int)) (.int .i64 op) (.int .i64 code) (.int .i64 off) (.int .i64 num) (.bool more) (.slice B1 nr d1) (.slice A1 nn c1) := heap_alloc_new w _
  have hx1 := hx1.below ((Below.refl _ _).alloc (Nat.le_refl _) (.cells #[.int .u32 (id : Int), .int .i64 op, .int .i64 code, .int .i64 off, .int .i64 num, .bool more, .slice B2 nr d2, .slice A2 nn c2] 26)) hx1.lt
  have hx2 : B8 _ (w.alloc (.cells #[.int .u32 (id : Int), .int .i64 op, .int .i64 code, .int .i64 off, .int .i64 num, .bool more, .slice B1 nr d1, .slice A1 nn c1] 26)).heap.size (.int .u32 (id : Int)) (.int .i64 op) (.int .i64 code) (.int .i64 off) (.int .i64 num) (.bool more) (.slice B2 nr d2) (.slice A2 nn c2) := heap_alloc_new _ _
  have HB1 := Lib.hid hB1
  have HX1 := Lib.hid hx1
  have HX2 := Lib.hid hx2
  have HA := Lib.hid (ha.below hB1)
  have HA2 := Lib.hid (ha2.below hB1)
  have HC := Lib.hid (hb.below hB1)
  have HC2 := Lib.hid (hb2.below hB1)
  have HNN := Lib.hid hnn
  have HNR := Lib.hid hnr
  have e1 : ((id : Int) != (id : Int)) = false := by simp
  have e2 : (op != op) = false := by simp
  have e3 : (code != code) = false := by simp
  have e4 : (off != off) = false := by simp
  have e5 : (num != num) = false := by simp
  have e6 : (more != more) = false := by simp
  have e7 : ((nn : Int) != (nn : Int)) = false := by simp
  have e8 : ((nr : Int) != (nr : Int)) = false := by simp
  clear ha ha2 hb hb2 hnn hnr hB0 hB1 hx1 hx2
  go_enter Tryz.func18, Tryz.ntmps18
  go_upto_region 1 with (fail)
  obtain ⟨q, hq⟩ : ∃ q, q = (w.alloc (.cells #[.int .u32 (id : Int), .int .i64 op, .int .i64 code, .int .i64 off, .int .i64 num, .bool more, .slice B1 nr d1, .slice A1 nn c1] 26)).heap.size := ⟨_, rfl⟩
  have hq2 : q = w.heap.size + 1 := by rw [hq]; simp
  generalize hW : ((w.alloc (.cells #[.int .u32 (id : Int), .int .i64 op, .int .i64 code, .int .i64 off, .int .i64 num, .bool more, .slice B1 nr d1, .slice A1 nn c1] 26)).alloc (.cells #[.int .u32 (id : Int), .int .i64 op, .int .i64 code, .int .i64 off, .int .i64 num, .bool more, .slice B2 nr d2, .slice A2 nn c2] 26)) = W at HB1 HX1 HX2 HA HA2 HC HC2 ⊢
  rw [← hq, hq2] at HX2
  clear hW hq hq2
  obtain ⟨y0, y1, y2, y3, y4, y5, y6, y7⟩ := HX1.out.facts
  obtain ⟨z0, z1, z2, z3, z4, z5, z6, z7⟩ := HX2.out.facts
  clear HX1 HX2
  go_wp2_with fail
  clear y0 y1 y2 y3 y4 y5 z0 z1 z2 z3 z4 z5 e1 e2 e3 e4 e5 e6 e7 e8
  go_loopw [5] (fun i wr => ∃ k j : Nat, k ≤ nn ∧ i = .int .i64 k ∧ wr = W.drewN j) (fun i _ => nn - (intOf i).toNat)
  case atStart => exact ⟨0, 0, Nat.zero_le _, rfl, rfl⟩
  case round =>
    obtain ⟨k, j, hk, rfl, rfl⟩ := hrel
    by_cases hlt : k < nn
    · obtain ⟨s, hs⟩ : ∃ s, names[k]? = some s := ⟨_, List.getElem?_eq_getElem (by rw [HNN.out]; exact hlt)⟩
      obtain ⟨g, off1, rfl, hg, hc⟩ := HA.out.val_ (strs_get hs)
      obtain ⟨g', off2, rfl, hg', hd⟩ := HA2.out.val_ (strs_get hs)
      have i0 : (0 : Int) ≤ (k : Int) := by omega
      have i1 : (k : Int) < (nn : Int) := by omega
      clear hs HA HA2
      go_wp2
      go_quiet (fail)
      go_wp2
      go_roundw
      case rel => exact ⟨k + 1, _, by omega, by go_num, rfl⟩
      case measure => simp [intOf]; omega
    · have hk2 : ¬ (k : Int) < (nn : Int) := by omega
      clear HA HA2 hlt
      go_wp2
      go_loopw [6] (fun i wr => ∃ k j : Nat, k ≤ nr ∧ i = .int .i64 k ∧ wr = W.drewN j) (fun i _ => nr - (intOf i).toNat)
      case atStart => exact ⟨0, _, Nat.zero_le _, rfl, rfl⟩
      case round =>
        obtain ⟨k, j, hk, rfl, rfl⟩ := hrel
        by_cases hlt : k < nr
        · obtain ⟨x, hx⟩ : ∃ x, recs[k]? = some x := ⟨_, List.getElem?_eq_getElem (by rw [HNR.out]; exact hlt)⟩
          obtain ⟨g, off1, rfl, hg, hc0, hc1, hc2, hc3, hc4, hc5, hc6⟩ := HC.out.rec hx
          obtain ⟨g', off2, rfl, hg', hd0, hd1, hd2, hd3, hd4, hd5, hd6⟩ := HC2.out.rec hx
          obtain ⟨xk, xo, xt, xp, xs, xkey, xval⟩ := x
          simp only at hc0 hc1 hc2 hc3 hc4 hc5 hc6 hd0 hd1 hd2 hd3 hd4 hd5 hd6
          have i0 : (0 : Int) ≤ (k : Int) := by omega
          have i1 : (k : Int) < (nr : Int) := by omega
          clear hx HC HC2
          go_wp2
          go_quiet (fail)
          go_wp2
          go_roundw
          case rel => exact ⟨k + 1, _, by omega, by go_num, rfl⟩
          case measure => simp [intOf]; omega
        · have hk3 : ¬ (k : Int) < (nr : Int) := by omega
          clear HC HC2
          go_wp2
          go_ret
          exact ⟨rfl, below_drewN HB1.out _⟩
end Go.Proofs.YtljfmcgeiceagaaGreat
