/- chroniclelaw16.spoilt at any response that the call's own rows hold. -/
import Derived.Test.YtljfmcgeiceagaaGreatRpL2
namespace Go.Proofs.YtljfmcgeiceagaaGreat
open Go Go.RowKit
set_option linter.unusedVariables false
set_option linter.unusedSimpArgs false

set_option maxHeartbeats 4000000 in
set_option maxRecDepth 100000 in
theorem spoiltp_is (base nn nr : Nat) (vn vr : Value) (xs zs : List Value) (x : Rp) (w : World) (hn : w.ownsRow base 9 1 vn nn xs) (hr : w.ownsRow base 43 7 vr nr zs) (hl : nn ≤ 1000000) (hl2 : nr ≤ 1000000) (hb : base ≤ w.heap.size) :
    Calls Tryz.prog 14 #[x.V vr vn] w fun e w' => e = .returned (.int .i64 (((nn : Int) + 64) + ((nr : Int) + 64))) ∧ Below base w w' := by
  obtain ⟨A, c, rfl, hnc, hcm, hAb⟩ := own_shape hn
  obtain ⟨A2, c2, rfl, hnc2, hcm2, hAb2⟩ := own_shape hr
  obtain ⟨id, op, code, off, num, more, names, recs⟩ := x
  unfold Rp.V
  simp only
  go_enter Tryz.func14, Tryz.ntmps14
  have HX0 : Hid (B8 _ w.heap.size (.int .u32 (id : Int)) (.int .i64 op) (.int .i64 code) (.int .i64 off) (.int .i64 num) (.bool more) (.slice A2 nr c2) (.slice A nn c)) := Lib.hid (heap_alloc_new w _)
  have HN0 := Lib.hid (hn.alloc (.cells #[.int .u32 (id : Int), .int .i64 op, .int .i64 code, .int .i64 off, .int .i64 num, .bool more, .slice A2 nr c2, .slice A nn c] 26))
  have HR0 := Lib.hid (hr.alloc (.cells #[.int .u32 (id : Int), .int .i64 op, .int .i64 code, .int .i64 off, .int .i64 num, .bool more, .slice A2 nr c2, .slice A nn c] 26))
  have HB0 := Lib.hid ((Below.refl base w).alloc hb (.cells #[.int .u32 (id : Int), .int .i64 op, .int .i64 code, .int .i64 off, .int .i64 num, .bool more, .slice A2 nr c2, .slice A nn c] 26))
  obtain ⟨b, hbw⟩ : ∃ b, b = w.heap.size := ⟨_, rfl⟩
  clear hn hr hnc hcm hAb hnc2 hcm2 hAb2
  go_upto_region 1 with (fail)
  rw [← hbw] at HX0 ⊢
  generalize (w.alloc (.cells #[.int .u32 (id : Int), .int .i64 op, .int .i64 code, .int .i64 off, .int .i64 num, .bool more, .slice A2 nr c2, .slice A nn c] 26)) = W0 at HX0 HN0 HR0 HB0 ⊢
  clear hbw
  go_wp2_with fail
  go_loopw [3] (fun i wr => ∃ (k : Nat) (ys : List Value), k ≤ nn ∧ i = .int .i64 k ∧ Hid (wr.ownsRow base 9 1 (.slice A nn c) nn ys) ∧ Hid (wr.ownsRow base 43 7 (.slice A2 nr c2) nr zs) ∧ Hid (B8 wr b (.int .u32 (id : Int)) (.int .i64 op) (.int .i64 code) (.int .i64 off) (.int .i64 num) (.bool more) (.slice A2 nr c2) (.slice A nn c)) ∧ Hid (Below base w wr)) (fun i _ => nn - (intOf i).toNat)
  case atStart => exact ⟨0, xs, Nat.zero_le _, rfl, HN0, HR0, HX0, HB0⟩
  case round =>
    clear HN0 HR0 HX0 HB0
    obtain ⟨k, ys, hk, rfl, HN, HR, HX, HB⟩ := hrel
    obtain ⟨-, -, -, -, -, -, x6, x7⟩ := HX.out.facts
    by_cases hlt : k < nn
    · obtain ⟨g, hA, hgb, hgl, _, _⟩ := own_pos HN.out (by omega)
      subst hA
      have hz := own_len HN.out
      obtain ⟨y0, c0⟩ : ∃ u, wr.cell? ⟨g, k, none⟩ = some u := ⟨_, (HN.out.cellAt k (by omega)).trans (List.getElem?_eq_getElem (by omega))⟩
      have f0 := HN.out.frozenAt k
      have hst := HN.out.stored k (.string ⟨#[115, 112, 111, 105, 108, 116]⟩)
      have HNS := Lib.hid hst.1
      have HRS := Lib.hid (HR.out.kept hst.2 (own_types HR.out HN.out (by decide)))
      have HXS := Lib.hid (HX.out.far hst.2 (own_ne_kind HN.out HX.out (by decide)))
      have HBS := Lib.hid (HB.out.trans (below_of_grown hst.2 (by have := HB.out.size; omega) (fun j hj => by injection hj with hj; subst hj; exact hgb)))
      have i0 : (0 : Int) ≤ (k : Int) := by omega
      have i1 : (k : Int) < (nn : Int) := by omega
      clear hz hst HN HR HX HB
      go_wp2_with fail
      go_roundw
      case rel => exact ⟨k + 1, _, by omega, by go_num, HNS, HRS, HXS, HBS⟩
      case measure => simp [intOf]; omega
    · have i1 : ¬ (k : Int) < (nn : Int) := by omega
      clear hlt hk
      go_wp2_with fail
      rename World => wq
      go_loopw [4] (fun i wr => ∃ (k : Nat) (zs : List Value), k ≤ nr ∧ i = .int .i64 k ∧ Hid (wr.ownsRow base 9 1 (.slice A nn c) nn ys) ∧ Hid (wr.ownsRow base 43 7 (.slice A2 nr c2) nr zs) ∧ Hid (B8 wr b (.int .u32 (id : Int)) (.int .i64 op) (.int .i64 code) (.int .i64 off) (.int .i64 num) (.bool more) (.slice A2 nr c2) (.slice A nn c)) ∧ Hid (Below base w wr)) (fun i _ => nr - (intOf i).toNat)
      case atStart => exact ⟨0, zs, Nat.zero_le _, rfl, HN, HR, HX, HB⟩
      case round =>
        clear HN HR HX HB x6 x7
        obtain ⟨k, zs, hk, rfl, HN, HR, HX, HB⟩ := hrel
        obtain ⟨-, -, -, -, -, -, x6, x7⟩ := HX.out.facts
        by_cases hlt : k < nr
        · obtain ⟨g, hA, hgb, hgl, _, _⟩ := own_pos HR.out (by omega)
          subst hA
          have hz := own_len HR.out
          have hc : ∀ j, j < 7 → ∃ u, wr.cell? ⟨g, k * 7 + j, none⟩ = some u := fun j hj => ⟨_, (HR.out.cellAt (k * 7 + j) (by omega)).trans (List.getElem?_eq_getElem (by omega))⟩
          obtain ⟨y0, c0⟩ := hc 0 (by omega)
          obtain ⟨y1, c1⟩ := hc 1 (by omega)
          obtain ⟨y2, c2'⟩ := hc 2 (by omega)
          obtain ⟨y3, c3⟩ := hc 3 (by omega)
          obtain ⟨y4, c4⟩ := hc 4 (by omega)
          obtain ⟨y5, c5⟩ := hc 5 (by omega)
          obtain ⟨y6, c6⟩ := hc 6 (by omega)
          rw [Nat.add_zero] at c0
          have f0 := HR.out.frozenAt (k * 7)
          have f1 := HR.out.frozenAt (k * 7 + 1)
          have f2 := HR.out.frozenAt (k * 7 + 2)
          have f3 := HR.out.frozenAt (k * 7 + 3)
          have f4 := HR.out.frozenAt (k * 7 + 4)
          have f5 := HR.out.frozenAt (k * 7 + 5)
          have f6 := HR.out.frozenAt (k * 7 + 6)
          have hst := own_put7 HR.out (k * 7) (.int .i64 (-1)) (.int .i64 0) (.int .i64 0) (.int .i64 0) (.int .i64 0) (.string ⟨#[]⟩) (.string ⟨#[]⟩)
          have HRS := Lib.hid hst.1
          have hst2 := hst.2
          have HNS := Lib.hid (HN.out.kept hst2 (own_types HN.out HR.out (by decide)))
          have HXS := Lib.hid (HX.out.far hst2 (own_ne_kind HR.out HX.out (by decide)))
          have HBS := Lib.hid (HB.out.trans (below_of_grown hst2 (by have := HB.out.size; omega) (fun j hj => by injection hj with hj; subst hj; exact hgb)))
          have i0 : (0 : Int) ≤ (k : Int) := by omega
          have i1 : (k : Int) < (nr : Int) := by omega
          clear hz hc hst hst2 HN HR HX HB
          go_wp2_with fail
          go_roundw
          case rel => exact ⟨k + 1, _, by omega, by go_num, HNS, HRS, HXS, HBS⟩
          case measure => simp [intOf]; omega
        · have i1 : ¬ (k : Int) < (nr : Int) := by omega
          clear hlt hk
          go_wp2_with fail
          rename World => wq2
          go_loopw [5, 6, 7] (fun a2 a3 i wr => ∃ (k : Nat) (ys zs : List Value), k ≤ 64 ∧ i = .int .i64 k ∧ Hid (wr.ownsRow base 9 1 a2 (nn + k) ys) ∧ Hid (wr.ownsRow base 43 7 a3 (nr + k) zs) ∧ Hid (Below base w wr)) (fun _ _ i _ => 64 - (intOf i).toNat)
          case atStart => exact ⟨0, ys, zs, Nat.zero_le _, rfl, HN, HR, HB⟩
          case round =>
            clear HN HR HX HB x6 x7
            obtain ⟨j, ys, zs, hj, rfl, HN, HR, HB⟩ := hrel
            have hsz := HB.out.size
            obtain ⟨A5, c5, hv5, -⟩ := own_shape HN.out
            obtain ⟨A6, c6, hv6, -⟩ := own_shape HR.out
            subst hv5 hv6
            obtain ⟨q0, hi, hz0, hz1, hz2⟩ := info_parts infoS
            by_cases hlt : j < 64
            · go_wp2_with (at_builtin; (first
                | (refine wpList_push wr rfl (.tmp 39) (.tmp 40) 24 rfl base 9 q0 _ 16 Tryz.underlying24 hi hz0 hz1 hz2 rfl (.slice A5 (nn + j) c5) (nn + j) ys rfl HN.out (.string ⟨#[109, 111, 114, 101]⟩) rfl rfl (by omega) (by unfold maxLen; omega) (by omega) ?_; intro v' w1 hown1 hg1 _; have HN1 := Lib.hid hown1; have HR1 := Lib.hid (HR.out.kept hg1 (own_types HR.out HN.out (by decide))); have HB1 := Lib.hid (HB.out.trans (below_of_grown hg1 (by omega) (fun k hk => (HN.out.lt k hk).1))); have hsz1 := HB1.out.size; clear hown1 hg1)
                | (refine pushR w1 rfl (.tmp 42) (.tmp 44) rfl base (.slice A6 (nr + j) c6) (nr + j) zs rfl HR1.out ⟨-2, 0, 0, 0, 0, ⟨#[]⟩, ⟨#[]⟩⟩ _ rfl rfl (by omega) (by omega) ?_; intro v2 w2 hown2 hg2 _; have HR2 := Lib.hid hown2; have HN2 := Lib.hid (HN1.out.kept hg2 (own_types HN1.out HR1.out (by decide))); have HB2 := Lib.hid (HB1.out.trans (below_of_grown hg2 (by omega) (fun k hk => (HR1.out.lt k hk).1))); clear hown2 hg2)))
              go_wp2_with fail
              go_roundw
              case rel => exact ⟨j + 1, _, _, by omega, by go_num, Lib.hid (by rw [← Nat.add_assoc]; exact HN2.out), Lib.hid (by rw [← Nat.add_assoc]; exact HR2.out), HB2⟩
              case measure => simp [intOf]; omega
            · have hj64 : j = 64 := by omega
              subst hj64
              clear HN HR
              go_wp2_with fail
              go_ret
              exact ⟨by go_num, HB.out⟩
end Go.Proofs.YtljfmcgeiceagaaGreat
