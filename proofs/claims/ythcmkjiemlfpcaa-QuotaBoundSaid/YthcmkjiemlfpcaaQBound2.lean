/- QuotaBound: its rounds. -/
import Derived.Test.YthcmkjiemlfpcaaQBound
import Derived.Deep.CutRange
import Derived.Deep.RegionHeld3
namespace Go.Proofs.Ythcmkjiemlfpcaa
open Go Go.RowKit
set_option linter.unusedVariables false

set_option maxHeartbeats 20000000 in
set_option maxRecDepth 100000 in
theorem quotaBound_yes (n d u now : Int) (A : Option Addr) (c : Nat) (l : List (Int × Int)) (w : World) (hok : (⟨n, d, u, u, 0, now⟩ : Bk).Ok) (hc : l.length ≤ c) (hl : l.length ≤ 1000) (hr : RdP w A l)
    (h64 : ∀ x ∈ l, (-9223372036854775808 ≤ x.1 ∧ x.1 ≤ 9223372036854775807) ∧ -9223372036854775808 ≤ x.2 ∧ x.2 ≤ 9223372036854775807) :
    Calls Try.prog 6 #[.int .i64 n, .int .i64 d, .int .i64 u, .int .i64 now, .slice A l.length c] w fun e w' => e = .returned (.bool true) ∧ Below w.heap.size w w' := by
  have P1 := Lib.hid (fun W => new_yes n d u now W hok)
  have hst := Hist.start hok
  have H64 := Lib.hid h64
  have HR := Lib.hid hr
  obtain ⟨n1, n2, d1, d2, u1, u2, _, _, _, _, _, t1, t2⟩ := hok
  simp only at n1 n2 d1 d2 u1 u2 t1 t2
  have HST := Lib.hid hst
  obtain ⟨len, hlen⟩ : ∃ len, len = l.length := ⟨_, rfl⟩
  rw [← hlen] at hc hl ⊢
  have HL := Lib.hid hlen
  clear h64 hr hst hlen
  unfold bkt at P1
  go_enter Try.func6, Try.ntmps6
  go_wp2_with fail
  refine (P1.out _).mono ?_
  rintro e w1 ⟨rfl, hb1⟩
  have hg : w.heap.size ≤ w1.heap.size := hb1.size
  have HB1 := Lib.hid hb1
  clear hb1 P1
  go_wp2_with fail
  go_loopw [16, 13, 14, 15] (fun i at_ tv kv wr => ∃ (k : Nat) (t0 x3 x4 : Int) (T K : List Int), k ≤ len ∧ i = .int .i64 k ∧ at_ = .int .i64 t0 ∧ BLoop w wr w1.heap.size n d u now k t0 x3 x4 tv kv T K)
    (fun i _ _ _ _ => len - (intOf i).toNat)
  case atStart => exact ⟨0, now, u, 0, [], [], Nat.zero_le _, rfl, rfl, BLoop.mk (World.ownsRow_nil _ _ _ _) (World.ownsRow_nil _ _ _ _) (Bx.new w1 n d u u 0 now) HST.out (fun q h => by cases h) (fun q h => by cases h) hg (HB1.out.alloc hg _)⟩
  case round =>
    obtain ⟨k, t0, x3, x4, T, K, hk, rfl, rfl, HBL⟩ := hrel
    have HBL := Lib.hid HBL
    by_cases hlt : k < len
    · obtain ⟨⟨x, m⟩, hxm⟩ : ∃ p, l[k]? = some p := ⟨_, List.getElem?_eq_getElem (by rw [← HL.out]; exact hlt)⟩
      have hm64 := (H64.out _ (List.mem_of_getElem? hxm))
      obtain ⟨hx64, hm64⟩ := hm64
      simp only at hx64 hm64
      obtain ⟨gA, off, hA, hgA, hcell⟩ := HR.out (by rintro rfl; simp at hxm)
      subst hA
      have hcell := hcell k x m hxm
      have hAlt := hgA
      have ca : wr.cell? ⟨gA, off + k * 2, none⟩ = some (.int .i64 x) := (HBL.out.be.cell (p := ⟨gA, off + k * 2, none⟩) hgA).trans hcell.1
      have cb : wr.cell? ⟨gA, off + k * 2 + 1, none⟩ = some (.int .i64 m) := (HBL.out.be.cell (p := ⟨gA, off + k * 2 + 1, none⟩) hgA).trans hcell.2
      have hat : 0 ≤ t0 ∧ t0 ≤ 1125899906842623 := ⟨by have := HBL.out.hi.ok.t1; exact this, by have := HBL.out.hi.ok.t2; exact this⟩
      have i0 : (0 : Int) ≤ (k : Int) := by omega
      have i1 : (k : Int) < (len : Int) := by omega
      clear hcell hgA hxm
      by_cases hx0 : x < 0
      · clear cb hm64
        go_wp2_with fail
        go_roundw
        case rel => exact ⟨k + 1, t0, x3, x4, T, K, by omega, by go_num, rfl, HBL.out.skip⟩
        case measure => simp [intOf]; omega
      · by_cases hx1 : 1048576 < x
        · clear cb hm64
          go_wp2_with fail
          go_roundw
          case rel => exact ⟨k + 1, t0, x3, x4, T, K, by omega, by go_num, rfl, HBL.out.skip⟩
          case measure => simp [intOf]; omega
        · by_cases hx2 : 1125899906842624 ≤ t0 + x
          · clear cb hm64
            go_wp2_with fail
            go_roundw
            case rel => exact ⟨k + 1, t0, x3, x4, T, K, by omega, by go_num, rfl, HBL.out.skip⟩
            case measure => simp [intOf]; omega
          · have hh := HBL.out.hi.wait (x := x) (by omega) (by omega) (by omega)
            have hf := fill_is ⟨n, d, u, x3, x4, t0⟩ (t0 + x)
            have hy : ∃ y3 y4, (⟨n, d, u, x3, x4, t0⟩ : Bk).fill (t0 + x) = ⟨n, d, u, y3, y4, t0 + x⟩ := by
              obtain ⟨z0, z1, z2, z3, z4, z5, hz⟩ : ∃ z0 z1 z2 z3 z4 z5 : Int, (⟨n, d, u, x3, x4, t0⟩ : Bk).fill (t0 + x) = ⟨z0, z1, z2, z3, z4, z5⟩ := ⟨_, _, _, _, _, _, rfl⟩
              have q1 := hh.num
              have q2 := hh.den
              have q3 := hh.burst
              have q4 := hh.tick
              rw [hz] at q1 q2 q3 q4 ⊢
              simp only at q1 q2 q3 q4
              subst q1 q2 q3 q4
              exact ⟨_, _, rfl⟩
            obtain ⟨y3, y4, hy⟩ := hy
            rw [hy] at hh hf
            have hok0 := HBL.out.hi.ok
            have hoky := hh.ok
            have hy3 : 0 ≤ y3 ∧ y3 ≤ u := ⟨hoky.l1, hoky.l2⟩
            have HH := Lib.hid hh
            have HY := Lib.hid hy
            have HO := Lib.hid hok0
            have HOY := Lib.hid hoky
            have P4 := Lib.hid hf
            have hTk : T.length ≤ k := HBL.out.hi.tl
            have HTK := Lib.hid HBL.out.hi.len
            clear hh hf hy hok0 hoky
            unfold Bk.val bkt at P4
            simp only at P4
            by_cases hm0 : m < 0
            · have P2 := Lib.hid (take_is ⟨n, d, u, x3, x4, t0⟩ (t0 + x) m)
              have hdm : decide (0 ≤ m) = false := by rw [decide_eq_false_iff_not]; omega
              rw [Bk.take_never HO.out (.inl hm0), HY.out] at P2
              have P3 := Lib.hid (fun W => check_yes _ W HOY.out)
              unfold Bk.val bkt at P2 P3
              simp only at P2 P3
              clear P4
              go_upto_region 11 with (fail)
              go_cut [17, 18] from 40 to 128 (fun s17 s18 wx => ∃ g7 : Nat, s17 = .pointer (some ⟨g7, 0, none⟩) ∧ s18 = .int .i64 (-1) ∧ BMid wr wx g7 n d u y3 y4 (t0 + x))
              case first =>
                obtain ⟨c0, c1, c2, c3, c4, c5, _, _, _, _, _, _⟩ := HBL.out.bx.facts
                have hgAw : gA < wr.heap.size := by have := HBL.out.be.size; omega
                have hg1w : w1.heap.size < wr.heap.size := HBL.out.bx.lt
                refine wp_region_noPanic ?_
                go_region_with (go_at_call 19; refine (P2.out _).mono ?_; rintro e w4 ⟨rfl, hb4⟩; have HBW : Hid (Below wr.heap.size wr w4) := (by first | exact undrew (B := wr.heap.size) (w := wr) hb4 | exact below1 (w := wr) (undrew hb4) (by simp) | exact undrew (B := wr.heap.size) (w := wr) (below1 (w := wr.drew) hb4 (by simp))); (first | (have HZ : Hid (Bx w4 wr.heap.size 0 0 0 0 0 0) := (by first | exact bx_one (w := wr) (undrew hb4) (by simp) | exact bx_one (w := wr.drew) hb4 (by simp)); obtain ⟨z0, z1, z2, z3, z4, z5, y0, y1, y2, y3', y4', y5⟩ := HZ.out.facts) | skip))
                all_goals
                  refine NoPanic.normal ?_
                  go_wp2_with fail
                  go_meet
                  refine ⟨_, rfl, rfl, ?_⟩
                  first
                    | (with_reducible exact BMid.mk0 HBW.out _ _ _ _ _ _)
                    | (with_reducible exact BMid.st HBW.out HZ.out _ _ _ _ _ _)
              case' rest =>
                obtain ⟨g7, rfl, rfl, M4⟩ := hcut
                have M4 := Lib.hid M4
                have hs4 : wr.heap.size ≤ g7 := M4.out.gl
                clear P2 ca
                go_wp2_with fail
              have P3' := Lib.hid (fun W (h : BMid wr W g7 n d u y3 y4 (t0 + x)) => (P3.out W).mono fun e W' hh => (⟨hh.1, h.more hh.2⟩ : e = .returned (.int .i64 0) ∧ BMid wr W' g7 n d u y3 y4 (t0 + x)))
              have Mcell := fun (W : World) (h : BMid wr W g7 n d u y3 y4 (t0 + x)) => (h.bl.cell (p := ⟨gA, off + k * 2 + 1, none⟩) (World.block_lt_of_cell? wr _ cb)).trans cb
              obtain ⟨c0, c1, c2, c3, c4, c5, _, _, _, _, _, _⟩ := M4.out.b7.facts
              have hcell := Mcell _ M4.out
              have HMC := Lib.hid Mcell
              clear Mcell
              refine wp_region_noPanic ?_
              refine wp_region_any (by kernel_rfl) ?_
              (try (change wpAny _ _ _ _ _ _ _ (World.drew _)))
              refine wpAny_ready (rs := [0]) (by kernel_rfl) (by simp) ?_
              refine AllReady.cons rfl (fun K2 hK => ?_) AllReady.nil
              go_simp
              refine hK _ _ ?_
              clear hK K2
              refine wpAny_ready (rs := [1]) (by kernel_rfl) (by simp) ?_
              refine AllReady.cons rfl (fun K2 hK => ?_) AllReady.nil
              go_simp
              refine (P3'.out _ (by first | exact M4.out | exact M4.out.drew)).mono ?_
              rintro e w5 ⟨rfl, hS⟩
              have hcell5 := HMC.out w5 hS
              refine hK _ _ ?_
              clear hK K2
              refine wpAny_ready (rs := [2]) (by kernel_rfl) (by simp) ?_
              refine AllReady.cons rfl (fun K2 hK => ?_) AllReady.nil
              go_simp
              refine hK _ _ ?_
              clear hK K2
              refine wpAny_ready (rs := [3]) (by kernel_rfl) (by simp) ?_
              refine AllReady.cons rfl (fun K2 hK => ?_) AllReady.nil
              go_simp
              refine hK _ _ ?_
              clear hK K2
              refine wpAny_take (i := 4) (v := ?_) rfl (by kernel_rfl) (by kernel_rfl) (by kernel_rfl) (fun _ _ _ h => h) (Or.inl ⟨by rfl, ?_⟩) ?_
              case' refine_2 => (intro w; go_simp; try with_reducible rfl)
              refine wpAny_take (i := 5) (v := ?_) rfl (by kernel_rfl) (by kernel_rfl) (by kernel_rfl) (fun _ _ _ h => h) (Or.inl ⟨by rfl, ?_⟩) ?_
              case' refine_2 => (intro w; go_simp; try with_reducible rfl)
              refine wpAny_take (i := 6) (v := ?_) rfl (by kernel_rfl) (by kernel_rfl) (by kernel_rfl) (fun _ _ _ h => h) (Or.inl ⟨by rfl, ?_⟩) ?_
              case' refine_2 => (intro w; go_simp; try with_reducible rfl)
              refine wpAny_take (i := 7) (v := ?_) rfl (by kernel_rfl) (by kernel_rfl) (by kernel_rfl) (fun _ _ _ h => h) (Or.inl ⟨by rfl, ?_⟩) ?_
              case' refine_2 => (intro w; go_simp; try with_reducible rfl)
              refine wpAny_ready (rs := [8]) (by kernel_rfl) (by simp) ?_
              refine AllReady.cons rfl (fun K2 hK => ?_) AllReady.nil
              go_simp
              refine hK _ _ ?_
              clear hK K2
              refine wpAny_ready (rs := [9]) (by kernel_rfl) (by simp) ?_
              refine AllReady.cons rfl (fun K2 hK => ?_) AllReady.nil
              go_simp
              refine hK _ _ ?_
              clear hK K2
              refine wpAny_ready (rs := [10]) (by kernel_rfl) (by simp) ?_
              refine AllReady.cons rfl (fun K2 hK => ?_) AllReady.nil
              go_simp
              refine hK _ _ ?_
              clear hK K2
              refine wpAny_ready (rs := [11]) (by kernel_rfl) (by simp) ?_
              refine AllReady.cons rfl (fun K2 hK => ?_) AllReady.nil
              go_simp
              refine hK _ _ ?_
              clear hK K2
              refine wpAny_ready (rs := [12]) (by kernel_rfl) (by simp) ?_
              refine AllReady.cons rfl (fun K2 hK => ?_) AllReady.nil
              go_simp
              refine hK _ _ ?_
              clear hK K2
              refine wpAny_take (i := 13) (v := undef) rfl (by kernel_rfl) (by kernel_rfl) (by kernel_rfl) (fun _ _ _ h => h) (Or.inr ⟨by rfl, rfl⟩) ?_
              refine wpAny_take (i := 14) (v := undef) rfl (by kernel_rfl) (by kernel_rfl) (by kernel_rfl) (fun _ _ _ h => h) (Or.inr ⟨by rfl, rfl⟩) ?_
              refine wpAny_take (i := 15) (v := undef) rfl (by kernel_rfl) (by kernel_rfl) (by kernel_rfl) (fun _ _ _ h => h) (Or.inr ⟨by rfl, rfl⟩) ?_
              refine wpAny_take (i := 16) (v := undef) rfl (by kernel_rfl) (by kernel_rfl) (by kernel_rfl) (fun _ _ _ h => h) (Or.inr ⟨by rfl, rfl⟩) ?_
              refine wpAny_take (i := 19) (v := undef) rfl (by kernel_rfl) (by kernel_rfl) (by kernel_rfl) (fun _ _ _ h => h) (Or.inr ⟨by rfl, rfl⟩) ?_
              refine wpAny_ready (rs := [17, 18]) (by kernel_rfl) (by simp) ?_
              refine AllReady.cons rfl (fun K2 hK => ?_) (AllReady.cons rfl (fun K2 hK => ?_) AllReady.nil)
              ·
                go_simp
                refine hK _ _ ?_
                clear hK K2
                refine wpAny_ready (rs := [18]) (by kernel_rfl) (by simp) ?_
                refine AllReady.cons rfl (fun K2 hK => ?_) AllReady.nil
                go_simp
                refine hK _ _ ?_
                clear hK K2
                refine wpAny_ready (rs := [20]) (by kernel_rfl) (by simp) ?_
                refine AllReady.cons rfl (fun K2 hK => ?_) AllReady.nil
                go_simp
                refine hK _ _ ?_
                clear hK K2
                refine wpAny_ready (rs := [21]) (by kernel_rfl) (by simp) ?_
                refine AllReady.cons rfl (fun K2 hK => ?_) AllReady.nil
                go_simp
                refine hK _ _ ?_
                clear hK K2
                refine wpAny_ready (rs := [22]) (by kernel_rfl) (by simp) ?_
                refine AllReady.cons rfl (fun K2 hK => ?_) AllReady.nil
                go_simp
                refine hK _ _ ?_
                clear hK K2
                refine wpAny_ready (rs := [23]) (by kernel_rfl) (by simp) ?_
                refine AllReady.cons rfl (fun K2 hK => ?_) AllReady.nil
                go_simp
                refine hK _ _ ?_
                clear hK K2
                refine wpAny_ready (rs := [24]) (by kernel_rfl) (by simp) ?_
                refine AllReady.cons rfl (fun K2 hK => ?_) AllReady.nil
                go_simp
                refine hK _ _ ?_
                clear hK K2
                refine wpAny_ready (rs := [25]) (by kernel_rfl) (by simp) ?_
                refine AllReady.cons rfl (fun K2 hK => ?_) AllReady.nil
                go_simp
                refine hK _ _ ?_
                clear hK K2
                refine wpAny_done (by kernel_rfl) ?_ _
                refine NoPanic.normal ?_
                clear hcell c0 c1 c2 c3 c4 c5
                obtain ⟨c0, c1, c2, c3, c4, c5, _, _, _, _, _, _⟩ := hS.b7.facts
                have HW := Lib.hid (HBL.out.more hS.bl)
                obtain ⟨e0, e1, e2, e3, e4, e5, f0, f1, f2, f3, f4, f5⟩ := HW.out.bx.facts
                clear hS
                go_wp2_with fail
                go_roundw
                case rel => exact ⟨k + 1, t0 + x, y3, y4, T, K, by omega, by go_num, rfl, bloop_stored HW.out.ot HW.out.ok HW.out.bx HW.out.st HW.out.sk HW.out.gl HW.out.be HH.out⟩
                case measure => simp [intOf]; omega
              ·
                go_simp
                refine hK _ _ ?_
                clear hK K2
                refine wpAny_ready (rs := [17, 20]) (by kernel_rfl) (by simp) ?_
                refine AllReady.cons rfl (fun K2 hK => ?_) (AllReady.cons rfl (fun K2 hK => ?_) AllReady.nil)
                ·
                  go_simp
                  refine hK _ _ ?_
                  clear hK K2
                  refine wpAny_ready (rs := [20]) (by kernel_rfl) (by simp) ?_
                  refine AllReady.cons rfl (fun K2 hK => ?_) AllReady.nil
                  go_simp
                  refine hK _ _ ?_
                  clear hK K2
                  refine wpAny_ready (rs := [21]) (by kernel_rfl) (by simp) ?_
                  refine AllReady.cons rfl (fun K2 hK => ?_) AllReady.nil
                  go_simp
                  refine hK _ _ ?_
                  clear hK K2
                  refine wpAny_ready (rs := [22]) (by kernel_rfl) (by simp) ?_
                  refine AllReady.cons rfl (fun K2 hK => ?_) AllReady.nil
                  go_simp
                  refine hK _ _ ?_
                  clear hK K2
                  refine wpAny_ready (rs := [23]) (by kernel_rfl) (by simp) ?_
                  refine AllReady.cons rfl (fun K2 hK => ?_) AllReady.nil
                  go_simp
                  refine hK _ _ ?_
                  clear hK K2
                  refine wpAny_ready (rs := [24]) (by kernel_rfl) (by simp) ?_
                  refine AllReady.cons rfl (fun K2 hK => ?_) AllReady.nil
                  go_simp
                  refine hK _ _ ?_
                  clear hK K2
                  refine wpAny_ready (rs := [25]) (by kernel_rfl) (by simp) ?_
                  refine AllReady.cons rfl (fun K2 hK => ?_) AllReady.nil
                  go_simp
                  refine hK _ _ ?_
                  clear hK K2
                  refine wpAny_done (by kernel_rfl) ?_ _
                  refine NoPanic.normal ?_
                  clear hcell c0 c1 c2 c3 c4 c5
                  obtain ⟨c0, c1, c2, c3, c4, c5, _, _, _, _, _, _⟩ := hS.b7.facts
                  have HW := Lib.hid (HBL.out.more hS.bl)
                  obtain ⟨e0, e1, e2, e3, e4, e5, f0, f1, f2, f3, f4, f5⟩ := HW.out.bx.facts
                  clear hS
                  go_wp2_with fail
                  go_roundw
                  case rel => exact ⟨k + 1, t0 + x, y3, y4, T, K, by omega, by go_num, rfl, bloop_stored HW.out.ot HW.out.ok HW.out.bx HW.out.st HW.out.sk HW.out.gl HW.out.be HH.out⟩
                  case measure => simp [intOf]; omega
                ·
                  go_simp
                  refine hK _ _ ?_
                  clear hK K2
                  refine wpAny_ready (rs := [17, 21]) (by kernel_rfl) (by simp) ?_
                  refine AllReady.cons rfl (fun K2 hK => ?_) (AllReady.cons rfl (fun K2 hK => ?_) AllReady.nil)
                  ·
                    go_simp
                    refine hK _ _ ?_
                    clear hK K2
                    refine wpAny_ready (rs := [21]) (by kernel_rfl) (by simp) ?_
                    refine AllReady.cons rfl (fun K2 hK => ?_) AllReady.nil
                    go_simp
                    refine hK _ _ ?_
                    clear hK K2
                    refine wpAny_ready (rs := [22]) (by kernel_rfl) (by simp) ?_
                    refine AllReady.cons rfl (fun K2 hK => ?_) AllReady.nil
                    go_simp
                    refine hK _ _ ?_
                    clear hK K2
                    refine wpAny_ready (rs := [23]) (by kernel_rfl) (by simp) ?_
                    refine AllReady.cons rfl (fun K2 hK => ?_) AllReady.nil
                    go_simp
                    refine hK _ _ ?_
                    clear hK K2
                    refine wpAny_ready (rs := [24]) (by kernel_rfl) (by simp) ?_
                    refine AllReady.cons rfl (fun K2 hK => ?_) AllReady.nil
                    go_simp
                    refine hK _ _ ?_
                    clear hK K2
                    refine wpAny_ready (rs := [25]) (by kernel_rfl) (by simp) ?_
                    refine AllReady.cons rfl (fun K2 hK => ?_) AllReady.nil
                    go_simp
                    refine hK _ _ ?_
                    clear hK K2
                    refine wpAny_done (by kernel_rfl) ?_ _
                    refine NoPanic.normal ?_
                    clear hcell c0 c1 c2 c3 c4 c5
                    obtain ⟨c0, c1, c2, c3, c4, c5, _, _, _, _, _, _⟩ := hS.b7.facts
                    have HW := Lib.hid (HBL.out.more hS.bl)
                    obtain ⟨e0, e1, e2, e3, e4, e5, f0, f1, f2, f3, f4, f5⟩ := HW.out.bx.facts
                    clear hS
                    go_wp2_with fail
                    go_roundw
                    case rel => exact ⟨k + 1, t0 + x, y3, y4, T, K, by omega, by go_num, rfl, bloop_stored HW.out.ot HW.out.ok HW.out.bx HW.out.st HW.out.sk HW.out.gl HW.out.be HH.out⟩
                    case measure => simp [intOf]; omega
                  ·
                    go_simp
                    refine hK _ _ ?_
                    clear hK K2
                    refine wpAny_ready (rs := [17]) (by kernel_rfl) (by simp) ?_
                    refine AllReady.cons rfl (fun K2 hK => ?_) AllReady.nil
                    go_simp
                    refine hK _ _ ?_
                    clear hK K2
                    refine wpAny_ready (rs := [22]) (by kernel_rfl) (by simp) ?_
                    refine AllReady.cons rfl (fun K2 hK => ?_) AllReady.nil
                    go_simp
                    refine hK _ _ ?_
                    clear hK K2
                    refine wpAny_ready (rs := [23]) (by kernel_rfl) (by simp) ?_
                    refine AllReady.cons rfl (fun K2 hK => ?_) AllReady.nil
                    go_simp
                    refine hK _ _ ?_
                    clear hK K2
                    refine wpAny_ready (rs := [24]) (by kernel_rfl) (by simp) ?_
                    refine AllReady.cons rfl (fun K2 hK => ?_) AllReady.nil
                    go_simp
                    refine hK _ _ ?_
                    clear hK K2
                    refine wpAny_ready (rs := [25]) (by kernel_rfl) (by simp) ?_
                    refine AllReady.cons rfl (fun K2 hK => ?_) AllReady.nil
                    go_simp
                    refine hK _ _ ?_
                    clear hK K2
                    refine wpAny_done (by kernel_rfl) ?_ _
                    refine NoPanic.normal ?_
                    clear hcell c0 c1 c2 c3 c4 c5
                    obtain ⟨c0, c1, c2, c3, c4, c5, _, _, _, _, _, _⟩ := hS.b7.facts
                    have HW := Lib.hid (HBL.out.more hS.bl)
                    obtain ⟨e0, e1, e2, e3, e4, e5, f0, f1, f2, f3, f4, f5⟩ := HW.out.bx.facts
                    clear hS
                    go_wp2_with fail
                    go_roundw
                    case rel => exact ⟨k + 1, t0 + x, y3, y4, T, K, by omega, by go_num, rfl, bloop_stored HW.out.ot HW.out.ok HW.out.bx HW.out.st HW.out.sk HW.out.gl HW.out.be HH.out⟩
                    case measure => simp [intOf]; omega
            · have hdm : decide (0 ≤ m) = true := by rw [decide_eq_true_eq]; omega
              by_cases hm1 : y3 < m
              · have P2 := Lib.hid (take_is ⟨n, d, u, x3, x4, t0⟩ (t0 + x) m)
                obtain ⟨r, hr0, hr⟩ : ∃ r : Int, r ≠ 0 ∧ (⟨n, d, u, x3, x4, t0⟩ : Bk).take (t0 + x) m = (⟨n, d, u, y3, y4, t0 + x⟩, r) := by
                  by_cases hmu : u < m
                  · exact ⟨-1, by omega, by rw [Bk.take_never HO.out (.inr hmu), HY.out]⟩
                  · have hw := HOY.out.wait_pos (n := m) hm1
                    exact ⟨(⟨n, d, u, y3, y4, t0 + x⟩ : Bk).wait m, by omega, by rw [Bk.take_wait HO.out (by rw [HY.out]; exact hm1) (show m ≤ u by omega), HY.out]⟩
                rw [hr] at P2
                have hr1 : (r == 0) = false := by rw [beq_eq_false_iff_ne]; exact hr0
                have P3 := Lib.hid (fun W => check_yes _ W HOY.out)
                unfold Bk.val bkt at P2 P3
                simp only at P2 P3
                clear hr hr0
                go_upto_region 11 with (fail)
                go_cut [17, 18] from 40 to 128 (fun s17 s18 wx => ∃ g7 : Nat, s17 = .pointer (some ⟨g7, 0, none⟩) ∧ s18 = .int .i64 (r) ∧ BMid wr wx g7 n d u y3 y4 (t0 + x))
                case first =>
                  obtain ⟨c0, c1, c2, c3, c4, c5, _, _, _, _, _, _⟩ := HBL.out.bx.facts
                  have hgAw : gA < wr.heap.size := by have := HBL.out.be.size; omega
                  have hg1w : w1.heap.size < wr.heap.size := HBL.out.bx.lt
                  refine wp_region_noPanic ?_
                  go_region_with (go_at_call 19; refine (P2.out _).mono ?_; rintro e w4 ⟨rfl, hb4⟩; have HBW : Hid (Below wr.heap.size wr w4) := (by first | exact undrew (B := wr.heap.size) (w := wr) hb4 | exact below1 (w := wr) (undrew hb4) (by simp) | exact undrew (B := wr.heap.size) (w := wr) (below1 (w := wr.drew) hb4 (by simp))); (first | (have HZ : Hid (Bx w4 wr.heap.size 0 0 0 0 0 0) := (by first | exact bx_one (w := wr) (undrew hb4) (by simp) | exact bx_one (w := wr.drew) hb4 (by simp)); obtain ⟨z0, z1, z2, z3, z4, z5, y0, y1, y2, y3', y4', y5⟩ := HZ.out.facts) | skip))
                  all_goals
                    refine NoPanic.normal ?_
                    go_wp2_with fail
                    go_meet
                    refine ⟨_, rfl, rfl, ?_⟩
                    first
                      | (with_reducible exact BMid.mk0 HBW.out _ _ _ _ _ _)
                      | (with_reducible exact BMid.st HBW.out HZ.out _ _ _ _ _ _)
                case' rest =>
                  obtain ⟨g7, rfl, rfl, M4⟩ := hcut
                  have M4 := Lib.hid M4
                  have hs4 : wr.heap.size ≤ g7 := M4.out.gl
                  clear P2 ca
                  go_wp2_with fail
                have hfld := fun W => run_field3 n d u y3 y4 (t0 + x) W
                go_region_held3 (fun W => W.cell? ⟨g7, 0, none⟩ = some (.int .i64 n) ∧ W.cell? ⟨g7, 1, none⟩ = some (.int .i64 d) ∧ W.cell? ⟨g7, 2, none⟩ = some (.int .i64 u) ∧ W.cell? ⟨g7, 3, none⟩ = some (.int .i64 y3) ∧ W.cell? ⟨g7, 4, none⟩ = some (.int .i64 y4) ∧ W.cell? ⟨g7, 5, none⟩ = some (.int .i64 (t0 + x)) ∧ W.cell? ⟨w1.heap.size, 0, none⟩ = some (.int .i64 n) ∧ W.cell? ⟨w1.heap.size, 1, none⟩ = some (.int .i64 d) ∧ W.cell? ⟨w1.heap.size, 2, none⟩ = some (.int .i64 u) ∧ W.cell? ⟨w1.heap.size, 3, none⟩ = some (.int .i64 x3) ∧ W.cell? ⟨w1.heap.size, 4, none⟩ = some (.int .i64 x4) ∧ W.cell? ⟨w1.heap.size, 5, none⟩ = some (.int .i64 t0) ∧ W.cell? ⟨gA, off + k * 2 + 1, none⟩ = some (.int .i64 m) ∧ BMid wr W g7 n d u y3 y4 (t0 + x)) (first | assumption | exact BMid.s (by assumption) HBL.out.bx cb | exact BMid.s (BMid.drew (by assumption)) HBL.out.bx cb | exact BMid.s M4.out HBL.out.bx cb | exact BMid.s M4.out.drew HBL.out.bx cb)
                  (first
                    | (go_at_call 15; refine (P3.out _).mono ?_; rintro e w5 ⟨rfl, hb5⟩; have hS5 : BMid wr w5 g7 n d u y3 y4 (t0 + x) := BMid.more (BMid.ofS (by assumption)) hb5)
                    | (go_at_call 17; refine (P4.out _).mono ?_; rintro e w6 ⟨rfl, hb6⟩; have hS6 : BMid wr w6 g7 n d u y3 y4 (t0 + x) := BMid.more (BMid.ofS (by assumption)) hb6))
                skip
                clear hS5 hb5 hb6 hfld
                have hS := hS6
                obtain ⟨c0, c1, c2, c3, c4, c5, _, _, _, _, _, _⟩ := hS.b7.facts
                have HW := Lib.hid (HBL.out.more hS.bl)
                obtain ⟨e0, e1, e2, e3, e4, e5, f0, f1, f2, f3, f4, f5⟩ := HW.out.bx.facts
                clear hS
                go_wp2_with fail
                go_roundw
                case rel => exact ⟨k + 1, t0 + x, y3, y4, T, K, by omega, by go_num, rfl, bloop_stored HW.out.ot HW.out.ok HW.out.bx HW.out.st HW.out.sk HW.out.gl HW.out.be HH.out⟩
                case measure => simp [intOf]; omega
              · have P2 := Lib.hid (take_is ⟨n, d, u, x3, x4, t0⟩ (t0 + x) m)
                rw [Bk.take_took HO.out (show 0 ≤ m by omega) (by rw [HY.out]; simp only; omega), HY.out] at P2
                have P3 := Lib.hid (fun W => check_yes _ W (HOY.out.less (m := m) (by omega) (by simp only; omega)))
                unfold Bk.val bkt at P2 P3
                simp only at P2 P3
                go_upto_region 11 with (fail)
                go_cut [17, 18] from 40 to 128 (fun s17 s18 wx => ∃ g7 : Nat, s17 = .pointer (some ⟨g7, 0, none⟩) ∧ s18 = .int .i64 (0) ∧ BMid wr wx g7 n d u (y3 - m) y4 (t0 + x))
                case first =>
                  obtain ⟨c0, c1, c2, c3, c4, c5, _, _, _, _, _, _⟩ := HBL.out.bx.facts
                  have hgAw : gA < wr.heap.size := by have := HBL.out.be.size; omega
                  have hg1w : w1.heap.size < wr.heap.size := HBL.out.bx.lt
                  refine wp_region_noPanic ?_
                  go_region_with (go_at_call 19; refine (P2.out _).mono ?_; rintro e w4 ⟨rfl, hb4⟩; have HBW : Hid (Below wr.heap.size wr w4) := (by first | exact undrew (B := wr.heap.size) (w := wr) hb4 | exact below1 (w := wr) (undrew hb4) (by simp) | exact undrew (B := wr.heap.size) (w := wr) (below1 (w := wr.drew) hb4 (by simp))); (first | (have HZ : Hid (Bx w4 wr.heap.size 0 0 0 0 0 0) := (by first | exact bx_one (w := wr) (undrew hb4) (by simp) | exact bx_one (w := wr.drew) hb4 (by simp)); obtain ⟨z0, z1, z2, z3, z4, z5, y0, y1, y2, y3', y4', y5⟩ := HZ.out.facts) | skip))
                  all_goals
                    refine NoPanic.normal ?_
                    go_wp2_with fail
                    go_meet
                    refine ⟨_, rfl, rfl, ?_⟩
                    first
                      | (with_reducible exact BMid.mk0 HBW.out _ _ _ _ _ _)
                      | (with_reducible exact BMid.st HBW.out HZ.out _ _ _ _ _ _)
                case' rest =>
                  obtain ⟨g7, rfl, rfl, M4⟩ := hcut
                  have M4 := Lib.hid M4
                  have hs4 : wr.heap.size ≤ g7 := M4.out.gl
                  clear P2 ca
                  go_wp2_with fail
                have hfld := fun W => run_field3 n d u y3 y4 (t0 + x) W
                go_region_held3 (fun W => W.cell? ⟨g7, 0, none⟩ = some (.int .i64 n) ∧ W.cell? ⟨g7, 1, none⟩ = some (.int .i64 d) ∧ W.cell? ⟨g7, 2, none⟩ = some (.int .i64 u) ∧ W.cell? ⟨g7, 3, none⟩ = some (.int .i64 (y3 - m)) ∧ W.cell? ⟨g7, 4, none⟩ = some (.int .i64 y4) ∧ W.cell? ⟨g7, 5, none⟩ = some (.int .i64 (t0 + x)) ∧ W.cell? ⟨w1.heap.size, 0, none⟩ = some (.int .i64 n) ∧ W.cell? ⟨w1.heap.size, 1, none⟩ = some (.int .i64 d) ∧ W.cell? ⟨w1.heap.size, 2, none⟩ = some (.int .i64 u) ∧ W.cell? ⟨w1.heap.size, 3, none⟩ = some (.int .i64 x3) ∧ W.cell? ⟨w1.heap.size, 4, none⟩ = some (.int .i64 x4) ∧ W.cell? ⟨w1.heap.size, 5, none⟩ = some (.int .i64 t0) ∧ W.cell? ⟨gA, off + k * 2 + 1, none⟩ = some (.int .i64 m) ∧ BMid wr W g7 n d u (y3 - m) y4 (t0 + x)) (first | assumption | exact BMid.s (by assumption) HBL.out.bx cb | exact BMid.s (BMid.drew (by assumption)) HBL.out.bx cb | exact BMid.s M4.out HBL.out.bx cb | exact BMid.s M4.out.drew HBL.out.bx cb)
                  (first
                    | (go_at_call 15; refine (P3.out _).mono ?_; rintro e w5 ⟨rfl, hb5⟩; have hS5 : BMid wr w5 g7 n d u (y3 - m) y4 (t0 + x) := BMid.more (BMid.ofS (by assumption)) hb5)
                    | (go_at_call 17; refine (P4.out _).mono ?_; rintro e w6 ⟨rfl, hb6⟩; have hS6 : BMid wr w6 g7 n d u (y3 - m) y4 (t0 + x) := BMid.more (BMid.ofS (by assumption)) hb6))
                skip
                clear hS5 hb5 hb6 hfld
                have HS := Lib.hid hS6
                have HW := Lib.hid (HBL.out.more hS6.bl)
                have hsz6 := HW.out.be.size
                have g7ne : w1.heap.size ≠ g7 := by have := HBL.out.bx.lt; omega
                clear hS6 M4
                have hT8 : (T.length + 1) * 8 ≤ 140737488355328 := by omega
                have hK8 : (K.length + 1) * 8 ≤ 140737488355328 := by have := HTK.out; omega
                go_wp2_with (first
                  | (at_builtin; (refine push64 w6 rfl (.tmp 116) (.tmp 118) rfl w.heap.size u14 T.length T rfl HW.out.ot (t0 + x) rfl hT8 hsz6 ?_); intro v1 W7 ho1 hg1 hb1; have Q1 := Lib.hid (HW.out.push_t ho1 hg1 hb1); have HO1 := Lib.hid ho1; have cc : W7.cell? ⟨gA, off + k * 2 + 1, none⟩ = some (.int .i64 m) := ((Q1.out.2.2.2.cell (p := ⟨gA, off + k * 2 + 1, none⟩) hAlt).trans (HBL.out.be.cell (p := ⟨gA, off + k * 2 + 1, none⟩) hAlt).symm).trans cb; have B71 := Lib.hid (HS.out.b7.grown hg1 (fun e => by have := (own_block_lt HBL.out.ot e.symm).2; omega)); have hsz7 := Q1.out.2.2.2.size; clear ho1 hg1 hb1)
                  | (at_builtin; (refine push64 W7 rfl (.tmp 120) (.tmp 126) rfl w.heap.size u15 K.length K rfl Q1.out.1 m rfl hK8 hsz7 ?_); intro v2 W8 ho2 hg2 hb2; have Q2 := Lib.hid (push_k (T := T ++ [t0 + x]) (tv := v1) (by simpa using HO1.out) Q1.out.1 Q1.out.2.1 Q1.out.2.2.1 HW.out.sk HW.out.gl Q1.out.2.2.2 hg2 hb2); have HO2 := Lib.hid ho2; have B72 := Lib.hid (B71.out.grown hg2 (fun e => by have := (own_block_lt HBL.out.ok e.symm).2; omega)); obtain ⟨c0, c1, c2, c3, c4, c5, _, _, _, _, _, _⟩ := B72.out.facts; obtain ⟨e0, e1, e2, e3, e4, e5, f0, f1, f2, f3, f4, f5⟩ := Q2.out.2.1.facts; clear ho2 hg2 hb2))
                go_roundw
                case rel => exact ⟨k + 1, t0 + x, y3 - m, y4, T ++ [t0 + x], K ++ [m], by omega, by go_num, rfl, bloop_stored Q2.out.1 (by simpa using HO2.out) Q2.out.2.1 Q2.out.2.2.1 Q2.out.2.2.2.1 HW.out.gl Q2.out.2.2.2.2 (HH.out.took hTk (show 0 ≤ m by omega) (by simp only; omega))⟩
                case measure => simp [intOf]; omega
    · have hkl : k = len := by omega
      have hkl2 : k ≤ 1000 := by omega
      have hTk : T.length ≤ k := HBL.out.hi.tl
      have HTK := Lib.hid HBL.out.hi.len
      obtain ⟨At, ct, htv, hct, _, _⟩ := own_shape HBL.out.ot
      obtain ⟨Ak, ck, hkv, hck, _, _⟩ := own_shape HBL.out.ok
      subst htv hkv
      have RT := Lib.hid (rd_own HBL.out.ot)
      have RK := Lib.hid (rd_own HBL.out.ok)
      have HI := Lib.hid HBL.out.hi
      have HBE := Lib.hid HBL.out.be
      obtain ⟨N, hN⟩ : ∃ N, N = T.length := ⟨_, rfl⟩
      have hKN : K.length = N := by rw [hN]; exact HTK.out.symm
      have HKN := Lib.hid hKN
      have HN := Lib.hid hN
      rw [← hN] at hTk hct ⊢
      rw [hKN] at hck ⊢
      obtain ⟨qq, hqq⟩ : ∃ q, q = n / d := ⟨_, rfl⟩
      obtain ⟨rr, hrr⟩ : ∃ r, r = n % d := ⟨_, rfl⟩
      have hq0 : 0 ≤ qq ∧ qq ≤ 1073741824 := by
        rw [hqq]
        refine ⟨Int.ediv_nonneg (by omega) (by omega), ?_⟩
        have := Int.ediv_le_self (b := d) (show 0 ≤ n by omega)
        omega
      have hr0 : 0 ≤ rr ∧ rr ≤ 1048576 := by
        rw [hrr]
        have h1 := Int.emod_nonneg n (show d ≠ 0 by omega)
        have h2 := Int.emod_lt_of_pos n (show 0 < d by omega)
        omega
      have HQ := Lib.hid hqq
      have HRR := Lib.hid hrr
      clear hqq hrr hN hKN hkl HBL HST H64 HB1
    
      go_wp2_with fail
      go_loopw [19] (fun i wx => ∃ (a m : Nat), a ≤ N ∧ i = .int .i64 a ∧ wx = wr.drewN m) (fun i _ => N - (intOf i).toNat)
      case atStart => exact ⟨0, 0, Nat.zero_le _, rfl, rfl⟩
      case round =>
        obtain ⟨a, m, ha, rfl, rfl⟩ := hrel
        by_cases hlt : a < N
        · obtain ⟨t, ht⟩ : ∃ t, T[a]? = some t := ⟨_, List.getElem?_eq_getElem (by rw [← HN.out]; exact hlt)⟩
          obtain ⟨gT, oT, rfl, _, hcT⟩ := RT.out.i64 ht
          have HT := Lib.hid ht
          have a0 : (0 : Int) ≤ (a : Int) := by omega
          have a1 : (a : Int) < (N : Int) := by omega
          have hS0 : (0 : Int) = ((K.take a).drop a).sum := by simp
          clear ht
          go_wp2_with fail
          go_loopw [21, 20] (fun i sm wx => ∃ (b m : Nat), a ≤ b ∧ b ≤ N ∧ i = .int .i64 b ∧ sm = .int .i64 ((K.take b).drop a).sum ∧ wx = wr.drewN m) (fun i _ _ => N - (intOf i).toNat)
          case atStart => exact ⟨a, m, Nat.le_refl _, by omega, rfl, by rw [← hS0], rfl⟩
          case round =>
            obtain ⟨b, m', hab, hb, rfl, rfl, rfl⟩ := hrel
            by_cases hlt2 : b < N
            · obtain ⟨t', ht'⟩ : ∃ t, T[b]? = some t := ⟨_, List.getElem?_eq_getElem (by rw [← HN.out]; exact hlt2)⟩
              obtain ⟨x, hx⟩ : ∃ x, K[b]? = some x := ⟨_, List.getElem?_eq_getElem (by rw [HKN.out]; exact hlt2)⟩
              obtain ⟨g2, o2, e2, _, hcT2⟩ := RT.out.i64 ht'
              simp only [Option.some.injEq, Addr.mk.injEq, and_true] at e2
              obtain ⟨rfl, rfl⟩ := e2
              obtain ⟨gK, oK, rfl, _, hcK⟩ := RK.out.i64 hx
              have hbd := HI.out.bound hab HT.out ht'
              have hgd := (HI.out.good a b t t' hab HT.out ht').1
              have htb := HI.out.tb b t' ht'
              have hta := HI.out.tb a t HT.out
              have hat2 := HI.out.at2
              have hxb := HI.out.kb b x hx
              have hsn := take_drop_snoc hab hx
              have hs0 := HI.out.sum hkl2 a b
              rw [← HQ.out, ← HRR.out, hsn] at hbd
              have HSN := Lib.hid hsn
              obtain ⟨sm, hsm⟩ : ∃ s, s = ((K.take b).drop a).sum := ⟨_, rfl⟩
              rw [← hsm] at hbd HSN hs0 ⊢
              have hD : 0 ≤ t' - t ∧ t' - t ≤ 1048576000 := by omega
              have hp1 := mul_bd hq0.1 hq0.2 hD.1 hD.2
              have hp2 := mul_bd hr0.1 hr0.2 hD.1 hD.2
              have hp3 : 0 ≤ rr * (t' - t) / d ∧ rr * (t' - t) / d ≤ rr * (t' - t) := ⟨Int.ediv_nonneg hp2.1 (by omega), Int.ediv_le_self _ hp2.1⟩
              have b0 : (0 : Int) ≤ (b : Int) := by omega
              have b1 : (b : Int) < (N : Int) := by omega
              have nn : 0 ≤ now ∧ now ≤ 1125899906842623 := ⟨t1, t2⟩
              clear ht' hx hsn hsm hS0
              go_wp2_with fail
              have E1 : n.tdiv d = qq := by rw [HQ.out]; exact Int.tdiv_eq_ediv_of_nonneg (by omega)
              have E2 : n.tmod d = rr := by rw [HRR.out]; exact Int.tmod_eq_emod_of_nonneg (by omega)
              have E3 : IntKind.i64.wrap (t' - t) = t' - t := IntWalk.i64_in _ (by omega)
              have E4 : IntKind.i64.wrap (qq * (t' - t)) = qq * (t' - t) := IntWalk.i64_in _ (by omega)
              have E5 : IntKind.i64.wrap (rr * (t' - t)) = rr * (t' - t) := IntWalk.i64_in _ (by omega)
              have E6 : (rr * (t' - t)).tdiv d = rr * (t' - t) / d := Int.tdiv_eq_ediv_of_nonneg hp2.1
              have E7 : IntKind.i64.wrap (qq * (t' - t) + rr * (t' - t) / d) = qq * (t' - t) + rr * (t' - t) / d := IntWalk.i64_in _ (by omega)
              have E8 : IntKind.i64.wrap qq = qq := IntWalk.i64_in _ (by omega)
              have E9 : IntKind.i64.wrap (rr * (t' - t) / d) = rr * (t' - t) / d := IntWalk.i64_in _ (by omega)
              have E10 : (d == 0) = false := by rw [beq_eq_false_iff_ne]; omega
              go_quiet (fail)
              clear E1 E2 E3 E4 E5 E6 E7 E8 E9 E10
              go_wp2_with fail
              go_roundw
              case rel => exact ⟨b + 1, _, by omega, by omega, by go_num, by rw [HSN.out], rfl⟩
              case measure => simp [intOf]; omega
            · go_wp2_with fail
              go_roundw
              case rel => exact ⟨a + 1, m', by omega, by go_num, rfl⟩
              case measure => simp [intOf]; omega
        · go_wp2_with fail
          go_ret
          exact ⟨rfl, below_drewN HBE.out m⟩
end Go.Proofs.Ythcmkjiemlfpcaa
