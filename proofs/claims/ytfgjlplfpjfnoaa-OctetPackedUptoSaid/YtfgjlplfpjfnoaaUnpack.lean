/- Unpack. (Printed by gen_unpack.py.) -/
import Derived.Test.YtfgjlplfpjfnoaaUnpPlain
namespace Go.Proofs.Ytfgjlplfpjfnoaa
open Go Go.RowKit
set_option linter.unusedVariables false
set_option linter.unusedSimpArgs false

theorem bxi_turn {base : Nat} {T : TypeId} {cf : Rs → Value → Array Value} {wr W : World} {g1 : Nat} {v1 : Value} {s' : Rs} {x : Stp} {o : Obj} (hg : g1 < wr.heap.size) (h : BxI (wr.alloc o) wr.heap.size x) (ht : Turned base (wr.alloc o) T cf g1 v1 s' W) : BxI W wr.heap.size x :=
  (ht.kept.block _ (by simp) (fun e => by omega)).trans h
theorem bxi_free {W : World} {g : Nat} {x : Stp} (h : BxI W g x) : W.frozen? ⟨g, 1, none⟩ = false ∧ W.frozen? ⟨g, 2, none⟩ = false := by
  unfold BxI at h
  constructor <;> simp [World.frozen?, h]
theorem no_own {w : World} {base n : Nat} {v : Value} {xs : List Value} {e : TypeId} {size : Nat} (h : w.ownsRow base e size v n xs) : v.ownBlock ≠ some w.heap.size := by
  intro e
  have := (h.lt _ e).2
  omega

theorem val8_lt {s : Rs} (h : s.Ok) : val (s.take 8).1 < 18446744073709551616 := by
  have h1 := val_lt _ _ (s.take_by h 8) rfl
  have h2 := s.take_len4 8
  have h3 : (256 : Nat) ^ (s.take 8).1.length ≤ 256 ^ 8 := Nat.pow_le_pow_right (by omega) h2
  have h4 : (256 : Nat) ^ 8 = 18446744073709551616 := by decide
  omega
theorem rd_itm (w : World) (x : Stp) (g : Nat) (hg : g = w.heap.size) : Rd (w.alloc (.cells #[.int .i64 x.k, .int .u64 (x.n : Int), .string x.s] 68)) (some ⟨g, 0, none⟩) (stCells [x]) := by
  subst hg
  exact rd_lit w (stCells [x]) _
theorem own_set2 {w W : World} {v a b : Value} {n : Nat} {xs : List Value} {e : TypeId} {size : Nat} (h : W.ownsRow (w.heap.size + 1) e size v n xs) : ((W.setCell ⟨w.heap.size, 0, none⟩ a).setCell ⟨w.heap.size, 1, none⟩ b).ownsRow w.heap.size e size v n xs := by
  have h1 := own_weak h (Nat.le_succ w.heap.size)
  refine ⟨h1.1, ?_⟩
  rcases h.2 with hn | ⟨q, cap, cur, e, hb, hh, rest⟩
  · exact .inl hn
  · refine .inr ⟨q, cap, cur, e, by omega, ?_, rest⟩
    rw [heap_setCell_other _ _ q _ (by simp; omega), heap_setCell_other _ _ q _ (by simp; omega)]
    exact hh
theorem by_head {s : Rs} (h : s.Ok) : (s.take 1).1.headD 0 ≤ 255 := by
  have hb := Rs.take_by h 1
  cases hl : (s.take 1).1 with
  | nil => simp
  | cons x r =>
    have := hb x (by rw [hl]; simp)
    simp
    omega

section
variable (A : Option Addr) (n c : Nat) (ks : List Int) (most : Int) (B : Option Addr) (m d : Nat) (bs : List Nat) (w : World)
  (hr : Rd w A (i64s ks)) (hn : ks.length = n) (hl : n ≤ 4000000000000) (hmost : -9223372036854775808 ≤ most ∧ most ≤ 9223372036854775807)
  (hrb : Rd w B (b8 bs)) (hm : bs.length = m) (hby : By bs) (hm2 : m ≤ 140737488351232)
include hr hn hl hmost hrb hm hby hm2

set_option maxHeartbeats 2000000 in
set_option maxRecDepth 100000 in
theorem unpack_is : Calls Try.prog 60 #[.slice A n c, .int .i64 most, .slice B m d] w (UnpPost w (unp ks most bs)) := by
  have HN := Lib.hid hn
  have HR := Lib.hid hr
  have bx := (Below.refl w.heap.size w).alloc (Nat.le_refl _) (.cells #[.int .i64 0, .int .i64 0] 76)
  have PN := Lib.hid (newReader_is B m d bs (w.alloc (.cells #[.int .i64 0, .int .i64 0] 76)) (hrb.below bx) hm hby (by omega))
  unfold Newed at PN
  have BX := Lib.hid bx
  have HS0 : Hid ((w.alloc (.cells #[.int .i64 0, .int .i64 0] 76)).heap.size = w.heap.size + 1) := Lib.hid (by simp)
  obtain ⟨q, hq⟩ : ∃ q, q = unp ks most bs := ⟨_, rfl⟩
  rw [← hq]
  have HQ := Lib.hid hq
  clear hr hn hrb hm hby bx hq
  go_enter Try.func60, Try.ntmps60
  go_wp2
  go_loop [18] (fun i => ∃ k : Nat, k ≤ n ∧ i = .int .i64 k ∧ Hid ((ks.take k).all kindOk = true)) (fun i => n - (intOf i).toNat)
  case atStart => exact ⟨0, Nat.zero_le _, rfl, Lib.hid (by simp)⟩
  case round =>
    obtain ⟨k, hk, rfl, HK⟩ := hrel
    by_cases hlt : k < n
    · obtain ⟨x, hx⟩ : ∃ x, ks[k]? = some x := ⟨_, List.getElem?_eq_getElem (by rw [HN.out]; exact hlt)⟩
      obtain ⟨g, off, rfl, hg, hcell⟩ := HR.out.i64 hx
      have HX := Lib.hid hx
      clear hx
      by_cases h0 : x < 0
      · have hb := Lib.hid (unp_badkind (most := most) (bs := bs) (not_all_ok HX.out (.inl h0)))
        go_wp2
        refine bodyPost_ret (v := .tuple #[.slice none 0 0, .agg #[.int .i64 12, .int .i64 0]]) (by simp [results, Try.results60, go_sem, *]) rfl ?_
        rw [HQ.out, hb.out]
        exact ⟨none, 0, rfl, World.ownsRow_nil _ _ _ _, (Below.refl _ _).alloc (Nat.le_refl _) _⟩
      · by_cases h5 : 5 < x
        · have hb := Lib.hid (unp_badkind (most := most) (bs := bs) (not_all_ok HX.out (.inr h5)))
          go_wp2
          refine bodyPost_ret (v := .tuple #[.slice none 0 0, .agg #[.int .i64 12, .int .i64 0]]) (by simp [results, Try.results60, go_sem, *]) rfl ?_
          rw [HQ.out, hb.out]
          exact ⟨none, 0, rfl, World.ownsRow_nil _ _ _ _, (Below.refl _ _).alloc (Nat.le_refl _) _⟩
        · have HK2 := Lib.hid (all_take_ok HX.out HK.out (by omega) (by omega))
          go_wp2
          go_round
          case rel => exact ⟨k + 1, by omega, by go_num, HK2⟩
          case measure => simp [intOf]; omega
    · have hall : ks.all kindOk = true := by
        have h := HK.out
        rw [List.take_of_length_le (by rw [HN.out]; omega)] at h
        exact h
      have HALL := Lib.hid hall
      have hkn : n = k := by omega
      subst hkn
      clear hall HK hlt hk
      go_wp2_with fail
      refine PN.out.mono ?_
      rintro e w1 ⟨g1, v1, rfl, hr1, hb1⟩
      rw [HS0.out] at hr1 hb1
      have HI0 := Lib.hid (⟨hr1, World.ownsRow_nil _ _ _ _, (fun e => by cases e), (fun q e => by cases e), hb1⟩ : UInv 78 Rs.cells w w1 g1 v1 ⟨bs, 0, 0, 0⟩ (.slice none 0 0) [])
      clear hr1 hb1 PN
      go_wp2_with fail
      go_loopw [11, 34] (fun vv i wr => ∃ (k : Nat) (vi : Value), k ≤ n ∧ i = .int .i64 k ∧ vv = vi ∧ Hid ((rdAll most (ks.take k) ⟨bs, 0, 0, 0⟩).2.err = 0) ∧ Hid (UInv 78 Rs.cells w wr g1 v1 (rdAll most (ks.take k) ⟨bs, 0, 0, 0⟩).2 vi (rdAll most (ks.take k) ⟨bs, 0, 0, 0⟩).1)) (fun _ i _ => n - (intOf i).toNat)
      case atStart => exact ⟨0, _, Nat.zero_le _, rfl, rfl, Lib.hid rfl, HI0⟩
      case round =>
        obtain ⟨k, vi, hk, rfl, rfl, HE, HI⟩ := hrel
        clear HI0
        have hsz := HI.out.sz
        by_cases hlt : k < n
        · obtain ⟨x, hx⟩ : ∃ x, ks[k]? = some x := ⟨_, List.getElem?_eq_getElem (by rw [HN.out]; exact hlt)⟩
          obtain ⟨gA, off, rfl, hgA, hcell0⟩ := HR.out.i64 hx
          have hcell : wr.cell? ⟨gA, off + k, none⟩ = some (.int .i64 x) := ((BX.out.trans (HI.out.be.mono (by omega))).cell (p := ⟨gA, off + k, none⟩) hgA).trans hcell0
          have hgr : gA < wr.heap.size := by omega
          have HT := Lib.hid (rdAll_take (most := most) hx ⟨bs, 0, 0, 0⟩)
          have hkind := kind_of_all hx HALL.out
          obtain ⟨a, ha⟩ : ∃ a, a = rdAll most (ks.take k) ⟨bs, 0, 0, 0⟩ := ⟨_, rfl⟩
          have HLa : Hid (a.1.length = k) := Lib.hid (by rw [ha, rdAll_len]; simp [HN.out]; omega)
          rw [← ha] at HI HE HT
          obtain ⟨its, s⟩ := a
          simp only at HI HE HLa
          have hg1 := HI.out.rd.lt
          have hg1w : ¬ g1 = wr.heap.size := by omega
          have hwg1 : ¬ wr.heap.size = g1 := by omega
          have HA0 := Lib.hid (HI.out.below ((Below.refl _ _).alloc (Nat.le_refl _) (.cells #[.int .i64 x, .int .u64 0, .string ⟨#[]⟩] 68)))
          have HB0 := Lib.hid (BxI.new wr ⟨x, 0, ⟨#[]⟩⟩)
          have NO1 := Lib.hid (no_own HI.out.own)
          have NO2 := Lib.hid (no_own HI.out.rd.own)
          clear hcell0 hx ha
          rcases hkind with rfl | rfl | rfl | rfl | rfl | rfl
          · obtain ⟨u, hu⟩ : ∃ u, u = (s.take 1).1.headD 0 := ⟨_, rfl⟩
            have hub : u ≤ 255 := by rw [hu]; exact by_head HI.out.rd.ok
            obtain ⟨s2, hs2⟩ : ∃ s2, s2 = (s.take 1).2 := ⟨_, rfl⟩
            have HP : Hid (rdItem most s 0 = (⟨0, u, ⟨#[]⟩⟩, s2)) := Lib.hid (by rw [hu, hs2]; rfl)
            have PB := Lib.hid (fun W (h : Rdr (w.heap.size + 1) W 78 Rs.cells g1 v1 s) => byte_r (w.heap.size + 1) g1 v1 s W h)
            unfold Gave at PB
            rw [← hu, ← hs2] at PB
            clear hu hs2
            have HN2 : Hid (rdAll most (ks.take (k + 1)) ⟨bs, 0, 0, 0⟩ = (its ++ [(⟨0, u, ⟨#[]⟩⟩ : Stp)], s2)) := Lib.hid (by rw [HT.out]; simp only [rdStep, HP.out])
            by_cases hz : s2.err = 0
            · have hserr : (s2.err != 0) = false := by simp [hz]
              have HE2 := Lib.hid hz
              clear hz
              go_wp2_with (first
                | (go_at_call 89; refine (PB.out _ HA0.out.rd).mono ?_; rintro r w2 ⟨rfl, ht⟩; have HU2 := Lib.hid (HA0.out.turn ht); have HB2 := Lib.hid (bxi_turn hg1 HB0.out ht); obtain ⟨b0, b1, b2⟩ := HB2.out.facts; simp only at b0 b1 b2; obtain ⟨fr1, fr2⟩ := bxi_free HB2.out; have hl2 := HB2.out.lt; obtain ⟨_, _, d2, _, _, _, _, _, _⟩ := ht.rd.pf; (rw [hserr] at d2); clear ht)
                | (at_builtin;  (refine appI _ rfl (.tmp 77) (.tmp 79) rfl (w.heap.size + 1) u11 _ its rfl ((HU2.out.set (b := wr.heap.size) (by omega) hwg1 NO1.out NO2.out 1 _).own.alloc _) (some ⟨_, 0, none⟩) 1 1 [(⟨0, u, ⟨#[]⟩⟩ : Stp)] rfl rfl (rd_itm _ (⟨0, u, ⟨#[]⟩⟩ : Stp) _ (by simp)) (by have := HLa.out; omega) (by simp; omega) ?_); intro v3 w3 hown hgr3 hc3; have HV := Lib.hid (((HU2.out.set (b := wr.heap.size) (by omega) hwg1 NO1.out NO2.out 1 (.int .u64 (u : Int))).below (below_box _ _)).push (its' := its ++ [(⟨0, u, ⟨#[]⟩⟩ : Stp)]) (by rw [List.length_append]; exact hown) hgr3 hc3); clear hown hgr3 hc3))
              go_roundw
              case rel => exact ⟨k + 1, _, by omega, by go_num, rfl, Lib.hid (by rw [HN2.out]; exact HE2.out), Lib.hid (by rw [HN2.out]; exact HV.out)⟩
              case measure => simp [intOf]; omega
            · have hserr : (s2.err != 0) = true := by simpa using hz
              have HF : Hid (unp ks most bs = ([], s2.fin)) := Lib.hid (by rw [unp_fail (j := k + 1) HALL.out (by rw [HN2.out]; exact hz), HN2.out])
              clear hz
              go_wp2_with (first
                | (go_at_call 89; refine (PB.out _ HA0.out.rd).mono ?_; rintro r w2 ⟨rfl, ht⟩; have HU2 := Lib.hid (HA0.out.turn ht); have HB2 := Lib.hid (bxi_turn hg1 HB0.out ht); obtain ⟨b0, b1, b2⟩ := HB2.out.facts; simp only at b0 b1 b2; obtain ⟨fr1, fr2⟩ := bxi_free HB2.out; have hl2 := HB2.out.lt; obtain ⟨_, _, d2, _, _, _, _, _, _⟩ := ht.rd.pf; (rw [hserr] at d2); clear ht)
                | (go_at_call 58; have HU3 := Lib.hid (HU2.out.set (b := wr.heap.size) (by omega) hwg1 NO1.out NO2.out 1 (.int .u64 (u : Int))); refine (end_r _ g1 v1 _ _ HU3.out.rd).mono ?_; rintro r w4 ⟨rfl, hb4⟩; have HU4 := Lib.hid (HU3.out.below hb4); obtain ⟨z0, z1, z2, z3, z4⟩ := HU4.out.spot; clear hb4))
              refine bodyPost_ret (v := .tuple #[.slice none 0 0, .agg #[.int .i64 s2.fin.1, .int .i64 (s2.fin.2 : Int)]]) (by simp [results, Try.results60, go_sem, *]) rfl ?_
              rw [HQ.out, HF.out]
              exact ⟨none, 0, rfl, World.ownsRow_nil _ _ _ _, unp_out HU4.out.be⟩
          · obtain ⟨u, hu⟩ : ∃ u, u = s.num.1 := ⟨_, rfl⟩
            have hub : u ≤ 18446744073709551615 := by rw [hu]; exact (by have := HI.out.rd.ok.num.2.1; omega)
            obtain ⟨s2, hs2⟩ : ∃ s2, s2 = s.num.2 := ⟨_, rfl⟩
            have HP : Hid (rdItem most s 1 = (⟨1, u, ⟨#[]⟩⟩, s2)) := Lib.hid (by rw [hu, hs2]; rfl)
            have PB := Lib.hid (fun W (h : Rdr (w.heap.size + 1) W 78 Rs.cells g1 v1 s) => uv_r (w.heap.size + 1) g1 v1 s W h)
            unfold Gave at PB
            rw [← hu, ← hs2] at PB
            clear hu hs2
            have HN2 : Hid (rdAll most (ks.take (k + 1)) ⟨bs, 0, 0, 0⟩ = (its ++ [(⟨1, u, ⟨#[]⟩⟩ : Stp)], s2)) := Lib.hid (by rw [HT.out]; simp only [rdStep, HP.out])
            by_cases hz : s2.err = 0
            · have hserr : (s2.err != 0) = false := by simp [hz]
              have HE2 := Lib.hid hz
              clear hz
              go_wp2_with (first
                | (go_at_call 91; refine (PB.out _ HA0.out.rd).mono ?_; rintro r w2 ⟨rfl, ht⟩; have HU2 := Lib.hid (HA0.out.turn ht); have HB2 := Lib.hid (bxi_turn hg1 HB0.out ht); obtain ⟨b0, b1, b2⟩ := HB2.out.facts; simp only at b0 b1 b2; obtain ⟨fr1, fr2⟩ := bxi_free HB2.out; have hl2 := HB2.out.lt; obtain ⟨_, _, d2, _, _, _, _, _, _⟩ := ht.rd.pf; (rw [hserr] at d2); clear ht)
                | (at_builtin;  (refine appI _ rfl (.tmp 77) (.tmp 79) rfl (w.heap.size + 1) u11 _ its rfl ((HU2.out.set (b := wr.heap.size) (by omega) hwg1 NO1.out NO2.out 1 _).own.alloc _) (some ⟨_, 0, none⟩) 1 1 [(⟨1, u, ⟨#[]⟩⟩ : Stp)] rfl rfl (rd_itm _ (⟨1, u, ⟨#[]⟩⟩ : Stp) _ (by simp)) (by have := HLa.out; omega) (by simp; omega) ?_); intro v3 w3 hown hgr3 hc3; have HV := Lib.hid (((HU2.out.set (b := wr.heap.size) (by omega) hwg1 NO1.out NO2.out 1 (.int .u64 (u : Int))).below (below_box _ _)).push (its' := its ++ [(⟨1, u, ⟨#[]⟩⟩ : Stp)]) (by rw [List.length_append]; exact hown) hgr3 hc3); clear hown hgr3 hc3))
              go_roundw
              case rel => exact ⟨k + 1, _, by omega, by go_num, rfl, Lib.hid (by rw [HN2.out]; exact HE2.out), Lib.hid (by rw [HN2.out]; exact HV.out)⟩
              case measure => simp [intOf]; omega
            · have hserr : (s2.err != 0) = true := by simpa using hz
              have HF : Hid (unp ks most bs = ([], s2.fin)) := Lib.hid (by rw [unp_fail (j := k + 1) HALL.out (by rw [HN2.out]; exact hz), HN2.out])
              clear hz
              go_wp2_with (first
                | (go_at_call 91; refine (PB.out _ HA0.out.rd).mono ?_; rintro r w2 ⟨rfl, ht⟩; have HU2 := Lib.hid (HA0.out.turn ht); have HB2 := Lib.hid (bxi_turn hg1 HB0.out ht); obtain ⟨b0, b1, b2⟩ := HB2.out.facts; simp only at b0 b1 b2; obtain ⟨fr1, fr2⟩ := bxi_free HB2.out; have hl2 := HB2.out.lt; obtain ⟨_, _, d2, _, _, _, _, _, _⟩ := ht.rd.pf; (rw [hserr] at d2); clear ht)
                | (go_at_call 58; have HU3 := Lib.hid (HU2.out.set (b := wr.heap.size) (by omega) hwg1 NO1.out NO2.out 1 (.int .u64 (u : Int))); refine (end_r _ g1 v1 _ _ HU3.out.rd).mono ?_; rintro r w4 ⟨rfl, hb4⟩; have HU4 := Lib.hid (HU3.out.below hb4); obtain ⟨z0, z1, z2, z3, z4⟩ := HU4.out.spot; clear hb4))
              refine bodyPost_ret (v := .tuple #[.slice none 0 0, .agg #[.int .i64 s2.fin.1, .int .i64 (s2.fin.2 : Int)]]) (by simp [results, Try.results60, go_sem, *]) rfl ?_
              rw [HQ.out, HF.out]
              exact ⟨none, 0, rfl, World.ownsRow_nil _ _ _ _, unp_out HU4.out.be⟩
          · obtain ⟨u, hu⟩ : ∃ u, u = s.num.1 := ⟨_, rfl⟩
            have hub : u ≤ 18446744073709551615 := by rw [hu]; exact (by have := HI.out.rd.ok.num.2.1; omega)
            obtain ⟨s2, hs2⟩ : ∃ s2, s2 = s.num.2 := ⟨_, rfl⟩
            have HP : Hid (rdItem most s 2 = (⟨2, u, ⟨#[]⟩⟩, s2)) := Lib.hid (by rw [hu, hs2]; rfl)
            have PB := Lib.hid (fun W (h : Rdr (w.heap.size + 1) W 78 Rs.cells g1 v1 s) => uv_r (w.heap.size + 1) g1 v1 s W h)
            unfold Gave at PB
            rw [← hu, ← hs2] at PB
            clear hu hs2
            have HN2 : Hid (rdAll most (ks.take (k + 1)) ⟨bs, 0, 0, 0⟩ = (its ++ [(⟨2, u, ⟨#[]⟩⟩ : Stp)], s2)) := Lib.hid (by rw [HT.out]; simp only [rdStep, HP.out])
            by_cases hz : s2.err = 0
            · have hserr : (s2.err != 0) = false := by simp [hz]
              have HE2 := Lib.hid hz
              clear hz
              go_wp2_with (first
                | (go_at_call 91; refine (PB.out _ HA0.out.rd).mono ?_; rintro r w2 ⟨rfl, ht⟩; have HU2 := Lib.hid (HA0.out.turn ht); have HB2 := Lib.hid (bxi_turn hg1 HB0.out ht); obtain ⟨b0, b1, b2⟩ := HB2.out.facts; simp only at b0 b1 b2; obtain ⟨fr1, fr2⟩ := bxi_free HB2.out; have hl2 := HB2.out.lt; obtain ⟨_, _, d2, _, _, _, _, _, _⟩ := ht.rd.pf; (rw [hserr] at d2); clear ht)
                | (at_builtin;  (refine appI _ rfl (.tmp 77) (.tmp 79) rfl (w.heap.size + 1) u11 _ its rfl ((HU2.out.set (b := wr.heap.size) (by omega) hwg1 NO1.out NO2.out 1 _).own.alloc _) (some ⟨_, 0, none⟩) 1 1 [(⟨2, u, ⟨#[]⟩⟩ : Stp)] rfl rfl (rd_itm _ (⟨2, u, ⟨#[]⟩⟩ : Stp) _ (by simp)) (by have := HLa.out; omega) (by simp; omega) ?_); intro v3 w3 hown hgr3 hc3; have HV := Lib.hid (((HU2.out.set (b := wr.heap.size) (by omega) hwg1 NO1.out NO2.out 1 (.int .u64 (u : Int))).below (below_box _ _)).push (its' := its ++ [(⟨2, u, ⟨#[]⟩⟩ : Stp)]) (by rw [List.length_append]; exact hown) hgr3 hc3); clear hown hgr3 hc3))
              go_roundw
              case rel => exact ⟨k + 1, _, by omega, by go_num, rfl, Lib.hid (by rw [HN2.out]; exact HE2.out), Lib.hid (by rw [HN2.out]; exact HV.out)⟩
              case measure => simp [intOf]; omega
            · have hserr : (s2.err != 0) = true := by simpa using hz
              have HF : Hid (unp ks most bs = ([], s2.fin)) := Lib.hid (by rw [unp_fail (j := k + 1) HALL.out (by rw [HN2.out]; exact hz), HN2.out])
              clear hz
              go_wp2_with (first
                | (go_at_call 91; refine (PB.out _ HA0.out.rd).mono ?_; rintro r w2 ⟨rfl, ht⟩; have HU2 := Lib.hid (HA0.out.turn ht); have HB2 := Lib.hid (bxi_turn hg1 HB0.out ht); obtain ⟨b0, b1, b2⟩ := HB2.out.facts; simp only at b0 b1 b2; obtain ⟨fr1, fr2⟩ := bxi_free HB2.out; have hl2 := HB2.out.lt; obtain ⟨_, _, d2, _, _, _, _, _, _⟩ := ht.rd.pf; (rw [hserr] at d2); clear ht)
                | (go_at_call 58; have HU3 := Lib.hid (HU2.out.set (b := wr.heap.size) (by omega) hwg1 NO1.out NO2.out 1 (.int .u64 (u : Int))); refine (end_r _ g1 v1 _ _ HU3.out.rd).mono ?_; rintro r w4 ⟨rfl, hb4⟩; have HU4 := Lib.hid (HU3.out.below hb4); obtain ⟨z0, z1, z2, z3, z4⟩ := HU4.out.spot; clear hb4))
              refine bodyPost_ret (v := .tuple #[.slice none 0 0, .agg #[.int .i64 s2.fin.1, .int .i64 (s2.fin.2 : Int)]]) (by simp [results, Try.results60, go_sem, *]) rfl ?_
              rw [HQ.out, HF.out]
              exact ⟨none, 0, rfl, World.ownsRow_nil _ _ _ _, unp_out HU4.out.be⟩
          · obtain ⟨u, hu⟩ : ∃ u, u = val (s.take 4).1 := ⟨_, rfl⟩
            have hub : u ≤ 4294967295 := by rw [hu]; exact (by have := Rs.val4 HI.out.rd.ok; omega)
            obtain ⟨s2, hs2⟩ : ∃ s2, s2 = (s.take 4).2 := ⟨_, rfl⟩
            have HP : Hid (rdItem most s 3 = (⟨3, u, ⟨#[]⟩⟩, s2)) := Lib.hid (by rw [hu, hs2]; rfl)
            have PB := Lib.hid (fun W (h : Rdr (w.heap.size + 1) W 78 Rs.cells g1 v1 s) => u32_r (w.heap.size + 1) g1 v1 s W h)
            unfold Gave at PB
            rw [← hu, ← hs2] at PB
            clear hu hs2
            have HN2 : Hid (rdAll most (ks.take (k + 1)) ⟨bs, 0, 0, 0⟩ = (its ++ [(⟨3, u, ⟨#[]⟩⟩ : Stp)], s2)) := Lib.hid (by rw [HT.out]; simp only [rdStep, HP.out])
            by_cases hz : s2.err = 0
            · have hserr : (s2.err != 0) = false := by simp [hz]
              have HE2 := Lib.hid hz
              clear hz
              go_wp2_with (first
                | (go_at_call 95; refine (PB.out _ HA0.out.rd).mono ?_; rintro r w2 ⟨rfl, ht⟩; have HU2 := Lib.hid (HA0.out.turn ht); have HB2 := Lib.hid (bxi_turn hg1 HB0.out ht); obtain ⟨b0, b1, b2⟩ := HB2.out.facts; simp only at b0 b1 b2; obtain ⟨fr1, fr2⟩ := bxi_free HB2.out; have hl2 := HB2.out.lt; obtain ⟨_, _, d2, _, _, _, _, _, _⟩ := ht.rd.pf; (rw [hserr] at d2); clear ht)
                | (at_builtin;  (refine appI _ rfl (.tmp 77) (.tmp 79) rfl (w.heap.size + 1) u11 _ its rfl ((HU2.out.set (b := wr.heap.size) (by omega) hwg1 NO1.out NO2.out 1 _).own.alloc _) (some ⟨_, 0, none⟩) 1 1 [(⟨3, u, ⟨#[]⟩⟩ : Stp)] rfl rfl (rd_itm _ (⟨3, u, ⟨#[]⟩⟩ : Stp) _ (by simp)) (by have := HLa.out; omega) (by simp; omega) ?_); intro v3 w3 hown hgr3 hc3; have HV := Lib.hid (((HU2.out.set (b := wr.heap.size) (by omega) hwg1 NO1.out NO2.out 1 (.int .u64 (u : Int))).below (below_box _ _)).push (its' := its ++ [(⟨3, u, ⟨#[]⟩⟩ : Stp)]) (by rw [List.length_append]; exact hown) hgr3 hc3); clear hown hgr3 hc3))
              go_roundw
              case rel => exact ⟨k + 1, _, by omega, by go_num, rfl, Lib.hid (by rw [HN2.out]; exact HE2.out), Lib.hid (by rw [HN2.out]; exact HV.out)⟩
              case measure => simp [intOf]; omega
            · have hserr : (s2.err != 0) = true := by simpa using hz
              have HF : Hid (unp ks most bs = ([], s2.fin)) := Lib.hid (by rw [unp_fail (j := k + 1) HALL.out (by rw [HN2.out]; exact hz), HN2.out])
              clear hz
              go_wp2_with (first
                | (go_at_call 95; refine (PB.out _ HA0.out.rd).mono ?_; rintro r w2 ⟨rfl, ht⟩; have HU2 := Lib.hid (HA0.out.turn ht); have HB2 := Lib.hid (bxi_turn hg1 HB0.out ht); obtain ⟨b0, b1, b2⟩ := HB2.out.facts; simp only at b0 b1 b2; obtain ⟨fr1, fr2⟩ := bxi_free HB2.out; have hl2 := HB2.out.lt; obtain ⟨_, _, d2, _, _, _, _, _, _⟩ := ht.rd.pf; (rw [hserr] at d2); clear ht)
                | (go_at_call 58; have HU3 := Lib.hid (HU2.out.set (b := wr.heap.size) (by omega) hwg1 NO1.out NO2.out 1 (.int .u64 (u : Int))); refine (end_r _ g1 v1 _ _ HU3.out.rd).mono ?_; rintro r w4 ⟨rfl, hb4⟩; have HU4 := Lib.hid (HU3.out.below hb4); obtain ⟨z0, z1, z2, z3, z4⟩ := HU4.out.spot; clear hb4))
              refine bodyPost_ret (v := .tuple #[.slice none 0 0, .agg #[.int .i64 s2.fin.1, .int .i64 (s2.fin.2 : Int)]]) (by simp [results, Try.results60, go_sem, *]) rfl ?_
              rw [HQ.out, HF.out]
              exact ⟨none, 0, rfl, World.ownsRow_nil _ _ _ _, unp_out HU4.out.be⟩
          · obtain ⟨u, hu⟩ : ∃ u, u = val (s.take 8).1 := ⟨_, rfl⟩
            have hub : u ≤ 18446744073709551615 := by rw [hu]; exact (by have := val8_lt HI.out.rd.ok; omega)
            obtain ⟨s2, hs2⟩ : ∃ s2, s2 = (s.take 8).2 := ⟨_, rfl⟩
            have HP : Hid (rdItem most s 4 = (⟨4, u, ⟨#[]⟩⟩, s2)) := Lib.hid (by rw [hu, hs2]; rfl)
            have PB := Lib.hid (fun W (h : Rdr (w.heap.size + 1) W 78 Rs.cells g1 v1 s) => u64_r (w.heap.size + 1) g1 v1 s W h)
            unfold Gave at PB
            rw [← hu, ← hs2] at PB
            clear hu hs2
            have HN2 : Hid (rdAll most (ks.take (k + 1)) ⟨bs, 0, 0, 0⟩ = (its ++ [(⟨4, u, ⟨#[]⟩⟩ : Stp)], s2)) := Lib.hid (by rw [HT.out]; simp only [rdStep, HP.out])
            by_cases hz : s2.err = 0
            · have hserr : (s2.err != 0) = false := by simp [hz]
              have HE2 := Lib.hid hz
              clear hz
              go_wp2_with (first
                | (go_at_call 97; refine (PB.out _ HA0.out.rd).mono ?_; rintro r w2 ⟨rfl, ht⟩; have HU2 := Lib.hid (HA0.out.turn ht); have HB2 := Lib.hid (bxi_turn hg1 HB0.out ht); obtain ⟨b0, b1, b2⟩ := HB2.out.facts; simp only at b0 b1 b2; obtain ⟨fr1, fr2⟩ := bxi_free HB2.out; have hl2 := HB2.out.lt; obtain ⟨_, _, d2, _, _, _, _, _, _⟩ := ht.rd.pf; (rw [hserr] at d2); clear ht)
                | (at_builtin;  (refine appI _ rfl (.tmp 77) (.tmp 79) rfl (w.heap.size + 1) u11 _ its rfl ((HU2.out.set (b := wr.heap.size) (by omega) hwg1 NO1.out NO2.out 1 _).own.alloc _) (some ⟨_, 0, none⟩) 1 1 [(⟨4, u, ⟨#[]⟩⟩ : Stp)] rfl rfl (rd_itm _ (⟨4, u, ⟨#[]⟩⟩ : Stp) _ (by simp)) (by have := HLa.out; omega) (by simp; omega) ?_); intro v3 w3 hown hgr3 hc3; have HV := Lib.hid (((HU2.out.set (b := wr.heap.size) (by omega) hwg1 NO1.out NO2.out 1 (.int .u64 (u : Int))).below (below_box _ _)).push (its' := its ++ [(⟨4, u, ⟨#[]⟩⟩ : Stp)]) (by rw [List.length_append]; exact hown) hgr3 hc3); clear hown hgr3 hc3))
              go_roundw
              case rel => exact ⟨k + 1, _, by omega, by go_num, rfl, Lib.hid (by rw [HN2.out]; exact HE2.out), Lib.hid (by rw [HN2.out]; exact HV.out)⟩
              case measure => simp [intOf]; omega
            · have hserr : (s2.err != 0) = true := by simpa using hz
              have HF : Hid (unp ks most bs = ([], s2.fin)) := Lib.hid (by rw [unp_fail (j := k + 1) HALL.out (by rw [HN2.out]; exact hz), HN2.out])
              clear hz
              go_wp2_with (first
                | (go_at_call 97; refine (PB.out _ HA0.out.rd).mono ?_; rintro r w2 ⟨rfl, ht⟩; have HU2 := Lib.hid (HA0.out.turn ht); have HB2 := Lib.hid (bxi_turn hg1 HB0.out ht); obtain ⟨b0, b1, b2⟩ := HB2.out.facts; simp only at b0 b1 b2; obtain ⟨fr1, fr2⟩ := bxi_free HB2.out; have hl2 := HB2.out.lt; obtain ⟨_, _, d2, _, _, _, _, _, _⟩ := ht.rd.pf; (rw [hserr] at d2); clear ht)
                | (go_at_call 58; have HU3 := Lib.hid (HU2.out.set (b := wr.heap.size) (by omega) hwg1 NO1.out NO2.out 1 (.int .u64 (u : Int))); refine (end_r _ g1 v1 _ _ HU3.out.rd).mono ?_; rintro r w4 ⟨rfl, hb4⟩; have HU4 := Lib.hid (HU3.out.below hb4); obtain ⟨z0, z1, z2, z3, z4⟩ := HU4.out.spot; clear hb4))
              refine bodyPost_ret (v := .tuple #[.slice none 0 0, .agg #[.int .i64 s2.fin.1, .int .i64 (s2.fin.2 : Int)]]) (by simp [results, Try.results60, go_sem, *]) rfl ?_
              rw [HQ.out, HF.out]
              exact ⟨none, 0, rfl, World.ownsRow_nil _ _ _ _, unp_out HU4.out.be⟩
          · by_cases hm0 : most < 0
            · obtain ⟨u, hu⟩ : ∃ u, u = strOf (s.text most).1 := ⟨_, rfl⟩
              obtain ⟨s2, hs2⟩ : ∃ s2, s2 = (s.text most).2 := ⟨_, rfl⟩
              have HP : Hid (rdItem most s 5 = (⟨5, 0, u⟩, s2)) := Lib.hid (by rw [hu, hs2]; rfl)
              have PB := Lib.hid (fun W (h : Rdr (w.heap.size + 1) W 78 Rs.cells g1 v1 s) => text_r (w.heap.size + 1) g1 v1 s (0) W h (by omega))
              unfold Gave at PB
              rw [← text_max s most, show max most 0 = 0 by omega] at hu hs2
              rw [← hu, ← hs2] at PB
              clear hu hs2
              have HN2 : Hid (rdAll most (ks.take (k + 1)) ⟨bs, 0, 0, 0⟩ = (its ++ [(⟨5, 0, u⟩ : Stp)], s2)) := Lib.hid (by rw [HT.out]; simp only [rdStep, HP.out])
              by_cases hz : s2.err = 0
              · have hserr : (s2.err != 0) = false := by simp [hz]
                have HE2 := Lib.hid hz
                clear hz
                go_wp2_with (first
                  | (go_at_call 99; refine (PB.out _ HA0.out.rd).mono ?_; rintro r w2 ⟨rfl, ht⟩; have HU2 := Lib.hid (HA0.out.turn ht); have HB2 := Lib.hid (bxi_turn hg1 HB0.out ht); obtain ⟨b0, b1, b2⟩ := HB2.out.facts; simp only at b0 b1 b2; obtain ⟨fr1, fr2⟩ := bxi_free HB2.out; have hl2 := HB2.out.lt; obtain ⟨_, _, d2, _, _, _, _, _, _⟩ := ht.rd.pf; (rw [hserr] at d2); clear ht)
                  | (at_builtin;  (refine appI _ rfl (.tmp 77) (.tmp 79) rfl (w.heap.size + 1) u11 _ its rfl ((HU2.out.set (b := wr.heap.size) (by omega) hwg1 NO1.out NO2.out 2 _).own.alloc _) (some ⟨_, 0, none⟩) 1 1 [(⟨5, 0, u⟩ : Stp)] rfl rfl (rd_itm _ (⟨5, 0, u⟩ : Stp) _ (by simp)) (by have := HLa.out; omega) (by simp; omega) ?_); intro v3 w3 hown hgr3 hc3; have HV := Lib.hid (((HU2.out.set (b := wr.heap.size) (by omega) hwg1 NO1.out NO2.out 2 (.string u)).below (below_box _ _)).push (its' := its ++ [(⟨5, 0, u⟩ : Stp)]) (by rw [List.length_append]; exact hown) hgr3 hc3); clear hown hgr3 hc3))
                all_goals (try (exfalso; omega))
                all_goals (
                  go_roundw
                  case rel => exact ⟨k + 1, _, by omega, by go_num, rfl, Lib.hid (by rw [HN2.out]; exact HE2.out), Lib.hid (by rw [HN2.out]; exact HV.out)⟩
                  case measure => simp [intOf]; omega)
              · have hserr : (s2.err != 0) = true := by simpa using hz
                have HF : Hid (unp ks most bs = ([], s2.fin)) := Lib.hid (by rw [unp_fail (j := k + 1) HALL.out (by rw [HN2.out]; exact hz), HN2.out])
                clear hz
                go_wp2_with (first
                  | (go_at_call 99; refine (PB.out _ HA0.out.rd).mono ?_; rintro r w2 ⟨rfl, ht⟩; have HU2 := Lib.hid (HA0.out.turn ht); have HB2 := Lib.hid (bxi_turn hg1 HB0.out ht); obtain ⟨b0, b1, b2⟩ := HB2.out.facts; simp only at b0 b1 b2; obtain ⟨fr1, fr2⟩ := bxi_free HB2.out; have hl2 := HB2.out.lt; obtain ⟨_, _, d2, _, _, _, _, _, _⟩ := ht.rd.pf; (rw [hserr] at d2); clear ht)
                  | (go_at_call 58; have HU3 := Lib.hid (HU2.out.set (b := wr.heap.size) (by omega) hwg1 NO1.out NO2.out 2 (.string u)); refine (end_r _ g1 v1 _ _ HU3.out.rd).mono ?_; rintro r w4 ⟨rfl, hb4⟩; have HU4 := Lib.hid (HU3.out.below hb4); obtain ⟨z0, z1, z2, z3, z4⟩ := HU4.out.spot; clear hb4))
                all_goals (try (exfalso; omega))
                all_goals (
                  refine bodyPost_ret (v := .tuple #[.slice none 0 0, .agg #[.int .i64 s2.fin.1, .int .i64 (s2.fin.2 : Int)]]) (by simp [results, Try.results60, go_sem, *]) rfl ?_
                  rw [HQ.out, HF.out]
                  exact ⟨none, 0, rfl, World.ownsRow_nil _ _ _ _, unp_out HU4.out.be⟩)
            · obtain ⟨u, hu⟩ : ∃ u, u = strOf (s.text most).1 := ⟨_, rfl⟩
              obtain ⟨s2, hs2⟩ : ∃ s2, s2 = (s.text most).2 := ⟨_, rfl⟩
              have HP : Hid (rdItem most s 5 = (⟨5, 0, u⟩, s2)) := Lib.hid (by rw [hu, hs2]; rfl)
              have PB := Lib.hid (fun W (h : Rdr (w.heap.size + 1) W 78 Rs.cells g1 v1 s) => text_r (w.heap.size + 1) g1 v1 s (most) W h (by omega))
              unfold Gave at PB
              rw [← hu, ← hs2] at PB
              clear hu hs2
              have HN2 : Hid (rdAll most (ks.take (k + 1)) ⟨bs, 0, 0, 0⟩ = (its ++ [(⟨5, 0, u⟩ : Stp)], s2)) := Lib.hid (by rw [HT.out]; simp only [rdStep, HP.out])
              by_cases hz : s2.err = 0
              · have hserr : (s2.err != 0) = false := by simp [hz]
                have HE2 := Lib.hid hz
                clear hz
                go_wp2_with (first
                  | (go_at_call 99; refine (PB.out _ HA0.out.rd).mono ?_; rintro r w2 ⟨rfl, ht⟩; have HU2 := Lib.hid (HA0.out.turn ht); have HB2 := Lib.hid (bxi_turn hg1 HB0.out ht); obtain ⟨b0, b1, b2⟩ := HB2.out.facts; simp only at b0 b1 b2; obtain ⟨fr1, fr2⟩ := bxi_free HB2.out; have hl2 := HB2.out.lt; obtain ⟨_, _, d2, _, _, _, _, _, _⟩ := ht.rd.pf; (rw [hserr] at d2); clear ht)
                  | (at_builtin;  (refine appI _ rfl (.tmp 77) (.tmp 79) rfl (w.heap.size + 1) u11 _ its rfl ((HU2.out.set (b := wr.heap.size) (by omega) hwg1 NO1.out NO2.out 2 _).own.alloc _) (some ⟨_, 0, none⟩) 1 1 [(⟨5, 0, u⟩ : Stp)] rfl rfl (rd_itm _ (⟨5, 0, u⟩ : Stp) _ (by simp)) (by have := HLa.out; omega) (by simp; omega) ?_); intro v3 w3 hown hgr3 hc3; have HV := Lib.hid (((HU2.out.set (b := wr.heap.size) (by omega) hwg1 NO1.out NO2.out 2 (.string u)).below (below_box _ _)).push (its' := its ++ [(⟨5, 0, u⟩ : Stp)]) (by rw [List.length_append]; exact hown) hgr3 hc3); clear hown hgr3 hc3))
                all_goals (try (exfalso; omega))
                all_goals (
                  go_roundw
                  case rel => exact ⟨k + 1, _, by omega, by go_num, rfl, Lib.hid (by rw [HN2.out]; exact HE2.out), Lib.hid (by rw [HN2.out]; exact HV.out)⟩
                  case measure => simp [intOf]; omega)
              · have hserr : (s2.err != 0) = true := by simpa using hz
                have HF : Hid (unp ks most bs = ([], s2.fin)) := Lib.hid (by rw [unp_fail (j := k + 1) HALL.out (by rw [HN2.out]; exact hz), HN2.out])
                clear hz
                go_wp2_with (first
                  | (go_at_call 99; refine (PB.out _ HA0.out.rd).mono ?_; rintro r w2 ⟨rfl, ht⟩; have HU2 := Lib.hid (HA0.out.turn ht); have HB2 := Lib.hid (bxi_turn hg1 HB0.out ht); obtain ⟨b0, b1, b2⟩ := HB2.out.facts; simp only at b0 b1 b2; obtain ⟨fr1, fr2⟩ := bxi_free HB2.out; have hl2 := HB2.out.lt; obtain ⟨_, _, d2, _, _, _, _, _, _⟩ := ht.rd.pf; (rw [hserr] at d2); clear ht)
                  | (go_at_call 58; have HU3 := Lib.hid (HU2.out.set (b := wr.heap.size) (by omega) hwg1 NO1.out NO2.out 2 (.string u)); refine (end_r _ g1 v1 _ _ HU3.out.rd).mono ?_; rintro r w4 ⟨rfl, hb4⟩; have HU4 := Lib.hid (HU3.out.below hb4); obtain ⟨z0, z1, z2, z3, z4⟩ := HU4.out.spot; clear hb4))
                all_goals (try (exfalso; omega))
                all_goals (
                  refine bodyPost_ret (v := .tuple #[.slice none 0 0, .agg #[.int .i64 s2.fin.1, .int .i64 (s2.fin.2 : Int)]]) (by simp [results, Try.results60, go_sem, *]) rfl ?_
                  rw [HQ.out, HF.out]
                  exact ⟨none, 0, rfl, World.ownsRow_nil _ _ _ _, unp_out HU4.out.be⟩)
        · have hkn : n = k := by omega
          subst hkn
          have hA1 : ks.take n = ks := List.take_of_length_le (by rw [HN.out]; omega)
          rw [hA1] at HE HI
          obtain ⟨a, ha⟩ : ∃ a, a = rdAll most ks ⟨bs, 0, 0, 0⟩ := ⟨_, rfl⟩
          have HLa : Hid (a.1.length = n) := Lib.hid (by rw [ha, rdAll_len, HN.out])
          have HU : Hid (q = if a.2.fin.1 ≠ 0 then ([], a.2.fin) else (a.1, 0, 0)) := Lib.hid (by rw [HQ.out]; unfold unp; rw [if_pos HALL.out, ha])
          rw [← ha] at HI HE
          obtain ⟨its, s⟩ := a
          simp only at HI HE HU HLa
          clear hA1 hlt hk ha
          by_cases hf : s.fin.1 = 0
          · have HU2 : Hid (q = (its, 0, 0)) := Lib.hid (by rw [HU.out, if_neg (by simpa using hf)])
            obtain ⟨A3, c3, rfl, _⟩ := own_shape HI.out.own
            have HF := Lib.hid hf
            obtain ⟨e, he⟩ : ∃ e, e = s.fin := ⟨_, rfl⟩
            rw [← he] at hf
            have HFE := Lib.hid he
            clear he
            go_wp2_with (go_at_call 58; refine (end_r _ g1 v1 s _ HI.out.rd).mono ?_; rw [← HFE.out]; rintro r w4 ⟨rfl, hb4⟩; have HU4 := Lib.hid (HI.out.below hb4); have HU5 := Lib.hid (HU4.out.below (below_box w4 (.cells #[.int .i64 e.1, .int .i64 (e.2 : Int)] 76))); obtain ⟨z0, z1, z2, z3, z4⟩ := HU4.out.spot; clear hb4)
            refine bodyPost_ret (v := .tuple #[.slice A3 its.length c3, .agg #[.int .i64 0, .int .i64 0]]) (by simp [results, Try.results60, go_sem, *]) rfl ?_
            rw [HU2.out]
            exact ⟨A3, c3, rfl, (own_set2 HU4.out.own).alloc _, (unp_out HU4.out.be).alloc (by simp; omega) _⟩
          · have HU2 : Hid (q = ([], s.fin)) := Lib.hid (by rw [HU.out, if_pos (by simpa using hf)])
            obtain ⟨e, he⟩ : ∃ e, e = s.fin := ⟨_, rfl⟩
            rw [← he] at hf
            have HFE := Lib.hid he
            clear he
            go_wp2_with (go_at_call 58; refine (end_r _ g1 v1 s _ HI.out.rd).mono ?_; rw [← HFE.out]; rintro r w4 ⟨rfl, hb4⟩; have HU4 := Lib.hid (HI.out.below hb4); have HU5 := Lib.hid (HU4.out.below (below_box w4 (.cells #[.int .i64 e.1, .int .i64 (e.2 : Int)] 76))); obtain ⟨z0, z1, z2, z3, z4⟩ := HU4.out.spot; clear hb4)
            go_region
            go_wp2
            refine bodyPost_ret (v := .tuple #[.slice none 0 0, .agg #[.int .i64 e.1, .int .i64 (e.2 : Int)]]) (by simp [results, Try.results60, go_sem, *]) rfl ?_
            rw [HU2.out, ← HFE.out]
            exact ⟨none, 0, rfl, World.ownsRow_nil _ _ _ _, ((unp_out HU4.out.be).alloc (by simp; omega) _).drew⟩
end
end Go.Proofs.Ytfgjlplfpjfnoaa
