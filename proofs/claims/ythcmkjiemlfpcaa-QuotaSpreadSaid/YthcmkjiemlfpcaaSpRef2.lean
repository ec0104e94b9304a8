/- chronicleref13.Spread, where it may be shared. -/
import Derived.Test.YthcmkjiemlfpcaaSpRef
namespace Go.Proofs.Ythcmkjiemlfpcaa
open Go Go.RowKit
set_option linter.unusedVariables false
set_option linter.unusedSimpArgs false

set_option maxHeartbeats 8000000 in
set_option maxRecDepth 100000 in
theorem rspread_ok (A : Option Addr) (c n : Nat) (l : List Int) (total : Int) (w : World) (hr : Rd w A (i64s l)) (hn : l.length = n) (hs : spOk total l) :
    Calls Try.prog 29 #[.int .i64 total, .slice A n c] w (SharedE w (spr total l) 0) := by
  have HR := Lib.hid hr
  have HN := Lib.hid hn
  have hpos := sum_pos hs
  have hl : n ≤ 64 := by have := hs.1; omega
  have hn1 : 1 ≤ n := by omega
  have ht := hs.2.1
  have HWT : Hid (∀ x ∈ l, wOk x) := Lib.hid hs.2.2.1
  obtain ⟨a, ha⟩ : ∃ a, a = l.sum := ⟨_, rfl⟩
  have HAS := Lib.hid ha
  have ha1 : 0 < a := by rw [ha]; exact hpos.1
  have ha2 : a ≤ 67108864 := by
    have := sum_bd (l := l) (M := 1048576) hs.2.2.1
    have h2 := hs.1
    omega
  have HB0 : Hid (∀ x ∈ bas total a l, 0 ≤ x) := Lib.hid (by rw [ha]; exact bas_bd ht.1 (fun x hx => (hs.2.2.1 x hx).1) hpos.1)
  have hL := splft_bd (t := total) (l := l) hpos.1
  rw [← ha] at hL
  have HI0 : Hid (sprI total l 0 = bas total a l) := Lib.hid (by rw [ha]; rfl)
  have HIN : Hid (sprI total l n = spr total l) := Lib.hid (by unfold sprI; rw [List.take_of_length_le (by rw [spr_length, hn]; exact Nat.le_refl _), List.drop_of_length_le (by rw [bas_length, hn]; exact Nat.le_refl _), List.append_nil])
  have HIO : Hid (∀ k, k < n → (sprI total l k)[k]? = some (at0 (bas total a l) k)) := Lib.hid (fun k hk => by rw [ha]; exact sprI_old total l (by omega))
  have HIS : Hid (∀ k, k < n → ((ahead (rst total a l) k : Nat) : Int) < splft total a l → (sprI total l k).set k (at0 (bas total a l) k + 1) = sprI total l (k + 1)) := Lib.hid (fun k hk hh => by rw [ha] at hh ⊢; have := sprI_step total l (k := k) (by omega); rwa [if_pos hh] at this)
  have HIT : Hid (∀ k, k < n → ¬ ((ahead (rst total a l) k : Nat) : Int) < splft total a l → sprI total l k = sprI total l (k + 1)) := Lib.hid (fun k hk hh => by rw [ha] at hh; exact sprI_stay total l (by omega) hh)
  have hlen := spr_length total l
  obtain ⟨res, hres⟩ : ∃ res, res = spr total l := ⟨_, rfl⟩
  rw [← hres] at HIN hlen ⊢
  rw [hn] at hlen
  have HLR := Lib.hid hlen
  obtain ⟨L, hLL⟩ : ∃ L, L = splft total a l := ⟨_, rfl⟩
  rw [← hLL] at hL HIS HIT
  have HSUM : Hid ((bas total a l).sum = total - L) := Lib.hid (by rw [hLL]; unfold splft; omega)
  have hgt : decide ((64 : Int) < (n : Int)) = false := decide_eq_false (by omega)
  have IT := inside_yes ht.1 ht.2
  have hL1 := hL.1
  have hL2 : L ≤ (n : Int) := by have := hL.2; omega
  have haz : (a == 0) = false := by rw [beq_eq_false_iff_ne]; omega
  clear hr hn hs hpos hres hlen hL ha hLL
  unfold SharedE
  go_enter Try.func29, Try.ntmps29
  go_wp2_with (go_at_call 31; refine (rwithin_is _ _ _ true _ IT).mono ?_; rintro e w' ⟨rfl, rfl⟩)
  go_loopw [7, 6] (fun iv sv wr => ∃ k : Nat, k ≤ n ∧ iv = .int .i64 k ∧ sv = .int .i64 (l.take k).sum ∧ w = wr) (fun iv _ _ => n - (intOf iv).toNat)
  case atStart => exact ⟨0, Nat.zero_le _, rfl, rfl, rfl⟩
  case round =>
    obtain ⟨k, hk, rfl, rfl, rfl⟩ := hrel
    have hsb := sum_pre (l := l) (k := k) (fun x hx => HWT.out x (List.mem_of_mem_take hx)) (by rw [HN.out]; exact hl)
    by_cases hlt : k < n
    · obtain ⟨x, hx⟩ : ∃ x, l[k]? = some x := ⟨_, List.getElem?_eq_getElem (by rw [HN.out]; exact hlt)⟩
      obtain ⟨g, off, rfl, hg, hcell⟩ := HR.out.i64 hx
      have i0 : (0 : Int) ≤ (k : Int) := by omega
      have i1 : (k : Int) < (n : Int) := by omega
      have HSM := Lib.hid (sum_take_succ hx)
      have hxo := HWT.out x (List.mem_of_getElem? hx)
      obtain ⟨s, hs⟩ : ∃ s, s = (l.take k).sum := ⟨_, rfl⟩
      rw [← hs] at hsb HSM ⊢
      have IX := inside_yes hxo.1 hxo.2
      have e1 : IntKind.i64.wrap (s + x) = s + x := IntWalk.i64_in _ (by have := hxo.2; have := hxo.1; omega)
      clear hx hs hxo
      go_wp2_with (go_at_call 31; refine (rwithin_is _ _ _ true _ IX).mono ?_; rintro e w' ⟨rfl, rfl⟩)
      clear e1
      go_roundw
      case rel => exact ⟨k + 1, by omega, by go_num, by rw [HSM.out], trivial⟩
      case measure => simp [intOf]; omega
    · obtain rfl : n = k := by omega
      have e1 : (l.take n).sum = a := by rw [List.take_of_length_le (by rw [HN.out]; omega)]; exact HAS.out.symm
      rw [e1]
      clear e1 hsb hk hlt
      go_wp2
      go_loopw [11, 8, 9, 10] (fun iv ov rv lv wr => ∃ k : Nat, k ≤ n ∧ iv = .int .i64 k ∧ lv = .int .i64 (total - ((bas total a l).take k).sum) ∧ Hid (RpS w wr k k ((bas total a l).take k) ((rst total a l).take k) ov rv)) (fun iv _ _ _ _ => n - (intOf iv).toNat)
      case atStart => exact ⟨0, Nat.zero_le _, rfl, by simp, Lib.hid (RpS.start w)⟩
      case round =>
        obtain ⟨k, hk, rfl, rfl, HS⟩ := hrel
        by_cases hlt : k < n
        · obtain ⟨x, hx⟩ : ∃ x, l[k]? = some x := ⟨_, List.getElem?_eq_getElem (by rw [HN.out]; exact hlt)⟩
          obtain ⟨g, off, rfl, hg, hcell0⟩ := HR.out.i64 hx
          have HHC := Lib.hid (fun (W : World) (h : Below w.heap.size w W) => (h.cell (p := ⟨g, off + k, none⟩) hg).trans hcell0)
          have hcell := HHC.out _ HS.out.be
          clear hcell0
          have i0 : (0 : Int) ≤ (k : Int) := by omega
          have i1 : (k : Int) < (n : Int) := by omega
          have hxo := HWT.out x (List.mem_of_getElem? hx)
          have hpb := spmul_bd ht.1 ht.2 hxo.1 hxo.2
          have hbq := bas_get total a hx
          have hrq := rst_get total a hx
          have hsq := sum_take_succ hbq
          have hst := sum_take_le HB0.out (k + 1)
          have hst0 := sum_take_le HB0.out k
          rw [HSUM.out] at hst
          obtain ⟨p, hp⟩ : ∃ p, p = total * x := ⟨_, rfl⟩
          rw [← hp] at hbq hrq hsq hpb
          obtain ⟨q, hq⟩ : ∃ q, q = p / a := ⟨_, rfl⟩
          obtain ⟨r, hr⟩ : ∃ r, r = p % a := ⟨_, rfl⟩
          rw [← hq] at hbq hsq
          rw [← hr] at hrq
          have hq0 : 0 ≤ q ∧ q ≤ p := by rw [hq]; exact ⟨Int.ediv_nonneg hpb.1 (by omega), Int.ediv_le_self _ hpb.1⟩
          have hr0 : 0 ≤ r ∧ r < a := by rw [hr]; exact ⟨Int.emod_nonneg _ (by omega), Int.emod_lt_of_pos _ ha1⟩
          have e1 : IntKind.i64.wrap (total * x) = p := by rw [hp]; exact IntWalk.i64_in _ (by omega)
          have e2 : p.tdiv a = q := by rw [hq]; exact Int.tdiv_eq_ediv_of_nonneg hpb.1
          have e3 : IntKind.i64.wrap q = q := IntWalk.i64_in _ (by omega)
          have e4 : p.tmod a = r := by rw [hr]; exact Int.tmod_eq_emod_of_nonneg hpb.1
          have e5 : IntKind.i64.wrap r = r := IntWalk.i64_in _ (by omega)
          obtain ⟨S, hS⟩ : ∃ S, S = total - ((bas total a l).take k).sum := ⟨_, rfl⟩
          have HSN : Hid (total - ((bas total a l).take (k + 1)).sum = S - q) := Lib.hid (by rw [hsq, hS]; omega)
          have e6 : IntKind.i64.wrap (S - q) = S - q := IntWalk.i64_in _ (by omega)
          have HBN : Hid ((bas total a l).take (k + 1) = (bas total a l).take k ++ [q]) := Lib.hid (take_snoc' hbq)
          have HRN : Hid ((rst total a l).take (k + 1) = (rst total a l).take k ++ [r]) := Lib.hid (take_snoc' hrq)
          rw [← hS]
          obtain ⟨X, hX⟩ : ∃ X, X = (bas total a l).take k := ⟨_, rfl⟩
          obtain ⟨R, hR⟩ : ∃ R, R = (rst total a l).take k := ⟨_, rfl⟩
          have hXl : X.length = k := by rw [hX, List.length_take, bas_length, HN.out]; omega
          have HXL := Lib.hid hXl
          rw [← hX] at HS HBN
          rw [← hR] at HS HRN
          clear hx hp hq hr hS hX hR hbq hrq hsq hst hst0 hpb hq0 hr0 hxo hXl
          have hane : ¬ a = 0 := by omega
          have j1 : (k : Int) < (k : Int) + 1 := by omega
          rename World => wr
          go_upto_region 18 with (at_builtin; ((refine push64 wr rfl (.tmp 50) (.tmp 59) rfl w.heap.size u8 k X rfl HS.out.out q rfl (by omega) HS.out.be.size ?_); intro v1 w1 ho1 hg1 how1; have HS1 := Lib.hid (HS.out.pushO ho1 hg1 how1); obtain ⟨A1, c1, rfl, _⟩ := own_shape ho1; clear ho1 hg1 how1))
          obtain ⟨gO, rfl, _, _, _, _⟩ := own_posR HS1.out.out (by omega)
          have hcell1 := HHC.out _ HS1.out.be
          go_wp2_with (at_builtin; ((refine push64 w1 rfl (.tmp 61) (.tmp 70) rfl w.heap.size u9 k R rfl HS1.out.rst r rfl (by omega) HS1.out.be.size ?_); intro v2 w2 ho2 hg2 how2; have HS2 := Lib.hid (HS1.out.pushR ho2 hg2 how2); have hco := HS2.out.cellO (k := k) (x := q) (by omega) (by rw [List.getElem?_append_right (by rw [HXL.out]; exact Nat.le_refl _), HXL.out, Nat.sub_self]; rfl); clear ho2 hg2 how2))
          go_roundw
          case rel => exact ⟨k + 1, by omega, by go_num, by rw [HSN.out], Lib.hid (by rw [HBN.out, HRN.out]; exact HS2.out)⟩
          case measure => simp [intOf]; omega
        · obtain rfl : n = k := by omega
          have hX : (bas total a l).take n = bas total a l := List.take_of_length_le (by rw [bas_length, HN.out]; exact Nat.le_refl _)
          have hR : (rst total a l).take n = rst total a l := List.take_of_length_le (by rw [rst_length, HN.out]; exact Nat.le_refl _)
          rw [hX, hR] at HS
          rw [hX, HSUM.out]
          have hll : total - (total - L) = L := by omega
          rw [hll]
          clear hX hR hll hk hlt
          obtain ⟨Ao, co, rfl, _⟩ := own_shape HS.out.out
          obtain ⟨Ar, cr, rfl, _⟩ := own_shape HS.out.rst
          obtain ⟨gO, rfl, _, _, _, _⟩ := own_posR HS.out.out (by omega)
          obtain ⟨gR, rfl, _, _, _, _⟩ := own_posR HS.out.rst (by omega)
          go_wp2
          rename World => ws
          go_loopw [12] (fun iv wr => ∃ k : Nat, k ≤ n ∧ iv = .int .i64 k ∧ Hid (RpS w wr n n (sprI total l k) (rst total a l) (.slice (some ⟨gO, 0, none⟩) n co) (.slice (some ⟨gR, 0, none⟩) n cr))) (fun iv _ => n - (intOf iv).toNat)
          case atStart => exact ⟨0, Nat.zero_le _, rfl, Lib.hid (by rw [HI0.out]; exact HS.out)⟩
          case round =>
            clear HS
            obtain ⟨k, hk, rfl, HS⟩ := hrel
            by_cases hlt : k < n
            · obtain ⟨z, hz⟩ : ∃ z, (rst total a l)[k]? = some z := ⟨_, List.getElem?_eq_getElem (by rw [rst_length, HN.out]; exact hlt)⟩
              have i0 : (0 : Int) ≤ (k : Int) := by omega
              have i1 : (k : Int) < (n : Int) := by omega
              have HZ := Lib.hid hz
              clear hz
              go_wp2
              rename World => wk
              go_loopw [14, 13] (fun mv cv wr => ∃ m j : Nat, m ≤ n ∧ mv = .int .i64 m ∧ cv = .int .i64 (cnt (rst total a l) k m : Nat) ∧ wr = wk.drewN j) (fun mv _ _ => n - (intOf mv).toNat)
              case atStart => exact ⟨0, 0, Nat.zero_le _, rfl, rfl, rfl⟩
              case round =>
                obtain ⟨m, j, hm, rfl, rfl, rfl⟩ := hrel
                by_cases hml : m < n
                · obtain ⟨y, hy⟩ : ∃ y, (rst total a l)[m]? = some y := ⟨_, List.getElem?_eq_getElem (by rw [rst_length, HN.out]; exact hml)⟩
                  have m0 : (0 : Int) ≤ (m : Int) := by omega
                  have m1 : (m : Int) < (n : Int) := by omega
                  have hcy := HS.out.cellR hml hy
                  have hcz := HS.out.cellR hlt HZ.out
                  have HCS := Lib.hid (cnt_succ (rst total a l) k m)
                  have hcl := cnt_le (rst total a l) k m
                  have HBE := Lib.hid (bef_iff (rst total a l) m k)
                  rw [at0_of hy, at0_of HZ.out] at HBE
                  obtain ⟨q, hq⟩ : ∃ q, q = cnt (rst total a l) k m := ⟨_, rfl⟩
                  rw [← hq] at HCS hcl ⊢
                  have e1 : IntKind.i64.wrap ((q : Int) + 1) = (q : Int) + 1 := IntWalk.i64_in _ (by omega)
                  clear hy hq
                  rename World => wr0
                  by_cases h1 : z < y
                  · have d1 : decide (z < y) = true := decide_eq_true h1
                    have HB : Hid (bef (rst total a l) m k = true) := Lib.hid (HBE.out.2 (.inl h1))
                    clear h1
                    go_wp2
                    go_quiet (fail)
                    go_wp2
                    go_roundw
                    case rel => exact ⟨m + 1, _, by omega, by go_num, by rw [HCS.out, if_pos HB.out]; go_num, rfl⟩
                    case measure => simp [intOf]; omega
                  · have d1 : decide (z < y) = false := decide_eq_false h1
                    by_cases h2 : y = z
                    · have d2 : (y == z) = true := by rw [h2]; simp
                      by_cases h3 : m < k
                      · have d3 : decide ((m : Int) < (k : Int)) = true := decide_eq_true (by omega)
                        have d4 : decide (m < k) = true := decide_eq_true h3
                        have HB : Hid (bef (rst total a l) m k = true) := Lib.hid (HBE.out.2 (.inr ⟨h2, h3⟩))
                        clear h1 h2 h3
                        go_wp2
                        go_quiet (fail)
                        go_wp2
                        go_roundw
                        case rel => exact ⟨m + 1, _, by omega, by go_num, by rw [HCS.out, if_pos HB.out]; go_num, rfl⟩
                        case measure => simp [intOf]; omega
                      · have d3 : decide ((m : Int) < (k : Int)) = false := decide_eq_false (by omega)
                        have d4 : decide (m < k) = false := decide_eq_false h3
                        have HB : Hid (¬ bef (rst total a l) m k = true) := Lib.hid (fun h => by have := HBE.out.1 h; omega)
                        clear h1 h2 h3
                        go_wp2
                        go_quiet (fail)
                        go_wp2
                        go_roundw
                        case rel => exact ⟨m + 1, _, by omega, by go_num, by rw [HCS.out, if_neg HB.out]; rfl, rfl⟩
                        case measure => simp [intOf]; omega
                    · have d2 : (y == z) = false := by rw [beq_eq_false_iff_ne]; exact h2
                      have HB : Hid (¬ bef (rst total a l) m k = true) := Lib.hid (fun h => by have := HBE.out.1 h; omega)
                      clear h1 h2
                      go_wp2
                      go_quiet (fail)
                      go_wp2
                      go_roundw
                      case rel => exact ⟨m + 1, _, by omega, by go_num, by rw [HCS.out, if_neg HB.out]; rfl, rfl⟩
                      case measure => simp [intOf]; omega
                · obtain rfl : n = m := by omega
                  have HAH : Hid (ahead (rst total a l) k = cnt (rst total a l) k n) := Lib.hid (by unfold ahead cnt; rw [rst_length, HN.out])
                  have HS2 := Lib.hid (HS.out.drewN j)
                  have hold := HIO.out k hlt
                  have H1 := Lib.hid (HIS.out k hlt)
                  have H2 := Lib.hid (HIT.out k hlt)
                  rw [HAH.out] at H1 H2
                  obtain ⟨q, hq⟩ : ∃ q, q = cnt (rst total a l) k n := ⟨_, rfl⟩
                  rw [← hq] at H1 H2 ⊢
                  have hbm : at0 (bas total a l) k ∈ bas total a l := by
                    obtain ⟨y, hy⟩ : ∃ y, (bas total a l)[k]? = some y := ⟨_, List.getElem?_eq_getElem (by rw [bas_length, HN.out]; exact hlt)⟩
                    rw [at0_of hy]
                    exact List.mem_of_getElem? hy
                  have hb1 := HB0.out _ hbm
                  have hb2 := mem_le_sum HB0.out _ hbm
                  rw [HSUM.out] at hb2
                  obtain ⟨b, hb⟩ : ∃ b, b = at0 (bas total a l) k := ⟨_, rfl⟩
                  rw [← hb] at hold H1 hb1 hb2
                  have hco := HS2.out.cellO hlt hold
                  have hfo := HS2.out.out.frozenAt k
                  have e1 : IntKind.i64.wrap (b + 1) = b + 1 := IntWalk.i64_in _ (by omega)
                  clear hold hbm hb hq HAH hm hml
                  generalize wk.drewN j = wd at HS2 hco hfo ⊢
                  by_cases hqL : (q : Int) < L
                  · have d1 : decide ((q : Int) < L) = true := decide_eq_true hqL
                    have HN2 := Lib.hid (HS2.out.putO (H1.out hqL))
                    clear hqL
                    go_wp2
                    go_roundw
                    case rel => exact ⟨k + 1, by omega, by go_num, HN2⟩
                    case measure => simp [intOf]; omega
                  · have d1 : decide ((q : Int) < L) = false := decide_eq_false hqL
                    have HN2 := Lib.hid (H2.out (by omega))
                    clear hqL
                    go_wp2
                    go_roundw
                    case rel => exact ⟨k + 1, by omega, by go_num, Lib.hid (by rw [← HN2.out]; exact HS2.out)⟩
                    case measure => simp [intOf]; omega
            · obtain rfl : n = k := by omega
              rw [HIN.out] at HS
              clear hk hlt
              go_wp2
              go_ret2
              exact ⟨some ⟨gO, 0, none⟩, co, by rw [HLR.out]; rfl, by rw [HLR.out]; exact HS.out.out, HS.out.be⟩
theorem rspread_any (A : Option Addr) (c n : Nat) (l res : List Int) (total er : Int) (w : World) (hr : Rd w A (i64s l)) (hn : l.length = n) (hn8 : n * 8 ≤ 140737488351232) (hs : SpRes total l res er) :
    Calls Try.prog 29 #[.int .i64 total, .slice A n c] w (SharedE w res er) := by
  rcases hs with ⟨hs, rfl, rfl⟩ | ⟨hs, rfl, rfl⟩
  · exact rspread_ok A c n l total w hr hn hs
  · exact (rspread_bad A c n l total w hr hn hs hn8).mono fun e w' ⟨he, hb⟩ => ⟨none, 0, he, World.ownsRow_nil _ _ _ _, hb⟩
end Go.Proofs.Ythcmkjiemlfpcaa
