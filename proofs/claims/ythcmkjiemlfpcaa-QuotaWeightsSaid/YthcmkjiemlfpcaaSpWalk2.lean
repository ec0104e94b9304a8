/- quota.Spread, where it may be shared. -/
import Derived.Test.YthcmkjiemlfpcaaSpWalk
import Derived.Test.YthcmkjiemlfpcaaSpP2
namespace Go.Proofs.Ythcmkjiemlfpcaa
open Go Go.RowKit
set_option linter.unusedVariables false
set_option linter.unusedSimpArgs false

section
variable {w W W' : World} {no nr nd : Nat} {xs rs : List Int} {os : List Nat} {vo vr vd v' : Value}
theorem spcell {k : Nat} {q : Int} {X : List Int} {g c : Nat} (h : SpS w W (k + 1) nr nd (X ++ [q]) rs os (.slice (some ⟨g, 0, none⟩) (k + 1) c) vr vd) (hX : X.length = k) : W.cell? ⟨g, k, none⟩ = some (.int .i64 q) := by
  have := h.out.cellAt k (by omega)
  rw [i64s_get, List.getElem?_append_right (by omega), hX, Nat.sub_self] at this
  simpa using this
/-- The sort of the places. -/
theorem SpS.sort {g gr c cr n : Nat} (h : SpS w W n n n xs rs (List.range n) vo (.slice (some ⟨gr, 0, none⟩) n cr) (.slice (some ⟨g, 0, none⟩) n c)) (h1 : 1 ≤ n) (hn : n ≤ 64) (hR : rs.length = n) :
    Calls Try.prog 42 #[.iface 56 (.slice (some ⟨g, 0, none⟩) n c), .func (.func 43) #[] #[.pointer (some ⟨w.heap.size, 0, none⟩), .pointer (some ⟨w.heap.size + 1, 0, none⟩)]] W (SpSorted W (w.heap.size + 2) g c n rs) := by
  by_cases h2 : n = 1
  · subst h2
    exact spsort_one _ g c rs _ _ _ W h.ord
  · have hl := h.lt
    have hg := h.ord.lt g rfl
    have hgr := h.rst.lt gr rfl
    refine spsort_many _ w.heap.size (w.heap.size + 1) g gr c cr n rs W h.ord (by omega) hn hR h.boxes.2.1 h.boxes.1 ?_ (by omega) (by omega) (by omega) (by omega) hgr.2 (fun e => h.n3 gr rfl (by rw [e]; rfl))
    intro t ht
    obtain ⟨x, hx⟩ : ∃ x, rs[t]? = some x := ⟨_, List.getElem?_eq_getElem (by omega)⟩
    have := h.rst.cellAt t (by omega)
    rw [i64s_get, hx] at this
    rw [at0_of hx]
    simpa using this
theorem SpS.sorted {g c n : Nat} {o : List Nat} (h : SpS w W no nr n xs rs os vo vr (.slice (some ⟨g, 0, none⟩) n c)) (ho : W'.ownsRow (w.heap.size + 2) 3 1 (.slice (some ⟨g, 0, none⟩) n c) n (nats o)) (hg : W.grownBy W' (some g)) : SpS w W' no nr n xs rs o vo vr (.slice (some ⟨g, 0, none⟩) n c) := by
  have hl := h.lt
  have hb := h.ord.lt g rfl
  exact ⟨(hg.block _ (by omega) (fun e => by injection e with e; omega)).trans h.br, (hg.block _ (by omega) (fun e => by injection e with e; omega)).trans h.bo, own_keepG h.out hg (fun q hq h2 => h.n2 q h2 (by rw [← hq]; rfl)), own_keepG h.rst hg (fun q hq h2 => h.n3 q h2 (by rw [← hq]; rfl)), ho, h.n1, h.n2, h.n3,
    h.be.trans (below_of_grown hg (by omega) (fun q hq => by injection hq with hq; omega)), Nat.le_trans hl hg.size⟩
/-- A share written anew. -/
theorem SpS.putO {g c n i : Nat} {z : Int} {ys : List Int} (h : SpS w W n nr nd xs rs os (.slice (some ⟨g, 0, none⟩) n c) vr vd) (hy : xs.set i z = ys) : SpS w (W.setCell ⟨g, i, none⟩ (.int .i64 z)) n nr nd ys rs os (.slice (some ⟨g, 0, none⟩) n c) vr vd := by
  have hl := h.lt
  have hb := h.out.lt g rfl
  have s1 := h.out.stored i (.int .i64 z)
  rw [i64s_set, hy] at s1
  have hg := s1.2
  exact ⟨(hg.block _ (by omega) (fun e => by injection e with e; omega)).trans h.br, (hg.block _ (by omega) (fun e => by injection e with e; omega)).trans h.bo, s1.1, own_keepG h.rst hg (fun q hq h2 => h.n1 q (by rw [← hq]; rfl) h2), own_keepG h.ord hg (fun q hq h2 => h.n2 q (by rw [← hq]; rfl) h2), h.n1, h.n2, h.n3,
    h.be.trans (below_of_grown hg (by omega) (fun q hq => by injection hq with hq; omega)), Nat.le_trans hl hg.size⟩
theorem SpS.fin {A : Option Addr} {c n : Nat} (h : SpS w W n nr nd xs rs os (.slice A n c) vr vd) : W.ownsRow w.heap.size 2 1 (.slice A n c) n (i64s xs) := own_mono h.out (by omega)
end
set_option maxHeartbeats 8000000 in
set_option maxRecDepth 100000 in
theorem spread_ok (A : Option Addr) (c n : Nat) (l : List Int) (total : Int) (w : World) (hr : Rd w A (i64s l)) (hn : l.length = n) (hs : spOk total l) :
    Calls Try.prog 28 #[.int .i64 total, .slice A n c] w (SharedE w (spr total l) 0) := by
  have HR := Lib.hid hr
  have HN := Lib.hid hn
  have hpos := sum_pos hs
  have hl : n ≤ 64 := by have := hs.1; omega
  have hn1 : 1 ≤ n := by omega
  have ht := hs.2.1
  have HWT : Hid (∀ x ∈ l, wOk x) := Lib.hid hs.2.2.1
  obtain ⟨a, ha⟩ : ∃ a, a = l.sum := ⟨_, rfl⟩
  have HAS := Lib.hid ha
  have ha1 : 0 < a := by rw [ha]; exact hpos.1
  have ha2 : a ≤ 67108864 := by
    have := sum_bd (l := l) (M := 1048576) hs.2.2.1
    have h2 := hs.1
    omega
  have HB0 : Hid (∀ x ∈ bas total a l, 0 ≤ x) := Lib.hid (by rw [ha]; exact bas_bd ht.1 (fun x hx => (hs.2.2.1 x hx).1) hpos.1)
  have hL := splft_bd (t := total) (l := l) hpos.1
  rw [← ha] at hL
  have HSPL : Hid (∀ k : Nat, (k : Int) = splft total a l → sprK total a l k = spr total l) := Lib.hid (fun k hk => by rw [ha] at hk ⊢; exact sprK_end hk)
  have hlen := spr_length total l
  obtain ⟨res, hres⟩ : ∃ res, res = spr total l := ⟨_, rfl⟩
  rw [← hres] at HSPL hlen ⊢
  rw [hn] at hlen
  have HLR := Lib.hid hlen
  obtain ⟨L, hLL⟩ : ∃ L, L = splft total a l := ⟨_, rfl⟩
  rw [← hLL] at hL HSPL
  have HSUM : Hid ((bas total a l).sum = total - L) := Lib.hid (by rw [hLL]; unfold splft; omega)
  have hgt : decide ((64 : Int) < (n : Int)) = false := decide_eq_false (by omega)
  have IT := inside_yes ht.1 ht.2
  have hL1 := hL.1
  have hL2 : L ≤ (n : Int) := by have := hL.2; omega
  have haz : (a == 0) = false := by rw [beq_eq_false_iff_ne]; omega
  clear hr hn hs hpos hres hlen hL ha hLL
  unfold SharedE
  go_enter Try.func28, Try.ntmps28
  go_wp2_with (go_at_call 30; refine (within_is _ _ _ true _ IT).mono ?_; rintro e w' ⟨rfl, rfl⟩)
  go_loopw [27, 6] (fun iv sv wr => ∃ k : Nat, k ≤ n ∧ iv = .int .i64 k ∧ sv = .int .i64 (l.take k).sum ∧ w = wr) (fun iv _ _ => n - (intOf iv).toNat)
  case atStart => exact ⟨0, Nat.zero_le _, rfl, rfl, rfl⟩
  case round =>
    obtain ⟨k, hk, rfl, rfl, rfl⟩ := hrel
    have hsb := sum_pre (l := l) (k := k) (fun x hx => HWT.out x (List.mem_of_mem_take hx)) (by rw [HN.out]; exact hl)
    by_cases hlt : k < n
    · obtain ⟨x, hx⟩ : ∃ x, l[k]? = some x := ⟨_, List.getElem?_eq_getElem (by rw [HN.out]; exact hlt)⟩
      obtain ⟨g, off, rfl, hg, hcell⟩ := HR.out.i64 hx
      have i0 : (0 : Int) ≤ (k : Int) := by omega
      have i1 : (k : Int) < (n : Int) := by omega
      have HSM := Lib.hid (sum_take_succ hx)
      have hxo := HWT.out x (List.mem_of_getElem? hx)
      obtain ⟨s, hs⟩ : ∃ s, s = (l.take k).sum := ⟨_, rfl⟩
      rw [← hs] at hsb HSM ⊢
      have IX := inside_yes hxo.1 hxo.2
      have e1 : IntKind.i64.wrap (s + x) = s + x := IntWalk.i64_in _ (by have := hxo.2; have := hxo.1; omega)
      clear hx hs hxo
      go_wp2_with (go_at_call 30; refine (within_is _ _ _ true _ IX).mono ?_; rintro e w' ⟨rfl, rfl⟩)
      clear e1
      go_roundw
      case rel => exact ⟨k + 1, by omega, by go_num, by rw [HSM.out], trivial⟩
      case measure => simp [intOf]; omega
    · obtain rfl : n = k := by omega
      have e1 : (l.take n).sum = a := by rw [List.take_of_length_le (by rw [HN.out]; omega)]; exact HAS.out.symm
      rw [e1]
      clear e1 hsb hk hlt
      go_wp2
      have HS0 := Lib.hid (SpS.start w)
      generalize ((w.alloc (.cells #[.slice none 0 0] 36)).alloc (.cells #[.slice none 0 0] 56)) = W0 at HS0 ⊢
      go_loopw [43, 9, 12] (fun iv ov lv wr => ∃ (k : Nat) (vr vd : Value), k ≤ n ∧ iv = .int .i64 k ∧ lv = .int .i64 (total - ((bas total a l).take k).sum) ∧ Hid (SpS w wr k k k ((bas total a l).take k) ((rst total a l).take k) (List.range k) ov vr vd)) (fun iv _ _ _ => n - (intOf iv).toNat)
      case atStart => exact ⟨0, _, _, Nat.zero_le _, rfl, by simp, HS0⟩
      case round =>
        clear HS0
        obtain ⟨k, vr, vd, hk, rfl, rfl, HS⟩ := hrel
        by_cases hlt : k < n
        · obtain ⟨x, hx⟩ : ∃ x, l[k]? = some x := ⟨_, List.getElem?_eq_getElem (by rw [HN.out]; exact hlt)⟩
          obtain ⟨g, off, rfl, hg, hcell⟩ := (HR.out.below HS.out.be).i64 hx
          have i0 : (0 : Int) ≤ (k : Int) := by omega
          have i1 : (k : Int) < (n : Int) := by omega
          have hxo := HWT.out x (List.mem_of_getElem? hx)
          have hpb := spmul_bd ht.1 ht.2 hxo.1 hxo.2
          have hbq := bas_get total a hx
          have hrq := rst_get total a hx
          have hsq := sum_take_succ hbq
          have hst := sum_take_le HB0.out (k + 1)
          have hst0 := sum_take_le HB0.out k
          rw [HSUM.out] at hst
          obtain ⟨p, hp⟩ : ∃ p, p = total * x := ⟨_, rfl⟩
          rw [← hp] at hbq hrq hsq hpb
          obtain ⟨q, hq⟩ : ∃ q, q = p / a := ⟨_, rfl⟩
          obtain ⟨r, hr⟩ : ∃ r, r = p % a := ⟨_, rfl⟩
          rw [← hq] at hbq hsq
          rw [← hr] at hrq
          have hq0 : 0 ≤ q ∧ q ≤ p := by rw [hq]; exact ⟨Int.ediv_nonneg hpb.1 (by omega), Int.ediv_le_self _ hpb.1⟩
          have hr0 : 0 ≤ r ∧ r < a := by rw [hr]; exact ⟨Int.emod_nonneg _ (by omega), Int.emod_lt_of_pos _ ha1⟩
          have e1 : IntKind.i64.wrap (total * x) = p := by rw [hp]; exact IntWalk.i64_in _ (by omega)
          have e2 : p.tdiv a = q := by rw [hq]; exact Int.tdiv_eq_ediv_of_nonneg hpb.1
          have e3 : IntKind.i64.wrap q = q := IntWalk.i64_in _ (by omega)
          have e4 : p.tmod a = r := by rw [hr]; exact Int.tmod_eq_emod_of_nonneg hpb.1
          have e5 : IntKind.i64.wrap r = r := IntWalk.i64_in _ (by omega)
          obtain ⟨S, hS⟩ : ∃ S, S = total - ((bas total a l).take k).sum := ⟨_, rfl⟩
          have HSN : Hid (total - ((bas total a l).take (k + 1)).sum = S - q) := Lib.hid (by rw [hsq, hS]; omega)
          have e6 : IntKind.i64.wrap (S - q) = S - q := IntWalk.i64_in _ (by omega)
          have HBN : Hid ((bas total a l).take (k + 1) = (bas total a l).take k ++ [q]) := Lib.hid (take_snoc' hbq)
          have HRN : Hid ((rst total a l).take (k + 1) = (rst total a l).take k ++ [r]) := Lib.hid (take_snoc' hrq)
          rw [← hS]
          obtain ⟨X, hX⟩ : ∃ X, X = (bas total a l).take k := ⟨_, rfl⟩
          obtain ⟨R, hR⟩ : ∃ R, R = (rst total a l).take k := ⟨_, rfl⟩
          have hXl : X.length = k := by rw [hX, List.length_take, bas_length, HN.out]; omega
          have HXL := Lib.hid hXl
          rw [← hX] at HS HBN
          rw [← hR] at HS HRN
          clear hx hp hq hr hS hX hR hbq hrq hsq hst hst0 hpb hq0 hr0 hxo hXl
          rename World => wr
          go_wp2_with (at_builtin; ((refine push64 wr rfl (.tmp 48) (.tmp 54) rfl (w.heap.size + 2) u9 k X rfl HS.out.out q rfl (by omega) HS.out.lt ?_); intro v1 w1 ho1 hg1 how1; have HS1 := Lib.hid (HS.out.pushO ho1 hg1 how1); obtain ⟨A1, c1, rfl, _⟩ := own_shape ho1; clear ho1 hg1 how1))
          obtain ⟨gO, rfl, _, _, _, _⟩ := own_posR HS1.out.out (by omega)
          have j1 : (k : Int) < (k : Int) + 1 := by omega
          obtain ⟨b0, b1, f0, f1⟩ := HS1.out.boxes
          have hlt1 := HS1.out.lt
          have hane : ¬ a = 0 := by omega
          have b2 : (w1.alloc (.cells #[.int .i64 r] 2)).cell? ⟨w.heap.size, 0, none⟩ = some vr := (((Below.refl w1.heap.size w1).alloc (Nat.le_refl _) (.cells #[.int .i64 r] 2)).cell (p := ⟨w.heap.size, 0, none⟩) (by show w.heap.size < w1.heap.size; omega)).trans b0
          go_region_law (refine step_push64 _ rfl (.tmp 56) (.tmp 62) rfl (w.heap.size + 2) vr k R rfl HS1.out.drew.rst r _ (by simp) rfl (by omega) (by simp; omega) ?_; intro v2 w2 ho2 hg2 how2; have HS2 := Lib.hid (HS1.out.drew.pushR ho2 hg2 how2); have hbr := (hg2.block w.heap.size (by simp; omega) (fun e => by have h0 := (HS1.out.rst.lt _ e.symm).1; omega)).trans HS1.out.drew.br; have hcb := cell_of_row w2 _ 0 _ _ _ hbr; have hfb := frozen_of_row w2 _ 0 _ _ hbr; obtain ⟨A2, c2, hv2, _⟩ := own_shape ho2; subst hv2; clear ho2 hg2 how2 hbr)
          all_goals
            clear b0 b1 b2 f0 f1 hcb hfb e1 e2 e3 e4 e5
            generalize (w2.setCell ⟨w.heap.size, 0, none⟩ (.slice A2 (k + 1) c2)) = W2 at HS2 ⊢
            obtain ⟨d0, d1, g0, g1⟩ := HS2.out.boxes
            go_wp2_with (at_builtin; ((refine pushI W2 rfl (.tmp 64) (.tmp 66) rfl (w.heap.size + 2) vd k (List.range k) rfl HS2.out.ord k rfl (by omega) HS2.out.lt ?_); intro v3 w3 ho3 hg3 how3; have HS3 := Lib.hid (HS2.out.pushD ho3 hg3 how3); have hbr := (hg3.block (w.heap.size + 1) (by have := HS2.out.lt; omega) (fun e => by have h0 := (HS2.out.ord.lt _ e.symm).1; omega)).trans HS2.out.bo; have hcb := cell_of_row w3 _ 0 _ _ _ hbr; have hfb := frozen_of_row w3 _ 0 _ _ hbr; obtain ⟨A3, c3, hv3, _⟩ := own_shape ho3; subst hv3; have hco := spcell HS3.out HXL.out; clear ho3 hg3 how3 hbr))
            clear d0 d1 g0 g1 hcb hfb hco
            generalize (w3.setCell ⟨w.heap.size + 1, 0, none⟩ (.slice A3 (k + 1) c3)) = W3 at HS3 ⊢
            go_roundw
            case rel => exact ⟨k + 1, _, _, by omega, by go_num, by rw [HSN.out], Lib.hid (by rw [HBN.out, HRN.out, List.range_succ]; exact HS3.out)⟩
            case measure => simp [intOf]; omega
        · obtain rfl : n = k := by omega
          have hX : (bas total a l).take n = bas total a l := List.take_of_length_le (by rw [bas_length, HN.out]; exact Nat.le_refl _)
          have hR : (rst total a l).take n = rst total a l := List.take_of_length_le (by rw [rst_length, HN.out]; exact Nat.le_refl _)
          rw [hX, hR] at HS
          rw [hX, HSUM.out]
          have hll : total - (total - L) = L := by omega
          rw [hll]
          clear hX hR hll hk hlt
          obtain ⟨Ao, co, rfl, _⟩ := own_shape HS.out.out
          obtain ⟨Ar, cr, rfl, _⟩ := own_shape HS.out.rst
          obtain ⟨Ad, cd, rfl, _⟩ := own_shape HS.out.ord
          obtain ⟨gO, rfl, _, _, _, _⟩ := own_posR HS.out.out (by omega)
          obtain ⟨gR, rfl, _, _, _, _⟩ := own_posR HS.out.rst (by omega)
          obtain ⟨gD, rfl, _, _, _, _⟩ := own_posR HS.out.ord (by omega)
          have PS := Lib.hid (HS.out.sort hn1 hl (by rw [rst_length]; exact HN.out))
          unfold SpSorted at PS
          obtain ⟨b0, b1, f0, f1⟩ := HS.out.boxes
          rename World => wr
          go_wp2_with (go_at_call 42; refine PS.out.mono ?_; rintro e wx ⟨rfl, o, hp, hs, ho, hg⟩; have HT := Lib.hid (HS.out.sorted ho hg); have HO : Hid (Ord (rst total a l) o) := Lib.hid ⟨(by rw [rst_length, HN.out]; exact hp), hs⟩; obtain ⟨-, b2, -, -⟩ := HT.out.boxes; clear hp hs ho hg)
          clear PS b0 b1 b2 f0 f1 HS
          go_loopw [81, 12] (fun iv lv wr => ∃ k : Nat, k ≤ n ∧ (k : Int) ≤ L ∧ iv = .int .i64 k ∧ lv = .int .i64 (L - (k : Int)) ∧ Hid (SpS w wr n n n (sprK total a l k) (rst total a l) o (.slice (some ⟨gO, 0, none⟩) n co) (.slice (some ⟨gR, 0, none⟩) n cr) (.slice (some ⟨gD, 0, none⟩) n cd))) (fun iv _ _ => n - (intOf iv).toNat)
          case atStart => exact ⟨0, Nat.zero_le _, hL1, rfl, by simp, Lib.hid (by rw [sprK_zero]; exact HT.out)⟩
          case round =>
            clear HT
            obtain ⟨k, hk, hkL, rfl, rfl, HS⟩ := hrel
            by_cases hlt : k < n
            · obtain ⟨i, hi⟩ : ∃ i, o[k]? = some i := ⟨_, List.getElem?_eq_getElem (by rw [HO.out.len, rst_length, HN.out]; exact hlt)⟩
              have hil : i < n := by have := HO.out.lt hi; rw [rst_length, HN.out] at this; exact this
              have hcd : wr.cell? ⟨gD, k, none⟩ = some (.int .i64 (i : Int)) := by
                have := HS.out.ord.cellAt k (by omega)
                rwa [nats_get hi] at this
              have i0 : (0 : Int) ≤ (k : Int) := by omega
              have i1 : (k : Int) < (n : Int) := by omega
              by_cases hz : L - (k : Int) = 0
              · have hzb : ((L - (k : Int)) == 0) = true := by rw [hz]; rfl
                have HE := Lib.hid (HSPL.out k (by omega))
                clear hz hi
                go_wp2
                go_ret2
                exact ⟨some ⟨gO, 0, none⟩, co, by rw [HLR.out]; rfl, by rw [HLR.out, ← HE.out]; exact HS.out.fin, HS.out.be⟩
              · have hzb : ((L - (k : Int)) == 0) = false := by rw [beq_eq_false_iff_ne]; exact hz
                have hold := sprK_old HO.out hi
                have hstep := sprK_step HO.out hi
                have hbm : at0 (bas total a l) i ∈ bas total a l := by
                  obtain ⟨y, hy⟩ : ∃ y, (bas total a l)[i]? = some y := ⟨_, List.getElem?_eq_getElem (by rw [bas_length, HN.out]; exact hil)⟩
                  rw [at0_of hy]
                  exact List.mem_of_getElem? hy
                have hb1 := HB0.out _ hbm
                have hb2 := mem_le_sum HB0.out _ hbm
                rw [HSUM.out] at hb2
                obtain ⟨b, hb⟩ : ∃ b, b = at0 (bas total a l) i := ⟨_, rfl⟩
                rw [← hb] at hold hstep hb1 hb2
                have hco : wr.cell? ⟨gO, i, none⟩ = some (.int .i64 b) := by
                  have := HS.out.out.cellAt i (by omega)
                  rw [i64s_get, hold] at this
                  simpa using this
                have hfo := HS.out.out.frozenAt i
                have HSN := Lib.hid (HS.out.putO hstep)
                have k0 : (0 : Int) ≤ (i : Int) := by omega
                have k1 : (i : Int) < (n : Int) := by omega
                have e1 : IntKind.i64.wrap (b + 1) = b + 1 := IntWalk.i64_in _ (by omega)
                have e2 : IntKind.i64.wrap (L - (k : Int) - 1) = L - (k : Int) - 1 := IntWalk.i64_in _ (by omega)
                have hL3 : (k : Int) + 1 ≤ L := by omega
                clear hi hold hstep hbm hb hz
                go_wp2
                go_roundw
                case rel => exact ⟨k + 1, by omega, by omega, by go_num, by congr 1; omega, HSN⟩
                case measure => simp [intOf]; omega
            · obtain rfl : n = k := by omega
              have HE := Lib.hid (HSPL.out n (by omega))
              clear hk hlt
              go_wp2
              go_ret2
              exact ⟨some ⟨gO, 0, none⟩, co, by rw [HLR.out]; rfl, by rw [HLR.out, ← HE.out]; exact HS.out.fin, HS.out.be⟩
theorem spread_any (A : Option Addr) (c n : Nat) (l res : List Int) (total er : Int) (w : World) (hr : Rd w A (i64s l)) (hn : l.length = n) (hn8 : n * 8 ≤ 140737488351232) (hs : SpRes total l res er) :
    Calls Try.prog 28 #[.int .i64 total, .slice A n c] w (SharedE w res er) := by
  rcases hs with ⟨hs, rfl, rfl⟩ | ⟨hs, rfl, rfl⟩
  · exact spread_ok A c n l total w hr hn hs
  · exact (spread_bad A c n l total w hr hn hs hn8).mono fun e w' ⟨he, hb⟩ => ⟨none, 0, he, World.ownsRow_nil _ _ _ _, hb⟩
end Go.Proofs.Ythcmkjiemlfpcaa
