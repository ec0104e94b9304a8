/- chroniclelaw16.moved at any response. -/
import Derived.Test.YtljfmcgeiceagaaGreatRpL4
import Derived.Test.YtljfmcgeiceagaaGreatWiFits4
namespace Go.Proofs.YtljfmcgeiceagaaGreat
open Go Go.RowKit
set_option linter.unusedVariables false
set_option linter.unusedSimpArgs false

def mvs (s : ByteArray) : ByteArray := s ++ ⟨#[120]⟩
theorem names_at {l l0 : List ByteArray} {k n : Nat} {s0 m : ByteArray} (hl : l.length = n) (hk : k < n) (hx : l0[k]? = some s0) : (strs (l.take k ++ l0.drop k ++ [m]))[k]? = some (.string s0) := by
  obtain ⟨hk2, _⟩ := List.getElem?_eq_some_iff.1 hx
  refine strs_get ?_
  rw [List.append_assoc, List.getElem?_append_right (by rw [List.length_take]; omega), List.length_take, show k - min k l.length = 0 by omega, List.getElem?_append_left (by rw [List.length_drop]; omega), List.getElem?_drop, Nat.add_zero]
  exact hx
theorem Gr2.st {a b : World} {g1 g2 q k : Nat} {u : Value} (h : Gr2 a b g1 g2) (hq : a.heap.size ≤ q) : Gr2 a (b.setCell ⟨q, k, none⟩ u) g1 g2 := h.grown (stored_grown b q k u) (fun j hj => by injection hj with hj; subst hj; exact .inr (.inr hq))
theorem Gr2.w8 {a b : World} {g1 g2 q : Nat} (h : Gr2 a b g1 g2) (hq : a.heap.size ≤ q) (c0 c1 c2 c3 c4 c5 c6 c7 : Value) : Gr2 a (W8 b q c0 c1 c2 c3 c4 c5 c6 c7) g1 g2 :=
  (((((((h.st hq).st hq).st hq).st hq).st hq).st hq).st hq).st hq
set_option maxHeartbeats 4000000 in
set_option maxRecDepth 100000 in
theorem movedp_is (gn dn nn gr dr nr : Nat) (x : Rp) (w0 w : World) (h : Cp w0 w gn dn nn gr dr nr x.names x.recs) (hnn : x.names.length = nn) (hnr : x.recs.length = nr) (hl : nn ≤ 1048576) (hl2 : nr ≤ 1048576) (hv : ∀ r ∈ x.recs, r.val.size ≤ 1048576) (hs : ∀ s ∈ x.names, s.size ≤ 1048576) :
    Calls Tryz.prog 6 #[x.V (.slice (some ⟨gr, 0, none⟩) nr dr) (.slice (some ⟨gn, 0, none⟩) nn dn)] w fun e w' => e = .returned (x.V (.slice (some ⟨gr, 0, none⟩) nr dr) (.slice (some ⟨gn, 0, none⟩) nn dn)) ∧ Cp w0 w' gn dn nn gr dr nr (x.names.map mvs) (x.recs.map mvx) ∧ Gr2 w w' gn gr := by
  obtain ⟨id, op, code, off, num, more, names, recs⟩ := x
  unfold Rp.V
  simp only at h hnn hnr hv hs ⊢
  have hcn := h.capN
  have hcr := h.capR
  have hgn := h.ltN
  have hgr := h.ltR
  have hsw := h.be.size
  have HNN := Lib.hid hnn
  have HNR := Lib.hid hnr
  have HV := Lib.hid hv
  have HSS := Lib.hid hs
  obtain ⟨nm2, hnm2⟩ : ∃ nm2, nm2 = names.map mvs := ⟨_, rfl⟩
  rw [← hnm2]
  have HML : Hid (nm2.length = nn) := Lib.hid (by rw [hnm2, List.length_map, hnn])
  have HMG : Hid (∀ (k : Nat) (s : ByteArray), names[k]? = some s → nm2[k]? = some (s ++ (⟨#[120]⟩ : ByteArray))) := Lib.hid (fun k s hk => by rw [hnm2, List.getElem?_map, hk]; rfl)
  have HST0 : Hid (nm2.take 0 ++ names.drop 0 = names) := Lib.hid (by simp)
  have HSTE : Hid (nm2.take nn ++ names.drop nn = nm2) := Lib.hid (by rw [List.take_of_length_le (by rw [HML.out]; omega), List.drop_of_length_le (by omega), List.append_nil])
  have HRE : Hid (mvl recs nr = recs.map mvx) := Lib.hid (by unfold mvl; rw [List.take_of_length_le (by omega), List.drop_of_length_le (by omega), List.append_nil])
  have HR0 : Hid (mvl recs 0 = recs) := Lib.hid (by unfold mvl; simp)
  have HC := Lib.hid h
  clear h hnn hnr hv hs hnm2
  go_enter Tryz.func6, Tryz.ntmps6
  obtain ⟨hx1, hx2, hbe, hsz⟩ := two_b8 w (.int .u32 (id : Int)) (.int .i64 op) (.int .i64 code) (.int .i64 off) (.int .i64 num) (.bool more) (.slice (some ⟨gr, 0, none⟩) nr dr) (.slice (some ⟨gn, 0, none⟩) nn dn) (.int .u32 0) (.int .i64 0) (.int .i64 0) (.int .i64 0) (.int .i64 0) (.bool false) (.slice none 0 0) (.slice none 0 0)
  have HX1 := Lib.hid hx1
  have HX2 := Lib.hid hx2
  have HC1 := Lib.hid (HC.out.below hbe)
  have HG1 := Lib.hid ((Gr2.refl w gn gr).below hbe)
  clear hx1 hx2 hbe HC
  have hb1 : w.heap.size ≠ gn := by omega
  have hb2 : w.heap.size + 1 ≠ gn := by omega
  have hb3 : w.heap.size ≠ gr := by omega
  have hb4 : w.heap.size + 1 ≠ gr := by omega
  go_upto_region 1 with (fail)
  generalize ((w.alloc (.cells #[.int .u32 (id : Int), .int .i64 op, .int .i64 code, .int .i64 off, .int .i64 num, .bool more, .slice (some ⟨gr, 0, none⟩) nr dr, .slice (some ⟨gn, 0, none⟩) nn dn] 26)).alloc (.cells #[.int .u32 0, .int .i64 0, .int .i64 0, .int .i64 0, .int .i64 0, .bool false, .slice none 0 0, .slice none 0 0] 26)) = W0 at HX1 HX2 HC1 HG1 hsz ⊢
  go_wp2_with fail
  go_loopw [3] (fun i wr => ∃ k : Nat, k ≤ nn ∧ i = .int .i64 k ∧ Hid (Cp w0 wr gn dn nn gr dr nr (nm2.take k ++ names.drop k) recs) ∧ Hid (B8 wr w.heap.size (.int .u32 (id : Int)) (.int .i64 op) (.int .i64 code) (.int .i64 off) (.int .i64 num) (.bool more) (.slice (some ⟨gr, 0, none⟩) nr dr) (.slice (some ⟨gn, 0, none⟩) nn dn)) ∧ Hid (B8 wr (w.heap.size + 1) (.int .u32 0) (.int .i64 0) (.int .i64 0) (.int .i64 0) (.int .i64 0) (.bool false) (.slice none 0 0) (.slice none 0 0)) ∧ Hid (Gr2 w wr gn gr)) (fun i _ => nn - (intOf i).toNat)
  case atStart => exact ⟨0, Nat.zero_le _, rfl, Lib.hid (by rw [HST0.out]; exact HC1.out), HX1, HX2, HG1⟩
  case round =>
    clear HX1 HX2 HC1 HG1
    obtain ⟨k, hk, rfl, HC, HX1, HX2, HG⟩ := hrel
    obtain ⟨-, -, -, -, -, -, x6, x7⟩ := HX1.out.facts
    by_cases hlt : k < nn
    · obtain ⟨s, hs⟩ : ∃ s, names[k]? = some s := ⟨_, List.getElem?_eq_getElem (by rw [HNN.out]; exact hlt)⟩
      have c0 := (HC.out.n.cellAt k (by omega)).trans (names_at HML.out hlt hs)
      have f0 := HC.out.n.frozenAt k
      have hss := HSS.out s (List.mem_of_getElem? hs)
      have hadd := fun W => run_string_add_sum (P := Tryz.prog) (w := W) s ⟨#[120]⟩ (by have : (⟨#[120]⟩ : ByteArray).size = 1 := rfl; omega)
      have hmg := HMG.out k s hs
      obtain ⟨y, hy⟩ : ∃ y, s ++ (⟨#[120]⟩ : ByteArray) = y := ⟨_, rfl⟩
      rw [hy] at hadd hmg
      have HCN := Lib.hid (HC.out.putN (k := k) (u := .string y) (names_step hlt HNN.out HML.out hmg))
      have hst := stored_grown wr gn k (.string y)
      have HX1N := Lib.hid (HX1.out.far hst (fun e => hb1 (by injection e with e; exact e.symm)))
      have HX2N := Lib.hid (HX2.out.far hst (fun e => hb2 (by injection e with e; exact e.symm)))
      have HGN := Lib.hid (HG.out.grown hst (fun q hq => by injection hq with hq; exact .inl hq.symm))
      have hno : ¬ (9223372036854775807 < s.size + 1) := by omega
      have i0 : (0 : Int) ≤ (k : Int) := by omega
      have i1 : (k : Int) < (nn : Int) := by omega
      clear hs hst HC HX1 HX2 HG hy hmg hss
      go_wp2_with fail
      refine wp_region_still_tail 10 (by kernel_rfl) (by kernel_rfl) ?_
      simp only [List.take_succ_cons, List.take_zero, List.drop_succ_cons, List.drop_zero]
      repeat still_step
      refine wpStill_nil ?_
      change wpList _ _ _ _ _ wr.drew
      go_wp2_with fail
      go_roundw
      case rel => exact ⟨k + 1, by omega, by go_num, Lib.hid HCN.out.drew, Lib.hid HX1N.out.drewn, Lib.hid HX2N.out.drewn, Lib.hid HGN.out.drew⟩
      case measure => simp [intOf]; omega
    · obtain rfl : nn = k := by omega
      rw [HSTE.out] at HC
      clear hk hlt HST0 HSTE HMG
      go_wp2_with fail
      rename World => wq
      go_loopw [4] (fun i wr => ∃ k : Nat, k ≤ nr ∧ i = .int .i64 k ∧ Hid (Cp w0 wr gn dn nn gr dr nr nm2 (mvl recs k)) ∧ Hid (B8 wr w.heap.size (.int .u32 (id : Int)) (.int .i64 op) (.int .i64 code) (.int .i64 off) (.int .i64 num) (.bool more) (.slice (some ⟨gr, 0, none⟩) nr dr) (.slice (some ⟨gn, 0, none⟩) nn dn)) ∧ Hid (B8 wr (w.heap.size + 1) (.int .u32 0) (.int .i64 0) (.int .i64 0) (.int .i64 0) (.int .i64 0) (.bool false) (.slice none 0 0) (.slice none 0 0)) ∧ Hid (Gr2 w wr gn gr)) (fun i _ => nr - (intOf i).toNat)
      case atStart => exact ⟨0, Nat.zero_le _, rfl, Lib.hid (by rw [HR0.out]; exact HC.out), HX1, HX2, HG⟩
      case round =>
        clear HX1 HX2 HC HG x6 x7
        obtain ⟨k, hk, rfl, HC, HX1, HX2, HG⟩ := hrel
        obtain ⟨-, -, -, -, -, -, x6, x7⟩ := HX1.out.facts
        by_cases hlt : k < nr
        · obtain ⟨x, hx⟩ : ∃ x, recs[k]? = some x := ⟨_, List.getElem?_eq_getElem (by rw [HNR.out]; exact hlt)⟩
          obtain ⟨hg1, hg2⟩ := mvl_get hx
          have hg3 := mvl_step hx
          obtain ⟨a, ha⟩ : ∃ a, a = (recs.take k).map mvx := ⟨_, rfl⟩
          obtain ⟨b, hb⟩ : ∃ b, b = recs.drop (k + 1) := ⟨_, rfl⟩
          rw [← ha, ← hb] at hg1 hg3
          rw [← ha] at hg2
          rw [hg1] at HC
          have HST := Lib.hid hg3
          have hrow : (a ++ x :: b ++ [mk77])[k]? = some x := by rw [List.append_assoc, List.getElem?_append_right (by omega), hg2, Nat.sub_self]; rfl
          obtain ⟨g', off', he, hgl, z0, z1, z2, z3, z4, z5, z6⟩ := (rd_own HC.out.r).rec hrow
          injection he with he
          injection he with he1 he2
          subst he1 he2
          simp only [Nat.zero_add] at z0 z1 z2 z3 z4 z5 z6
          have f1 := HC.out.r.frozenAt (k * 7 + 1)
          have f6 := HC.out.r.frozenAt (k * 7 + 6)
          obtain ⟨o1, ho1⟩ : ∃ o1, o1 = IntKind.i64.wrap (x.o + 1) := ⟨_, rfl⟩
          have e1 : (rcCells (a ++ x :: b ++ [mk77])).set (k * 7 + 1) (.int .i64 o1) = rcCells (a ++ (⟨x.k, o1, x.t, x.p, x.s, x.key, x.val⟩ : Rc) :: b ++ [mk77]) := by
            have := rc_set1 a x (b ++ [mk77]) o1
            rw [hg2] at this
            simpa using this
          have e6 : (rcCells (a ++ (⟨x.k, o1, x.t, x.p, x.s, x.key, x.val⟩ : Rc) :: b ++ [mk77])).set (k * 7 + 6) (.string (x.val ++ ⟨#[120]⟩)) = rcCells (a ++ mvx x :: b ++ [mk77]) := by
            have := rc_set6 a (⟨x.k, o1, x.t, x.p, x.s, x.key, x.val⟩ : Rc) (b ++ [mk77]) (x.val ++ ⟨#[120]⟩)
            rw [hg2] at this
            unfold mvx
            rw [← ho1]
            simpa using this
          have hst := stored_grown wr gr (k * 7 + 1) (.int .i64 o1)
          have HC1 := Lib.hid ((HC.out.putR e1).drew)
          have HX11 := Lib.hid (HX1.out.far hst (fun e => hb3 (by injection e with e; exact e.symm))).drewn
          have HX21 := Lib.hid (HX2.out.far hst (fun e => hb4 (by injection e with e; exact e.symm))).drewn
          have HG1 := Lib.hid (HG.out.grown hst (fun q hq => by injection hq with hq; exact .inr (.inl hq.symm))).drew
          have ho2 := ho1.symm
          have hrow1 : (a ++ (⟨x.k, o1, x.t, x.p, x.s, x.key, x.val⟩ : Rc) :: b ++ [mk77])[k]? = some ⟨x.k, o1, x.t, x.p, x.s, x.key, x.val⟩ := by rw [List.append_assoc, List.getElem?_append_right (by omega), hg2, Nat.sub_self]; rfl
          have HROW := Lib.hid hrow1
          have hvs := HV.out x (List.mem_of_getElem? hx)
          have hadd := fun W => run_string_add_sum (P := Tryz.prog) (w := W) x.val ⟨#[120]⟩ (by have : (⟨#[120]⟩ : ByteArray).size = 1 := rfl; omega)
          obtain ⟨y, hy⟩ : ∃ y, x.val ++ (⟨#[120]⟩ : ByteArray) = y := ⟨_, rfl⟩
          rw [hy] at hadd e6
          have HE6 := Lib.hid e6
          have hno : ¬ (9223372036854775807 < x.val.size + 1) := by omega
          have i0 : (0 : Int) ≤ (k : Int) := by omega
          have i1 : (k : Int) < (nr : Int) := by omega
          obtain ⟨xk, xo, xt, xp, xs, xkey, xval⟩ := x
          simp only at z0 z1 z2 z3 z4 z5 z6 ho2 HC1 HE6 HROW hadd hno
          clear hx hg1 hg2 hg3 ha hb hrow hrow1 ho1 e1 e6 hy hvs hst
          go_wp2_with fail
          refine wp_region_still_tail 12 (by kernel_rfl) (by kernel_rfl) ?_
          simp only [List.take_succ_cons, List.take_zero, List.drop_succ_cons, List.drop_zero]
          repeat still_step
          refine wpStill_nil ?_
          change wpList _ _ _ _ _ wr.drew
          clear HC HX1 HX2 HG
          go_wp2_with fail
          clear z0 z1 z2 z3 z4 z5 z6 f1 f6 x6 x7 ho2
          generalize (wr.setCell ⟨gr, k * 7 + 1, none⟩ (.int .i64 o1)).drew = W1 at HC1 HX11 HX21 HG1 ⊢
          obtain ⟨g', off', he, hgl2, z0, z1, z2, z3, z4, z5, z6⟩ := (rd_own HC1.out.r).rec HROW.out
          injection he with he
          injection he with he1 he2
          subst he1 he2
          simp only [Nat.zero_add] at z0 z1 z2 z3 z4 z5 z6
          obtain ⟨-, -, -, -, -, -, x6, x7⟩ := HX11.out.facts
          have f6 := HC1.out.r.frozenAt (k * 7 + 6)
          have hst := stored_grown W1 gr (k * 7 + 6) (.string y)
          have HC2 := Lib.hid ((HC1.out.putR HE6.out).drew)
          have HX12 := Lib.hid (HX11.out.far hst (fun e => hb3 (by injection e with e; exact e.symm))).drewn
          have HX22 := Lib.hid (HX21.out.far hst (fun e => hb4 (by injection e with e; exact e.symm))).drewn
          have HG2 := Lib.hid (HG1.out.grown hst (fun q hq => by injection hq with hq; exact .inr (.inl hq.symm))).drew
          clear HC1 HX11 HX21 HG1 hst
          refine wp_region_still_tail 12 (by kernel_rfl) (by kernel_rfl) ?_
          simp only [List.take_succ_cons, List.take_zero, List.drop_succ_cons, List.drop_zero]
          repeat still_step
          refine wpStill_nil ?_
          change wpList _ _ _ _ _ W1.drew
          go_wp2_with fail
          go_roundw
          case rel => exact ⟨k + 1, by omega, by go_num, Lib.hid (by rw [HST.out]; exact HC2.out), HX12, HX22, HG2⟩
          case measure => simp [intOf]; omega
        · obtain rfl : nr = k := by omega
          rw [HRE.out] at HC
          obtain ⟨x0, x1, x2, x3, x4, x5, -, -⟩ := HX1.out.facts
          obtain ⟨z0, z1, z2, z3, z4, z5, z6, z7⟩ := HX2.out.facts
          obtain ⟨k0, k1, k2, k3, k4, k5, k6, k7⟩ := HX2.out.marks
          clear HRE HR0
          go_wp2_with fail
          have HFI := Lib.hid (HX2.out.w8 (.int .u32 (id : Int)) (.int .i64 op) (.int .i64 code) (.int .i64 off) (.int .i64 num) (.bool more) (.slice (some ⟨gr, 0, none⟩) nr dr) (.slice (some ⟨gn, 0, none⟩) nn dn))
          have hCC := HC.out.w8 (b := w.heap.size + 1) hb2 hb4 (by omega) (.int .u32 (id : Int)) (.int .i64 op) (.int .i64 code) (.int .i64 off) (.int .i64 num) (.bool more) (.slice (some ⟨gr, 0, none⟩) nr dr) (.slice (some ⟨gn, 0, none⟩) nn dn)
          have hGG := HG.out.w8 (q := w.heap.size + 1) (Nat.le_succ _) (.int .u32 (id : Int)) (.int .i64 op) (.int .i64 code) (.int .i64 off) (.int .i64 num) (.bool more) (.slice (some ⟨gr, 0, none⟩) nr dr) (.slice (some ⟨gn, 0, none⟩) nn dn)
          unfold W8 at HFI hCC hGG
          clear x0 x1 x2 x3 x4 x5 x6 x7 z0 z1 z2 z3 z4 z5 z6 z7 k0 k1 k2 k3 k4 k5 k6 k7 HX1 HX2 HC HG
          generalize ((((((((wr.setCell ⟨w.heap.size + 1, 0, none⟩ (.int .u32 (id : Int))).setCell ⟨w.heap.size + 1, 1, none⟩ (.int .i64 op)).setCell ⟨w.heap.size + 1, 2, none⟩ (.int .i64 code)).setCell ⟨w.heap.size + 1, 3, none⟩ (.int .i64 off)).setCell ⟨w.heap.size + 1, 4, none⟩ (.int .i64 num)).setCell ⟨w.heap.size + 1, 5, none⟩ (.bool more)).setCell ⟨w.heap.size + 1, 6, none⟩ (.slice (some ⟨gr, 0, none⟩) nr dr)).setCell ⟨w.heap.size + 1, 7, none⟩ (.slice (some ⟨gn, 0, none⟩) nn dn)) = W9 at HFI hCC hGG ⊢
          obtain ⟨z0, z1, z2, z3, z4, z5, z6, z7⟩ := HFI.out.facts
          exact bodyPost_ret (v := .agg #[.int .u32 (id : Int), .int .i64 op, .int .i64 code, .int .i64 off, .int .i64 num, .bool more, .slice (some ⟨gr, 0, none⟩) nr dr, .slice (some ⟨gn, 0, none⟩) nn dn]) (by simp [results, Tryz.results6, go_sem, z0, z1, z2, z3, z4, z5, z6, z7]) rfl ⟨rfl, hCC, hGG⟩
end Go.Proofs.YtljfmcgeiceagaaGreat
