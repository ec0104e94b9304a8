/- chroniclelaw16.back at any response. -/
import Derived.Test.YtljfmcgeiceagaaGreatRpL1
import Derived.StillTailTactics
namespace Go.Proofs.YtljfmcgeiceagaaGreat
open Go Go.RowKit
set_option linter.unusedVariables false
set_option linter.unusedSimpArgs false

theorem B8.far {W W' : World} {b : Nat} {c0 c1 c2 c3 c4 c5 c6 c7 : Value} {r : Option Nat} (h : B8 W b c0 c1 c2 c3 c4 c5 c6 c7) (hg : W.grownBy W' r) (hr : r ≠ some b) : B8 W' b c0 c1 c2 c3 c4 c5 c6 c7 := (hg.block b h.lt (fun e => hr e.symm)).trans h
theorem B8.drewn {W : World} {b : Nat} {c0 c1 c2 c3 c4 c5 c6 c7 : Value} (h : B8 W b c0 c1 c2 c3 c4 c5 c6 c7) : B8 W.drew b c0 c1 c2 c3 c4 c5 c6 c7 := h
set_option maxHeartbeats 800000 in
set_option maxRecDepth 100000 in
theorem backp_is (gn dn nn gr dr nr cn cr : Nat) (AN AR : Option Addr) (x : Rp) (ns0 : List ByteArray) (rs0 : List Rc) (w0 w : World) (h : Cp w0 w gn dn nn gr dr nr ns0 rs0) (hrn : Rd w0 AN (strs x.names)) (hrr : Rd w0 AR (rcCells x.recs)) (h0 : ns0.length = nn) (h1 : rs0.length = nr) (hnn : x.names.length = nn) (hnr : x.recs.length = nr) (hl : nn ≤ 1048576) (hl2 : nr ≤ 1048576) :
    Calls Tryz.prog 8 #[x.V (.slice (some ⟨gr, 0, none⟩) nr dr) (.slice (some ⟨gn, 0, none⟩) nn dn), x.V (.slice AR nr cr) (.slice AN nn cn)] w fun e w' => e = .returned (.tuple #[]) ∧ Cp w0 w' gn dn nn gr dr nr x.names x.recs ∧ Gr2 w w' gn gr := by
  obtain ⟨id, op, code, off, num, more, names, recs⟩ := x
  unfold Rp.V
  simp only at hrn hrr hnn hnr ⊢
  have hcn := h.capN
  have hcr := h.capR
  have hgn := h.ltN
  have hgr := h.ltR
  have HRN := Lib.hid hrn
  have HRR := Lib.hid hrr
  have H0 := Lib.hid h0
  have H1 := Lib.hid h1
  have HNN := Lib.hid hnn
  have HNR := Lib.hid hnr
  have HSTN : Hid (names.take 0 ++ ns0.drop 0 = ns0) := Lib.hid (by simp)
  have HSTR : Hid (recs.take 0 ++ rs0.drop 0 = rs0) := Lib.hid (by simp)
  have HENN : Hid (names.take nn ++ ns0.drop nn = names) := Lib.hid (by rw [List.take_of_length_le (by omega), List.drop_of_length_le (by omega), List.append_nil])
  have HENR : Hid (recs.take nr ++ rs0.drop nr = recs) := Lib.hid (by rw [List.take_of_length_le (by omega), List.drop_of_length_le (by omega), List.append_nil])
  have hsw := h.be.size
  have HC := Lib.hid h
  clear h hrn hrr h0 h1 hnn hnr
  go_enter Tryz.func8, Tryz.ntmps8
  obtain ⟨hx1, hx2, hbe, hsz⟩ := two_b8 w (.int .u32 (id : Int)) (.int .i64 op) (.int .i64 code) (.int .i64 off) (.int .i64 num) (.bool more) (.slice (some ⟨gr, 0, none⟩) nr dr) (.slice (some ⟨gn, 0, none⟩) nn dn) (.int .u32 (id : Int)) (.int .i64 op) (.int .i64 code) (.int .i64 off) (.int .i64 num) (.bool more) (.slice AR nr cr) (.slice AN nn cn)
  have HX1 := Lib.hid hx1
  have HX2 := Lib.hid hx2
  have HC1 := Lib.hid (HC.out.below hbe)
  have HG1 := Lib.hid ((Gr2.refl w gn gr).below hbe)
  clear hx1 hx2 hbe HC
  have hb1 : w.heap.size ≠ gn := by omega
  have hb2 : w.heap.size + 1 ≠ gn := by omega
  have hb3 : w.heap.size ≠ gr := by omega
  have hb4 : w.heap.size + 1 ≠ gr := by omega
  have n3 : (some gr : Option Nat) ≠ some w.heap.size := fun e => hb3 (by injection e with e; exact e.symm)
  have n4 : (some gr : Option Nat) ≠ some (w.heap.size + 1) := fun e => hb4 (by injection e with e; exact e.symm)
  have n5 : ∀ q, (some gr : Option Nat) = some q → q = gn ∨ q = gr ∨ w.heap.size ≤ q := fun q hq => by injection hq with hq; exact .inr (.inl hq.symm)
  go_upto_region 1 with (fail)
  generalize ((w.alloc (.cells #[.int .u32 (id : Int), .int .i64 op, .int .i64 code, .int .i64 off, .int .i64 num, .bool more, .slice (some ⟨gr, 0, none⟩) nr dr, .slice (some ⟨gn, 0, none⟩) nn dn] 26)).alloc (.cells #[.int .u32 (id : Int), .int .i64 op, .int .i64 code, .int .i64 off, .int .i64 num, .bool more, .slice AR nr cr, .slice AN nn cn] 26)) = W0 at HX1 HX2 HC1 HG1 hsz ⊢
  go_wp2_with fail
  go_loopw [4] (fun i wr => ∃ k : Nat, k ≤ nn ∧ i = .int .i64 k ∧ Hid (Cp w0 wr gn dn nn gr dr nr (names.take k ++ ns0.drop k) rs0) ∧ Hid (B8 wr w.heap.size (.int .u32 (id : Int)) (.int .i64 op) (.int .i64 code) (.int .i64 off) (.int .i64 num) (.bool more) (.slice (some ⟨gr, 0, none⟩) nr dr) (.slice (some ⟨gn, 0, none⟩) nn dn)) ∧ Hid (B8 wr (w.heap.size + 1) (.int .u32 (id : Int)) (.int .i64 op) (.int .i64 code) (.int .i64 off) (.int .i64 num) (.bool more) (.slice AR nr cr) (.slice AN nn cn)) ∧ Hid (Gr2 w wr gn gr)) (fun i _ => nn - (intOf i).toNat)
  case atStart => exact ⟨0, Nat.zero_le _, rfl, Lib.hid (by rw [HSTN.out]; exact HC1.out), HX1, HX2, HG1⟩
  case round =>
    clear HX1 HX2 HC1 HG1
    obtain ⟨k, hk, rfl, HC, HX1, HX2, HG⟩ := hrel
    obtain ⟨-, -, -, -, -, -, x6, x7⟩ := HX1.out.facts
    obtain ⟨-, -, -, -, -, -, y6, y7⟩ := HX2.out.facts
    by_cases hlt : k < nn
    · obtain ⟨s, hs⟩ : ∃ s, names[k]? = some s := ⟨_, List.getElem?_eq_getElem (by rw [HNN.out]; exact hlt)⟩
      obtain ⟨g2, off2, rfl, hg2, hc2⟩ := (HRN.out.below HC.out.be).val_ (strs_get hs)
      have hz := own_len HC.out.n
      obtain ⟨z0, c0⟩ : ∃ u, wr.cell? ⟨gn, k, none⟩ = some u := ⟨_, (HC.out.n.cellAt k (by omega)).trans (List.getElem?_eq_getElem (by omega))⟩
      have f0 := HC.out.n.frozenAt k
      have HCN := Lib.hid (HC.out.putN (k := k) (u := .string s) (names_step hlt H0.out HNN.out hs))
      have hst := stored_grown wr gn k (.string s)
      have HX1N := Lib.hid (HX1.out.far hst (fun e => hb1 (by injection e with e; exact e.symm)))
      have HX2N := Lib.hid (HX2.out.far hst (fun e => hb2 (by injection e with e; exact e.symm)))
      have HGN := Lib.hid (HG.out.grown hst (fun q hq => by injection hq with hq; exact .inl hq.symm))
      have i0 : (0 : Int) ≤ (k : Int) := by omega
      have i1 : (k : Int) < (nn : Int) := by omega
      clear hs hz hst HC HX1 HX2 HG
      go_wp2_with fail
      refine wp_region_still_tail 9 (by kernel_rfl) (by kernel_rfl) ?_
      simp only [List.take_succ_cons, List.take_zero, List.drop_succ_cons, List.drop_zero]
      repeat still_step
      refine wpStill_nil ?_
      change wpList _ _ _ _ _ wr.drew
      go_wp2_with fail
      go_roundw
      case rel => exact ⟨k + 1, by omega, by go_num, Lib.hid HCN.out.drew, Lib.hid HX1N.out.drewn, Lib.hid HX2N.out.drewn, Lib.hid HGN.out.drew⟩
      case measure => simp [intOf]; omega
    · obtain rfl : nn = k := by omega
      rw [HENN.out] at HC
      clear hk hlt HSTN HENN
      go_wp2_with fail
      rename World => wq
      go_loopw [5] (fun i wr => ∃ k : Nat, k ≤ nr ∧ i = .int .i64 k ∧ Hid (Cp w0 wr gn dn nn gr dr nr names (recs.take k ++ rs0.drop k)) ∧ Hid (B8 wr w.heap.size (.int .u32 (id : Int)) (.int .i64 op) (.int .i64 code) (.int .i64 off) (.int .i64 num) (.bool more) (.slice (some ⟨gr, 0, none⟩) nr dr) (.slice (some ⟨gn, 0, none⟩) nn dn)) ∧ Hid (B8 wr (w.heap.size + 1) (.int .u32 (id : Int)) (.int .i64 op) (.int .i64 code) (.int .i64 off) (.int .i64 num) (.bool more) (.slice AR nr cr) (.slice AN nn cn)) ∧ Hid (Gr2 w wr gn gr)) (fun i _ => nr - (intOf i).toNat)
      case atStart => exact ⟨0, Nat.zero_le _, rfl, Lib.hid (by rw [HSTR.out]; exact HC.out), HX1, HX2, HG⟩
      case round =>
        clear HX1 HX2 HC HG x6 x7 y6 y7
        obtain ⟨k, hk, rfl, HC, HX1, HX2, HG⟩ := hrel
        obtain ⟨-, -, -, -, -, -, x6, x7⟩ := HX1.out.facts
        obtain ⟨-, -, -, -, -, -, y6, y7⟩ := HX2.out.facts
        by_cases hlt : k < nr
        · obtain ⟨x, hx⟩ : ∃ x, recs[k]? = some x := ⟨_, List.getElem?_eq_getElem (by rw [HNR.out]; exact hlt)⟩
          obtain ⟨g, off, rfl, hg, x0', x1', x2', x3', x4', x5', x6'⟩ := (HRR.out.below HC.out.be).rec hx
          have hz := own_len HC.out.r
          have hc : ∀ j, j < 7 → ∃ u, wr.cell? ⟨gr, k * 7 + j, none⟩ = some u := fun j hj => ⟨_, (HC.out.r.cellAt (k * 7 + j) (by omega)).trans (List.getElem?_eq_getElem (by omega))⟩
          obtain ⟨z0, c0⟩ := hc 0 (by omega)
          obtain ⟨z1, c1⟩ := hc 1 (by omega)
          obtain ⟨z2, c2⟩ := hc 2 (by omega)
          obtain ⟨z3, c3⟩ := hc 3 (by omega)
          obtain ⟨z4, c4⟩ := hc 4 (by omega)
          obtain ⟨z5, c5⟩ := hc 5 (by omega)
          obtain ⟨z6, c6⟩ := hc 6 (by omega)
          rw [Nat.add_zero] at c0
          have f0 := HC.out.r.frozenAt (k * 7)
          have f1 := HC.out.r.frozenAt (k * 7 + 1)
          have f2 := HC.out.r.frozenAt (k * 7 + 2)
          have f3 := HC.out.r.frozenAt (k * 7 + 3)
          have f4 := HC.out.r.frozenAt (k * 7 + 4)
          have f5 := HC.out.r.frozenAt (k * 7 + 5)
          have f6 := HC.out.r.frozenAt (k * 7 + 6)
          have HP := Lib.hid (HC.out.put7 (j := k * 7) (u0 := .int .i64 x.k) (u1 := .int .i64 x.o) (u2 := .int .i64 x.t) (u3 := .int .i64 x.p) (u4 := .int .i64 x.s) (u5 := .string x.key) (u6 := .string x.val) (back_step hlt H1.out HNR.out hx))
          have hgp := HP.out.2
          have HX1N := Lib.hid (HX1.out.far hgp n3)
          have HX2N := Lib.hid (HX2.out.far hgp n4)
          have HGN := Lib.hid (HG.out.grown hgp n5)
          have i0 : (0 : Int) ≤ (k : Int) := by omega
          have i1 : (k : Int) < (nr : Int) := by omega
          obtain ⟨xk, xo, xt, xp, xs, xkey, xval⟩ := x
          simp only at x0' x1' x2' x3' x4' x5' x6' HP HX1N HX2N HGN
          clear hz hc hx HC HX1 HX2 HG hgp
          go_wp2_with fail
          refine wp_region_still_tail 9 (by kernel_rfl) (by kernel_rfl) ?_
          simp only [List.take_succ_cons, List.take_zero, List.drop_succ_cons, List.drop_zero]
          repeat still_step
          refine wpStill_nil ?_
          change wpList _ _ _ _ _ wr.drew
          go_wp2_with fail
          go_roundw
          case rel => exact ⟨k + 1, by omega, by go_num, Lib.hid HP.out.1.drew, Lib.hid HX1N.out.drewn, Lib.hid HX2N.out.drewn, Lib.hid HGN.out.drew⟩
          case measure => simp [intOf]; omega
        · obtain rfl : nr = k := by omega
          rw [HENR.out] at HC
          clear hk hlt HSTR HENR
          go_wp2_with fail
          go_end0
          exact ⟨rfl, HC.out, HG.out⟩
end Go.Proofs.YtljfmcgeiceagaaGreat
