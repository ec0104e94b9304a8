/- chroniclelaw16.copied at any response. -/
import Derived.Test.YtljfmcgeiceagaaGreatRpL3
import Derived.Deep.CutRange
import Derived.BigQuiet
namespace Go.Proofs.YtljfmcgeiceagaaGreat
open Go Go.RowKit
set_option linter.unusedVariables false
set_option linter.unusedSimpArgs false

theorem strs_one (l : List ByteArray) : ∀ u ∈ strs l, u.oneCell' = true := by
  intro u hu
  unfold strs at hu
  obtain ⟨s, _, rfl⟩ := List.mem_map.1 hu
  rfl
section
variable {w W W' : World} {gn dn nn gr dr nr b : Nat} {ns : List ByteArray} {rs : List Rc}
theorem Cp.st {k : Nat} {u : Value} (h : Cp w W gn dn nn gr dr nr ns rs) (h1 : b ≠ gn) (h2 : b ≠ gr) (h3 : w.heap.size ≤ b) : Cp w (W.setCell ⟨b, k, none⟩ u) gn dn nn gr dr nr ns rs :=
  h.other (stored_grown W b k u) (fun q hq => by injection hq with hq; subst hq; exact ⟨h1, h2, h3⟩)
theorem Cp.w8 (h : Cp w W gn dn nn gr dr nr ns rs) (h1 : b ≠ gn) (h2 : b ≠ gr) (h3 : w.heap.size ≤ b) (c0 c1 c2 c3 c4 c5 c6 c7 : Value) : Cp w (W8 W b c0 c1 c2 c3 c4 c5 c6 c7) gn dn nn gr dr nr ns rs :=
  (((((((h.st h1 h2 h3).st h1 h2 h3).st h1 h2 h3).st h1 h2 h3).st h1 h2 h3).st h1 h2 h3).st h1 h2 h3).st h1 h2 h3
theorem B8.w8 {x0 x1 x2 x3 x4 x5 x6 x7 : Value} (h : B8 W b x0 x1 x2 x3 x4 x5 x6 x7) (c0 c1 c2 c3 c4 c5 c6 c7 : Value) : B8 (W8 W b c0 c1 c2 c3 c4 c5 c6 c7) b c0 c1 c2 c3 c4 c5 c6 c7 :=
  (((((((h.put0 c0).put1 c1).put2 c2).put3 c3).put4 c4).put5 c5).put6 c6).put7 c7
theorem B8.oth {x0 x1 x2 x3 x4 x5 x6 x7 : Value} {b' k : Nat} {u : Value} (h : B8 W b x0 x1 x2 x3 x4 x5 x6 x7) (hne : b' ≠ b) : B8 (W.setCell ⟨b', k, none⟩ u) b x0 x1 x2 x3 x4 x5 x6 x7 := h.far (stored_grown W b' k u) (fun e => hne (by injection e))
end
set_option maxHeartbeats 4000000 in
set_option maxRecDepth 100000 in
theorem copiedp_is (x : Rp) (AN AR : Option Addr) (nn nr cn cr : Nat) (w : World) (hrn : Rd w AN (strs x.names)) (hrr : Rd w AR (rcCells x.recs)) (hnn : x.names.length = nn) (hnr : x.recs.length = nr) (hl : nn ≤ 1048576) (hl2 : nr ≤ 1048576) :
    Calls Tryz.prog 4 #[x.V (.slice AR nr cr) (.slice AN nn cn)] w fun e w' => ∃ gn dn gr dr, e = .returned (x.V (.slice (some ⟨gr, 0, none⟩) nr dr) (.slice (some ⟨gn, 0, none⟩) nn dn)) ∧ Cp w w' gn dn nn gr dr nr x.names x.recs := by
  have HRN := Lib.hid hrn
  have HRR := Lib.hid hrr
  have HNN := Lib.hid hnn
  have HNR := Lib.hid hnr
  obtain ⟨i0, hi, hz0, hz1, hz2⟩ := info_parts infoStr
  have HI := Lib.hid (⟨hi, hz0, hz1, hz2⟩ : _ ∧ _ ∧ _ ∧ _)
  obtain ⟨id, op, code, off, num, more, names, recs⟩ := x
  unfold Rp.V
  simp only at HRN HRR HNN HNR ⊢
  clear hrn hrr hnn hnr hi hz0 hz1 hz2
  go_enter Tryz.func4, Tryz.ntmps4
  obtain ⟨hx1, hx2, hbe, hsz⟩ := two_b8 w (.int .u32 (id : Int)) (.int .i64 op) (.int .i64 code) (.int .i64 off) (.int .i64 num) (.bool more) (.slice AR nr cr) (.slice AN nn cn) (.int .u32 0) (.int .i64 0) (.int .i64 0) (.int .i64 0) (.int .i64 0) (.bool false) (.slice none 0 0) (.slice none 0 0)
  have HBX := Lib.hid hx1
  have HRX := Lib.hid hx2
  have HB0 := Lib.hid hbe
  have HSZ := Lib.hid hsz
  obtain ⟨x0, x1, x2, x3, x4, x5, x6, x7⟩ := HBX.out.facts
  clear hx1 hx2 hbe hsz
  go_upto_region 3 with (fail)
  clear x0 x1 x2 x3 x4 x5 x6 x7
  generalize ((w.alloc (.cells #[.int .u32 (id : Int), .int .i64 op, .int .i64 code, .int .i64 off, .int .i64 num, .bool more, .slice AR nr cr, .slice AN nn cn] 26)).alloc (.cells #[.int .u32 0, .int .i64 0, .int .i64 0, .int .i64 0, .int .i64 0, .bool false, .slice none 0 0, .slice none 0 0] 26)) = W0 at HBX HRX HB0 HSZ ⊢
  have hs1 := HSZ.out
  have hs11 : w.heap.size < W0.heap.size := by omega
  obtain ⟨x0, x1, x2, x3, x4, x5, x6, x7⟩ := HBX.out.facts
  have HE0 : Hid ((W0.alloc (.cells #[] 9)).ownsRow W0.heap.size 9 1 (.slice (some ⟨W0.heap.size, 0, none⟩) 0 0) 0 []) := Lib.hid (World.ownsRow_made W0 #[] 0 (Nat.le_refl _) (by decide) rfl)
  have R0 := Lib.hid ((HRN.out.below HB0.out).below ((Below.refl W0.heap.size W0).alloc (Nat.le_refl _) (.cells #[] 9)))
  have HLN : Hid ((strs names).length = nn * 1) := Lib.hid (by rw [strs_length, HNN.out]; omega)
  go_upto_region 4 with (first
    | (at_builtin; ((refine wpList_app _ rfl (.tmp 11) (.tmp 13) 24 rfl W0.heap.size 9 i0 _ 1 16 Tryz.underlying24 HI.out.1 HI.out.2.1 HI.out.2.2.1 HI.out.2.2.2 rfl (by omega) _ 0 [] rfl HE0.out AN nn cn (strs names) rfl HLN.out R0.out (strs_one _) (by omega) (by unfold maxLen; omega) (by simp) ?_); intro v1 w1 ho1 hg1 hn1; have HO1 := Lib.hid ho1; have HB1 := Lib.hid (((Below.refl W0.heap.size W0).alloc (Nat.le_refl _) _).trans (below_of_grown hg1 (by simp) (fun q hq => (HE0.out.lt q hq).1))); clear ho1 hg1 hn1))
    | (at_builtin; ((refine wpList_push w1 rfl (.tmp 14) (.tmp 15) 24 rfl W0.heap.size 9 i0 _ 16 Tryz.underlying24 HI.out.1 HI.out.2.1 HI.out.2.2.1 HI.out.2.2.2 rfl v1 (0 + nn) _ rfl HO1.out (.string ⟨#[47]⟩) rfl rfl (by omega) (by unfold maxLen; omega) HB1.out.size ?_); intro v2 w2 ho2 hg2 hn2; have HO2 := Lib.hid ho2; have HB2 := Lib.hid (HB1.out.trans (below_of_grown hg2 HB1.out.size (fun q hq => (HO1.out.lt q hq).1))); obtain ⟨f0, f1, f2, f3, f4, f5, f6, f7⟩ := (HBX.out.below HB2.out (by omega)).marks; obtain ⟨y0, y1, y2, y3, y4, y5, y6, y7⟩ := (HBX.out.below HB2.out (by omega)).facts; obtain ⟨A2, c2, hv2, _⟩ := own_shape ho2; subst hv2; clear ho2 hg2 hn2)))
  try rw [Nat.zero_add] at HO2
  have HBX3 : Hid (B8 (w2.setCell ⟨w.heap.size, 7, none⟩ (.slice A2 (nn + 1) c2)) w.heap.size (.int .u32 (id : Int)) (.int .i64 op) (.int .i64 code) (.int .i64 off) (.int .i64 num) (.bool more) (.slice AR nr cr) (.slice A2 (nn + 1) c2)) := Lib.hid ((HBX.out.below HB2.out (by omega)).put7 _)
  have HRX3 : Hid (B8 (w2.setCell ⟨w.heap.size, 7, none⟩ (.slice A2 (nn + 1) c2)) (w.heap.size + 1) (.int .u32 0) (.int .i64 0) (.int .i64 0) (.int .i64 0) (.int .i64 0) (.bool false) (.slice none 0 0) (.slice none 0 0)) := Lib.hid ((HRX.out.below HB2.out hs1).oth (by omega))
  obtain ⟨gn, hA, hg1, hg2, hnc, hcm⟩ := own_pos HO2.out (by omega)
  subst hA
  have HNM3 : Hid ((w2.setCell ⟨w.heap.size, 7, none⟩ (.slice (some ⟨gn, 0, none⟩) (nn + 1) c2)).ownsRow W0.heap.size 9 1 (.slice (some ⟨gn, 0, none⟩) (nn + 1) c2) (nn + 1) (strs (names ++ [⟨#[47]⟩]))) := Lib.hid (by
    have := ownsRow_setCell_other HO2.out (a := ⟨w.heap.size, 7, none⟩) (fun e => by injection e with e; simp only at e; omega) (.slice (some ⟨gn, 0, none⟩) (nn + 1) c2)
    rw [strs_append]
    simpa [strs] using this)
  have HB3 : Hid (Below w.heap.size w (w2.setCell ⟨w.heap.size, 7, none⟩ (.slice (some ⟨gn, 0, none⟩) (nn + 1) c2))) := Lib.hid ((HB0.out.trans (HB2.out.mono (by omega))).setCell (Nat.le_refl _) _)
  have hgn : w.heap.size + 1 < gn := by omega
  have hsz : (w2.setCell ⟨w.heap.size, 7, none⟩ (.slice (some ⟨gn, 0, none⟩) (nn + 1) c2)).heap.size = w2.heap.size := by simp
  have hs2 := HB2.out.size
  rw [← hsz] at hs2 hg2
  have HLTn := Lib.hid hg2
  clear y0 y1 y2 y3 y4 y5 y6 y7 f0 f1 f2 f3 f4 f5 f6 f7 x0 x1 x2 x3 x4 x5 x6 x7 hsz hg2
  generalize (w2.setCell ⟨w.heap.size, 7, none⟩ (.slice (some ⟨gn, 0, none⟩) (nn + 1) c2)) = W3 at HBX3 HRX3 HNM3 HB3 hs2 HLTn ⊢
  clear HO2 HB2 HO1 HB1 HE0 HBX HRX hg1 hcm R0 HLN
  obtain ⟨x0, x1, x2, x3, x4, x5, x6, x7⟩ := HBX3.out.facts
  have HE3 : Hid ((W3.alloc (.cells #[] 43)).ownsRow W3.heap.size 43 7 (.slice (some ⟨W3.heap.size, 0, none⟩) 0 0) 0 []) := Lib.hid (World.ownsRow_made W3 #[] 0 (Nat.le_refl _) (by decide) rfl)
  have R3 := Lib.hid (HRR.out.below HB3.out)
  have hs31 : w.heap.size < W3.heap.size := by omega
  go_upto_region 5 with (first
    | (at_builtin; ((refine appR _ rfl (.tmp 18) (.tmp 20) rfl W3.heap.size _ 0 [] rfl HE3.out AR nr cr recs rfl HNR.out (R3.out.below ((Below.refl _ _).alloc (Nat.le_refl _) _)) (by omega) (by simp) ?_); intro v4 w4 ho4 hg4 hn4; have HO4 := Lib.hid ho4; have HB4 := Lib.hid (((Below.refl W3.heap.size W3).alloc (Nat.le_refl _) _).trans (below_of_grown hg4 (by simp) (fun q hq => (HE3.out.lt q hq).1))); clear ho4 hg4 hn4))
    | (at_builtin; ((refine pushR _ rfl (.tmp 21) (.tmp 23) rfl W3.heap.size _ (0 + nr) _ rfl HO4.out ⟨-77, 0, 0, 0, 0, ⟨#[]⟩, ⟨#[]⟩⟩ _ (by first | rfl | simp) rfl (by omega) HB4.out.size ?_); intro v5 w5 ho5 hg5 hn5; have HO5 := Lib.hid ho5; have HB5 := Lib.hid (HB4.out.trans (below_of_grown hg5 HB4.out.size (fun q hq => (HO4.out.lt q hq).1))); obtain ⟨f0, f1, f2, f3, f4, f5, f6, f7⟩ := (HBX3.out.below HB5.out (by omega)).marks; obtain ⟨y0, y1, y2, y3, y4, y5, y6, y7⟩ := (HBX3.out.below HB5.out (by omega)).facts; obtain ⟨A5, c5, hv5, _⟩ := own_shape ho5; subst hv5; clear ho5 hg5 hn5)))
  obtain ⟨gf, hA, hg1, hg2, hnc5, hcm⟩ := own_pos HO5.out (by omega)
  subst hA
  try rw [Nat.zero_add] at HO5
  have hne : gn ≠ gf := by have := HLTn.out; omega
  have hgf : w.heap.size + 1 < gf := by omega
  have HC5 : Hid (Cp w w5 gn c2 nn gf c5 nr names recs) := Lib.hid ⟨own_lower (own_below HNM3.out HB5.out) (by omega), own_lower (by have := HO5.out; rw [rcCells_append]; simpa [rcCells, mk77] using this) (by omega), hne, HB3.out.trans (HB5.out.mono HB3.out.size)⟩
  have hb1 : w.heap.size ≠ gn := by omega
  have hb2 : w.heap.size ≠ gf := by omega
  have HBX6 : Hid (B8 (w5.setCell ⟨w.heap.size, 6, none⟩ (.slice (some ⟨gf, 0, none⟩) (nr + 1) c5)) w.heap.size (.int .u32 (id : Int)) (.int .i64 op) (.int .i64 code) (.int .i64 off) (.int .i64 num) (.bool more) (.slice (some ⟨gf, 0, none⟩) (nr + 1) c5) (.slice (some ⟨gn, 0, none⟩) (nn + 1) c2)) := Lib.hid ((HBX3.out.below HB5.out (by omega)).put6 _)
  have HRX6 : Hid (B8 (w5.setCell ⟨w.heap.size, 6, none⟩ (.slice (some ⟨gf, 0, none⟩) (nr + 1) c5)) (w.heap.size + 1) (.int .u32 0) (.int .i64 0) (.int .i64 0) (.int .i64 0) (.int .i64 0) (.bool false) (.slice none 0 0) (.slice none 0 0)) := Lib.hid ((HRX3.out.below HB5.out (by omega)).oth (by omega))
  have HC6 : Hid (Cp w (w5.setCell ⟨w.heap.size, 6, none⟩ (.slice (some ⟨gf, 0, none⟩) (nr + 1) c5)) gn c2 nn gf c5 nr names recs) := Lib.hid (HC5.out.st hb1 hb2 (Nat.le_refl _))
  clear y0 y1 y2 y3 y4 y5 y6 y7 f0 f1 f2 f3 f4 f5 f6 f7 x0 x1 x2 x3 x4 x5 x6 x7
  generalize (w5.setCell ⟨w.heap.size, 6, none⟩ (.slice (some ⟨gf, 0, none⟩) (nr + 1) c5)) = W6 at HBX6 HRX6 HC6 ⊢
  have hnc6 := HC6.out.capR
  have hnc2 := HC6.out.capN
  have in0 : (0 : Int) ≤ (nr : Int) := by omega
  have in1 : (nr : Int) ≤ (c5 : Int) := by omega
  have in2 : (0 : Int) ≤ (nn : Int) := by omega
  have in3 : (nn : Int) ≤ (c2 : Int) := by omega
  clear hnc5 hnc HO5 HB5 HO4 HB4 HE3 R3 HBX3 HRX3 HNM3 HB3 HLTn HC5
  obtain ⟨x0, x1, x2, x3, x4, x5, x6, x7⟩ := HBX6.out.facts
  obtain ⟨f0, f1, f2, f3, f4, f5, f6, f7⟩ := HBX6.out.marks
  go_upto_region 6 with (fail)
  have HBX7 : Hid (B8 (W6.setCell ⟨w.heap.size, 7, none⟩ (.slice (some ⟨gn, 0, none⟩) nn c2)) w.heap.size (.int .u32 (id : Int)) (.int .i64 op) (.int .i64 code) (.int .i64 off) (.int .i64 num) (.bool more) (.slice (some ⟨gf, 0, none⟩) (nr + 1) c5) (.slice (some ⟨gn, 0, none⟩) nn c2)) := Lib.hid (HBX6.out.put7 _)
  have HRX7 : Hid (B8 (W6.setCell ⟨w.heap.size, 7, none⟩ (.slice (some ⟨gn, 0, none⟩) nn c2)) (w.heap.size + 1) (.int .u32 0) (.int .i64 0) (.int .i64 0) (.int .i64 0) (.int .i64 0) (.bool false) (.slice none 0 0) (.slice none 0 0)) := Lib.hid (HRX6.out.oth (by omega))
  have HC7 : Hid (Cp w (W6.setCell ⟨w.heap.size, 7, none⟩ (.slice (some ⟨gn, 0, none⟩) nn c2)) gn c2 nn gf c5 nr names recs) := Lib.hid (HC6.out.st hb1 hb2 (Nat.le_refl _))
  clear x0 x1 x2 x3 x4 x5 x6 x7 f0 f1 f2 f3 f4 f5 f6 f7 HBX6 HRX6 HC6
  generalize (W6.setCell ⟨w.heap.size, 7, none⟩ (.slice (some ⟨gn, 0, none⟩) nn c2)) = W7 at HBX7 HRX7 HC7 ⊢
  obtain ⟨x0, x1, x2, x3, x4, x5, x6, x7⟩ := HBX7.out.facts
  obtain ⟨f0, f1, f2, f3, f4, f5, f6, f7⟩ := HBX7.out.marks
  go_upto_region 7 with (fail)
  have HBX8 : Hid (B8 (W7.setCell ⟨w.heap.size, 6, none⟩ (.slice (some ⟨gf, 0, none⟩) nr c5)) w.heap.size (.int .u32 (id : Int)) (.int .i64 op) (.int .i64 code) (.int .i64 off) (.int .i64 num) (.bool more) (.slice (some ⟨gf, 0, none⟩) nr c5) (.slice (some ⟨gn, 0, none⟩) nn c2)) := Lib.hid (HBX7.out.put6 _)
  have HRX8 : Hid (B8 (W7.setCell ⟨w.heap.size, 6, none⟩ (.slice (some ⟨gf, 0, none⟩) nr c5)) (w.heap.size + 1) (.int .u32 0) (.int .i64 0) (.int .i64 0) (.int .i64 0) (.int .i64 0) (.bool false) (.slice none 0 0) (.slice none 0 0)) := Lib.hid (HRX7.out.oth (by omega))
  have HC8 : Hid (Cp w (W7.setCell ⟨w.heap.size, 6, none⟩ (.slice (some ⟨gf, 0, none⟩) nr c5)) gn c2 nn gf c5 nr names recs) := Lib.hid (HC7.out.st hb1 hb2 (Nat.le_refl _))
  clear x0 x1 x2 x3 x4 x5 x6 x7 f0 f1 f2 f3 f4 f5 f6 f7 HBX7 HRX7 HC7
  generalize (W7.setCell ⟨w.heap.size, 6, none⟩ (.slice (some ⟨gf, 0, none⟩) nr c5)) = W9 at HBX8 HRX8 HC8 ⊢
  obtain ⟨x0, x1, x2, x3, x4, x5, x6, x7⟩ := HBX8.out.facts
  obtain ⟨z0, z1, z2, z3, z4, z5, z6, z7⟩ := HRX8.out.facts
  obtain ⟨k0, k1, k2, k3, k4, k5, k6, k7⟩ := HRX8.out.marks
  go_wp2_with fail
  have HFI := Lib.hid (HRX8.out.w8 (.int .u32 (id : Int)) (.int .i64 op) (.int .i64 code) (.int .i64 off) (.int .i64 num) (.bool more) (.slice (some ⟨gf, 0, none⟩) nr c5) (.slice (some ⟨gn, 0, none⟩) nn c2))
  have HCF := HC8.out.w8 (b := w.heap.size + 1) (by omega) (by omega) (by omega) (.int .u32 (id : Int)) (.int .i64 op) (.int .i64 code) (.int .i64 off) (.int .i64 num) (.bool more) (.slice (some ⟨gf, 0, none⟩) nr c5) (.slice (some ⟨gn, 0, none⟩) nn c2)
  unfold W8 at HFI HCF
  clear x0 x1 x2 x3 x4 x5 x6 x7 z0 z1 z2 z3 z4 z5 z6 z7 k0 k1 k2 k3 k4 k5 k6 k7 HBX8 HRX8 HC8
  generalize ((((((((W9.setCell ⟨w.heap.size + 1, 0, none⟩ (.int .u32 (id : Int))).setCell ⟨w.heap.size + 1, 1, none⟩ (.int .i64 op)).setCell ⟨w.heap.size + 1, 2, none⟩ (.int .i64 code)).setCell ⟨w.heap.size + 1, 3, none⟩ (.int .i64 off)).setCell ⟨w.heap.size + 1, 4, none⟩ (.int .i64 num)).setCell ⟨w.heap.size + 1, 5, none⟩ (.bool more)).setCell ⟨w.heap.size + 1, 6, none⟩ (.slice (some ⟨gf, 0, none⟩) nr c5)).setCell ⟨w.heap.size + 1, 7, none⟩ (.slice (some ⟨gn, 0, none⟩) nn c2)) = W10 at HFI HCF ⊢
  obtain ⟨z0, z1, z2, z3, z4, z5, z6, z7⟩ := HFI.out.facts
  exact bodyPost_ret (v := .agg #[.int .u32 (id : Int), .int .i64 op, .int .i64 code, .int .i64 off, .int .i64 num, .bool more, .slice (some ⟨gf, 0, none⟩) nr c5, .slice (some ⟨gn, 0, none⟩) nn c2]) (by simp [results, Tryz.results4, go_sem, z0, z1, z2, z3, z4, z5, z6, z7]) rfl ⟨gn, c2, gf, c5, rfl, HCF⟩
end Go.Proofs.YtljfmcgeiceagaaGreat
