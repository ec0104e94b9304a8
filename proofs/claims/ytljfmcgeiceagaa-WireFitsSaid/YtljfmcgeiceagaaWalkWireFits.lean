/- The walk of WireFits. -/
import Derived.Test.YtljfmcgeiceagaaWiFits4
namespace Go.Proofs.Ytljfmcgeiceagaa
open Go Go.RowKit
set_option linter.unusedVariables false
set_option linter.unusedSimpArgs false

theorem run_field6 (A B : Option Addr) (n d m e : Nat) (W : World) : (Instr.field 37 (.agg #[.int .u32 0, .int .i64 0, .int .i64 0, .int .i64 0, .int .i64 0, .bool false, .slice A n d, .slice B m e]) 6).run Try.prog W = .ok (.slice A n d) W := by kernel_rfl
set_option maxHeartbeats 4000000 in
set_option maxRecDepth 100000 in
theorem wireFits_walk (A0 : Option Addr) (c0 : Nat) (b0 : List Rc) (w : World) (c0l : b0.length ≤ c0) (r0 : Rd w A0 (rcCells b0)) (y0 : ∀ x ∈ b0, x.Ok) (l0 : b0.length * 72 ≤ 140737488351232) :
    Calls Try.prog 5 #[.slice A0 b0.length c0] w fun e w' => e = .returned (.bool true) ∧ Below w.heap.size w w' := by
  obtain ⟨n, hn⟩ : ∃ n, n = b0.length := ⟨_, rfl⟩
  rw [← hn] at l0 ⊢
  have HN := Lib.hid hn.symm
  have HR := Lib.hid r0
  have HV := Lib.hid (fun x hx => (y0 x hx).val)
  have PC := copied0_is A0 n c0 b0 w r0 hn.symm (by omega)
  unfold rsV at PC
  have PC' := Lib.hid PC
  have hl : n ≤ 1954687338211 := by omega
  clear c0l r0 y0 l0 hn PC
  go_enter Try.func5, Try.ntmps5
  go_wp2_with fail
  refine PC'.out.mono ?_
  rintro e w1 ⟨gf, d, gn, dn, rfl, hf, hm, hne⟩
  have HF := Lib.hid hf
  have HM := Lib.hid hm
  have hgf : gf < w1.heap.size := (hf.f.lt gf rfl).2
  have hgn : gn < w1.heap.size := hm.lt
  have hs1 : w.heap.size ≤ w1.heap.size := hf.sz
  clear hf hm PC'
  go_upto_region 2 with (fail)
  have hbe : Below w1.heap.size w1 (w1.alloc (boxObj (.slice (some ⟨gf, 0, none⟩) n d) (.slice (some ⟨gn, 0, none⟩) 0 dn))) := (Below.refl _ _).alloc (Nat.le_refl _) _
  have hg1 : w1.heap.size ≠ gf := by omega
  have hg2 : w1.heap.size ≠ gn := by omega
  have HXN := Lib.hid (RBx.new w1 (.slice (some ⟨gf, 0, none⟩) n d) (.slice (some ⟨gn, 0, none⟩) 0 dn))
  have HF1 := Lib.hid (HF.out.below hbe)
  have HM1 := Lib.hid (HM.out.below hbe)
  unfold boxObj at HF1 HM1
  clear hbe HF HM
  generalize (w1.alloc (.cells #[.int .u32 0, .int .i64 0, .int .i64 0, .int .i64 0, .int .i64 0, .bool false, .slice (some ⟨gf, 0, none⟩) n d, .slice (some ⟨gn, 0, none⟩) 0 dn] 37)) = W1 at HXN HF1 HM1 ⊢
  obtain ⟨gc, hgc⟩ : ∃ gc, gc = w1.heap.size := ⟨_, rfl⟩
  rw [← hgc] at HXN hg1 hg2 hgf hgn hs1 ⊢
  clear hgc
  have PM := moved0_is gf d gn dn n b0 w W1 HF1.out HM1.out HN.out hl hne HV.out
  unfold rsV at PM
  have PM' := Lib.hid PM
  clear PM
  obtain ⟨x0, x1, x2, x3, x4, x5, x6, x7⟩ := HXN.out.facts
  go_wp2_with fail
  refine PM'.out.mono ?_
  rintro e w2 ⟨rfl, hf2, hm2, hgr2⟩
  have HX2 := Lib.hid (HXN.out.grown hgr2 (fun e => hg1 (by injection e)))
  have HF2 := Lib.hid hf2
  have HM2 := Lib.hid hm2
  clear hf2 hm2 hgr2 PM' x0 x1 x2 x3 x4 x5 x6 x7 HXN HF1 HM1
  have hfl := run_field6 (some ⟨gf, 0, none⟩) (some ⟨gn, 0, none⟩) n d 0 dn w2
  have PF := Lib.hid (fits_is (some ⟨gf, 0, none⟩) n d (b0.map mvx) w2 (HF2.out.rf (by rw [List.length_map, HN.out])) (by rw [List.length_map, HN.out]) (by omega))
  go_wp2_with fail
  refine PF.out.mono ?_
  rintro e w3 ⟨rfl, hb3⟩
  have HX3 := Lib.hid (HX2.out.below hb3 HX2.out.lt)
  have HF3 := Lib.hid (HF2.out.below hb3)
  have HM3 := Lib.hid (HM2.out.below hb3)
  clear hb3 PF HX2 HF2 HM2 hfl
  have PB := back0_is gf d gn dn n c0 A0 (b0.map mvx) b0 w w3 HF3.out HM3.out HR.out (by rw [List.length_map, HN.out]) HN.out hl hne
  unfold rsV at PB
  have PB' := Lib.hid PB
  clear PB
  obtain ⟨x0, x1, x2, x3, x4, x5, x6, x7⟩ := HX3.out.facts
  go_wp2_with fail
  refine PB'.out.mono ?_
  rintro e w4 ⟨rfl, hf4, hm4, hgr4⟩
  have HX4 := Lib.hid (HX3.out.grown hgr4 (fun e => hg1 (by injection e)))
  have HF4 := Lib.hid hf4
  have HM4 := Lib.hid hm4
  clear hf4 hm4 hgr4 PB' x0 x1 x2 x3 x4 x5 x6 x7 HX3 HF3 HM3
  have PF := Lib.hid (fits_is (some ⟨gf, 0, none⟩) n d b0 w4 (HF4.out.rf HN.out) HN.out (by omega))
  obtain ⟨F, hF⟩ : ∃ F, F = ftN b0 4051 := ⟨_, rfl⟩
  rw [← hF] at PF
  have HFF := Lib.hid hF.symm
  obtain ⟨x0, x1, x2, x3, x4, x5, x6, x7⟩ := HX4.out.facts
  clear hF
  go_wp2_with fail
  refine PF.out.mono ?_
  rintro e w5 ⟨rfl, hb5⟩
  have HX5 := Lib.hid (HX4.out.below hb5 HX4.out.lt)
  have HF5 := Lib.hid (HF4.out.below hb5)
  have HM5 := Lib.hid (HM4.out.below hb5)
  clear hb5 PF HX4 HF4 HM4 x0 x1 x2 x3 x4 x5 x6 x7
  have PR := rfits_is A0 n c0 b0 w5 (HR.out.below HF5.out.be) HN.out (by omega)
  rw [HFF.out] at PR
  have PR' := Lib.hid PR
  clear PR
  go_wp2_with fail
  refine PR'.out.mono ?_
  rintro e w6 ⟨rfl, hb6⟩
  have HX6 := Lib.hid (HX5.out.below hb6 HX5.out.lt)
  have HF6 := Lib.hid (HF5.out.below hb6)
  have HM6 := Lib.hid (HM5.out.below hb6)
  clear hb6 PR' HX5 HF5 HM5
  have PK := kept0_is gf d gn dn n c0 A0 b0 w w6 HF6.out HM6.out (HR.out.below HF6.out.be) HN.out hl
  unfold rsV at PK
  have PK' := Lib.hid PK
  clear PK
  have hFb : ((F : Int) == (F : Int)) = true := by simp
  obtain ⟨x0, x1, x2, x3, x4, x5, x6, x7⟩ := HX6.out.facts
  go_wp2_with fail
  refine PK'.out.mono ?_
  rintro e w7 ⟨rfl, hb7⟩
  have HB7 := Lib.hid (HF6.out.be.trans (hb7.mono HF6.out.sz))
  clear hb7 PK' x0 x1 x2 x3 x4 x5 x6 x7
  go_wp2_with fail
  go_ret
  exact ⟨by first | rfl | simp, HB7.out⟩
end Go.Proofs.Ytljfmcgeiceagaa
