/- Bodies of frames, the document's way. -/
import Derived.Test.YtljfmcgeiceagaaBody
import Derived.Test.YtljfmcgeiceagaaSameR16
namespace Go.Proofs.Ytljfmcgeiceagaa
open Go Go.RowKit
set_option linter.unusedVariables false
set_option linter.unusedSimpArgs false
set_option linter.unusedSectionVars false

set_option maxHeartbeats 400000 in
set_option maxRecDepth 100000 in
theorem rbody_long (g off n c : Nat) (b : List Nat) (w : World) (hr : Rd w (some ⟨g, off, none⟩) (b8 b)) (hn : b.length = n) (hnc : n ≤ c) (hby : By b) (hl : n ≤ 140737488351232) (h9 : 9 < n) :
    Calls Try.prog 17 #[.slice (some ⟨g, off, none⟩) n c] w (FramePost w (bd b)) := by
  rw [bd_frame hby (by omega)]
  have hr9 := rd_rest (p := 9) hr
  have hl9 : (b.drop 9).length = n - 9 := by simp only [List.length_drop]; omega
  have hb9 : By (b.drop 9) := by_drop hby 9
  have bx := (Below.refl w.heap.size w).alloc (Nat.le_refl _) (.cells #[] 5)
  have HR1 := Lib.hid (hr9.below bx)
  have HR0 := Lib.hid hr
  have BX := Lib.hid bx
  have HO0 := Lib.hid (own_lit w w.heap.size [] 5 0 (Nat.le_refl _) (by decide) rfl)
  have PF := Lib.hid (fun A c W (h : Rd W A (b8 (b.drop 9))) => rframe_is A (n - 9) c (b.drop 9) W h hl9 hb9 (by omega))
  unfold FramePost at PF
  have HB := Lib.hid hn
  have HL9 := Lib.hid hl9
  have hfl : (frm (b.drop 9)).1.length ≤ 140737488355328 := by
    unfold frm
    split
    · simp
    split
    · simp
    · rw [wrap_length, hl9]; omega
  obtain ⟨body, hbody⟩ : ∃ body, body = b.drop 9 := ⟨_, rfl⟩
  rw [← hbody] at PF HR1 HL9 hfl ⊢
  obtain ⟨q, hq⟩ : ∃ q, q = frm body := ⟨_, rfl⟩
  rw [← hq] at PF hfl ⊢
  have hg : g < w.heap.size := (by obtain ⟨g', off', e, hg', _⟩ := hr (by rintro e; have : b = [] := (by simpa [b8] using e); subst this; simp at hn; omega); injection e with e; injection e with e1; exact e1 ▸ hg')
  have hc9 : ¬ c = 9 := by omega
  have h9i : ¬ ((n : Int) ≤ 9) := by omega
  have h9n : ¬ (n ≤ 9) := by omega
  clear hr hn hby hr9 hl9 hb9 bx hbody hq
  by_cases hq2 : q.2 = 0
  · have PS := Lib.hid (fun A c' W (h1 : Rd W A (b8 q.1)) (h2 : Rd W (some ⟨g, off, none⟩) (b8 b)) => r16same_any A (some ⟨g, off, none⟩) q.1.length n c' c q.1 b W h1 h2 rfl HB.out hfl (by omega))
    have PFin : Hid ((if q = (b, 0) then (body, (0 : Int)) else ([], 160)) = if r16sameB q.1 b then (body, 0) else ([], 160)) := by
      refine Lib.hid ?_
      obtain ⟨q1, q2⟩ := q
      simp only at hq2
      subst hq2
      simp only [r16sameB, Prod.mk.injEq, and_true, decide_eq_true_eq]
    obtain ⟨fs, fe⟩ := q
    simp only at hq2 PF PS PFin hfl
    subst hq2
    rw [PFin.out]
    unfold r16Looks at PS
    obtain ⟨sb, hsb⟩ : ∃ sb, sb = r16sameB fs b := ⟨_, rfl⟩
    rw [← hsb] at PS ⊢
    obtain ⟨qq, hqq⟩ : ∃ qq : List Nat × Int, qq = if sb then (body, 0) else ([], 160) := ⟨_, rfl⟩
    rw [← hqq]
    have HQQ := Lib.hid hqq
    clear PFin hsb hqq
    go_enter Try.func17, Try.ntmps17
    go_wp2_with (at_builtin; (refine app8 _ rfl (.tmp 10) (.tmp 12) rfl w.heap.size _ 0 [] rfl HO0.out (some ⟨g, off + 9, none⟩) (n - 9) (c - 9) body rfl HL9.out HR1.out (by omega) (by simp) ?_); intro v' w1 ho hg1 hn1; (rw [Nat.zero_add] at ho); obtain ⟨A1, c1, rfl, _⟩ := own_shape ho; have HO := Lib.hid ho; have B1 := Lib.hid (BX.out.trans (below_of_grown hg1 BX.out.size (fun k hk => (HO0.out.lt k hk).1))); clear ho hg1 hn1)
    refine (PF.out A1 c1 w1 (rd_own HO.out)).mono ?_
    rintro e w2 ⟨A2, c2, rfl, ho2, hb2⟩
    have HO2 := Lib.hid ho2
    have HO1 := Lib.hid (own_below HO.out hb2)
    have B2 := Lib.hid (B1.out.trans (hb2.mono B1.out.size))
    clear ho2 hb2
    go_wp2_with fail
    refine (PS.out A2 c2 w2 (rd_own HO2.out) (HR0.out.below B2.out)).mono ?_
    rintro e w3 ⟨rfl, m, rfl⟩
    cases sb with
    | true =>
      go_wp2_with fail
      go_ret2
      have hqq : qq = (body, 0) := HQQ.out
      rw [hqq]
      refine ⟨A1, c1, by simp only [HL9.out]; rfl, ?_, below_drewN B2.out m⟩
      simp only [HL9.out]
      exact own_below HO1.out (below_drewN (Below.refl _ _) m)
    | false =>
      go_wp2_with fail
      go_ret2
      have hqq : qq = ([], 160) := HQQ.out
      rw [hqq]
      exact ⟨none, 0, rfl, World.ownsRow_nil _ _ _ _, below_drewN B2.out m⟩
  · have hqn : ¬ q = (b, 0) := by rintro rfl; exact hq2 rfl
    rw [if_neg hqn]
    have hqb : (q.2 != 0) = true := by rw [bne_iff_ne]; exact hq2
    go_enter Try.func17, Try.ntmps17
    go_wp2_with (at_builtin; (refine app8 _ rfl (.tmp 10) (.tmp 12) rfl w.heap.size _ 0 [] rfl HO0.out (some ⟨g, off + 9, none⟩) (n - 9) (c - 9) body rfl HL9.out HR1.out (by omega) (by simp) ?_); intro v' w1 ho hg1 hn1; (rw [Nat.zero_add] at ho); obtain ⟨A1, c1, rfl, _⟩ := own_shape ho; have HO := Lib.hid ho; have B1 := Lib.hid (BX.out.trans (below_of_grown hg1 BX.out.size (fun k hk => (HO0.out.lt k hk).1))); clear ho hg1 hn1)
    refine (PF.out A1 c1 w1 (rd_own HO.out)).mono ?_
    rintro e w2 ⟨A2, c2, rfl, ho2, hb2⟩
    have B2 := Lib.hid (B1.out.trans (hb2.mono B1.out.size))
    clear ho2 hb2
    go_wp2_with fail
    go_ret2
    exact ⟨none, 0, rfl, World.ownsRow_nil _ _ _ _, B2.out⟩

set_option maxRecDepth 100000 in
theorem rbody_is (A : Option Addr) (n c : Nat) (b : List Nat) (w : World) (hr : Rd w A (b8 b)) (hn : b.length = n) (hnc : n ≤ c) (hby : By b) (hl : n ≤ 140737488351232) :
    Calls Try.prog 17 #[.slice A n c] w (FramePost w (bd b)) := by
  by_cases h9 : 9 < n
  · obtain ⟨g, off, rfl, _, _⟩ := hr.some_ (by omega)
    exact rbody_long g off n c b w hr hn hnc hby hl h9
  · rw [bd_short (by omega)]
    clear hr hn hby
    go_enter Try.func17, Try.ntmps17
    go_wp2
    go_ret2
    exact ⟨none, 0, rfl, World.ownsRow_nil _ _ _ _, Below.refl _ _⟩
end Go.Proofs.Ytljfmcgeiceagaa
