/- Bodies of frames. -/
import Derived.Test.YtljfmcgeiceagaaHead
import Derived.Test.YtljfmcgeiceagaaOctSame
namespace Go.Proofs.Ytljfmcgeiceagaa
open Go Go.RowKit
set_option linter.unusedVariables false
set_option linter.unusedSimpArgs false
set_option linter.unusedSectionVars false

theorem Rs.take_ok {s : Rs} (h0 : s.err = 0) {k : Nat} (hk : k ≤ s.rest) : s.take (k : Int) = ((s.bs.drop s.p).take k, s.go k) := by
  unfold Rs.take
  rw [if_neg (by simp [h0]), if_neg (by omega), if_neg (by omega), show ((k : Int)).toNat = k by omega]

/-- A frame's body. -/
def bd (b : List Nat) : List Nat × Int :=
  if (hd b).2 ≠ 0 ∨ (hd b).1 ≠ (b.length : Int) then ([], 160) else
  if val ((b.drop 5).take 4) = Crc.ext (Crc.ext 0 ((b.drop 1).take 4)) (b.drop 9) then (b.drop 9, 0) else ([], 160)
theorem hd_good {b : List Nat} (h : ¬ ((hd b).2 ≠ 0 ∨ (hd b).1 ≠ (b.length : Int))) : b.headD 0 = 197 ∧ 10 ≤ b.length ∧ b.length ≤ 4096 ∧ hd b = ((b.length : Int), 0) ∧ val ((b.drop 1).take 4) = b.length - 9 := by
  have h2 : (hd b).2 = 0 := Classical.byContradiction fun e => h (.inl e)
  have h1 : (hd b).1 = (b.length : Int) := Classical.byContradiction fun e => h (.inr e)
  have he : hd b = ((b.length : Int), 0) := Prod.ext h1 h2
  unfold hd at h1 h2
  split at h1
  · rename_i hc
    rw [if_pos hc] at h2
    cases h2
  · rename_i hc
    rw [if_neg hc] at h2
    split at h1
    · rename_i hd
      rw [if_pos hd] at h2
      cases h2
    · rename_i hd
      rw [if_neg hd] at h2
      split at h1
      · rename_i h0
        rw [if_pos h0] at h2
        cases h2
      · rename_i h0
        rw [if_neg h0] at h2
        split at h1
        · rename_i h3
          rw [if_pos h3] at h2
          cases h2
        · rename_i h3
          simp only at h1
          refine ⟨?_, by omega, by omega, he, by omega⟩
          apply Classical.byContradiction
          intro hm
          exact hc ⟨by omega, hm⟩

set_option maxHeartbeats 400000 in
set_option maxRecDepth 100000 in
theorem body_good (g off n c : Nat) (b : List Nat) (w : World) (hr : Rd w (some ⟨g, off, none⟩) (b8 b)) (hn : b.length = n) (hnc : n ≤ c) (hby : By b)
    (h10 : 10 ≤ n) (h4096 : n ≤ 4096) (hhd : hd b = ((n : Int), 0)) (q : List Nat × Int)
    (hq : q = if val ((b.drop 5).take 4) = Crc.ext (Crc.ext 0 ((b.drop 1).take 4)) (b.drop 9) then (b.drop 9, 0) else ([], 160)) :
    Calls Try.prog 15 #[.slice (some ⟨g, off, none⟩) n c] w (FramePost w q) := by
  have P0 := Lib.hid (head_is (some ⟨g, off, none⟩) n c b w hr hn hnc hby (by omega))
  unfold HeadPost at P0
  rw [hhd] at P0
  have hr5 := rd_rest (p := 5) hr
  have hr1 := rd_sub (p := 1) (k := 4) hr
  have hl5 : (b.drop 5).length = n - 5 := by simp only [List.length_drop]; omega
  have hb5 : By (b.drop 5) := by_drop hby 5
  have hl1 : ((b.drop 1).take 4).length = 4 := by simp only [List.length_take, List.length_drop]; omega
  have hb1 : By ((b.drop 1).take 4) := fun x hx => hby x (List.mem_of_mem_drop (List.mem_of_mem_take hx))
  have hl9 : (b.drop 9).length = n - 9 := by simp only [List.length_drop]; omega
  have hb9 : By (b.drop 9) := by_drop hby 9
  have PN := Lib.hid (fun W (hW : Below w.heap.size w W) => newReader_is (some ⟨g, off + 5, none⟩) (n - 5) (c - 5) (b.drop 5) W (hr5.below hW) hl5 hb5 (by omega))
  unfold Newed at PN
  have PS := Lib.hid (fun W (hW : Below w.heap.size w W) => sum_any (some ⟨g, off + 1, none⟩) 4 (c - 1) ((b.drop 1).take 4) W (hr1.below hW) hb1 hl1 (by omega))
  have hel := ext0_lt hb1
  have PE := Lib.hid (fun A c W (h : Rd W A (b8 (b.drop 9))) => extend_any (Crc.ext 0 ((b.drop 1).take 4)) A (b.drop 9).length c (b.drop 9) W hel h hb9 rfl (by omega))
  have t1 : (⟨b.drop 5, 0, 0, 0⟩ : Rs).take 4 = ((b.drop 5).take 4, ⟨b.drop 5, 4, 0, 0⟩) := by
    have := Rs.take_ok (s := ⟨b.drop 5, 0, 0, 0⟩) rfl (k := 4) (by simp only [Rs.rest]; omega)
    simpa [Rs.go] using this
  have t2 : (⟨b.drop 5, 4, 0, 0⟩ : Rs).take ((n : Int) - 9) = (b.drop 9, ⟨b.drop 5, 4 + (n - 9), 0, 0⟩) := by
    have := Rs.take_ok (s := ⟨b.drop 5, 4, 0, 0⟩) rfl (k := n - 9) (by simp only [Rs.rest]; omega)
    rw [show ((n - 9 : Nat) : Int) = (n : Int) - 9 by omega] at this
    rw [this]
    simp only [Rs.go, List.drop_drop]
    rw [List.take_of_length_le (by rw [List.length_drop]; omega)]
  have PU := Lib.hid (fun B W g v (h : Rdr B W 87 Rs.cells g v ⟨b.drop 5, 0, 0, 0⟩) => u32_r B g v _ W h)
  rw [t1] at PU
  unfold Gave at PU
  have PR := Lib.hid (fun B W g v (h : Rdr B W 87 Rs.cells g v ⟨b.drop 5, 4, 0, 0⟩) => raw_r B g v _ ((n : Int) - 9) W h)
  rw [t2] at PR
  unfold Rawed at PR
  simp only at PU PR
  obtain ⟨S, hS⟩ : ∃ S, S = val ((b.drop 5).take 4) := ⟨_, rfl⟩
  obtain ⟨z, hz⟩ : ∃ z, z = Crc.ext (Crc.ext 0 ((b.drop 1).take 4)) (b.drop 9) := ⟨_, rfl⟩
  obtain ⟨y, hy⟩ : ∃ y, y = Crc.ext 0 ((b.drop 1).take 4) := ⟨_, rfl⟩
  rw [← hz] at PE hq
  rw [← hy] at PS PE
  rw [← hS] at PU hq
  obtain ⟨bs, hbs⟩ : ∃ bs, bs = b.drop 9 := ⟨_, rfl⟩
  rw [← hbs] at PE PR hl9 hq
  have HQ := Lib.hid hq
  have HL9 := Lib.hid hl9
  have hg : g < w.heap.size := (by obtain ⟨g', off', e, hg', _⟩ := hr (by rintro e; have : b = [] := (by simpa [b8] using e); subst this; simp at hn; omega); injection e with e; injection e with e1; exact e1 ▸ hg')
  have hc5 : ¬ c = 5 := by omega
  have hc1 : ¬ c = 1 := by omega
  clear hr hn hby hhd hr5 hr1 hl5 hb5 hl1 hb1 hl9 hb9 hel t1 t2 hS hz hy hbs hq
  by_cases hSz : S = z
  · have e1 : ((S : Int) != (z : Int)) = false := by rw [hSz]; simp
    go_enter Try.func15, Try.ntmps15
    go_wp2_with fail
    refine P0.out.mono ?_
    rintro e w1 ⟨rfl, hb1⟩
    have B1 := Lib.hid hb1
    clear hb1
    go_wp2_with fail
    refine (PN.out w1 B1.out).mono ?_
    rintro e w2 ⟨g2, v2, rfl, hr2, hb2⟩
    have HR2 := Lib.hid hr2
    have B2 := Lib.hid (B1.out.trans (hb2.mono B1.out.size))
    have es2 := hb2.size
    clear hr2 hb2
    go_wp2_with fail
    refine (PU.out _ w2 g2 v2 HR2.out).mono ?_
    rintro e w3 ⟨rfl, ht⟩
    have HR3 := Lib.hid ht.rd
    have B3 := Lib.hid (B2.out.trans ((ht.low es2).mono B1.out.size))
    have es3 := Nat.le_trans es2 ht.kept.size
    clear ht
    go_wp2_with fail
    refine (PR.out _ w3 g2 v2 HR3.out).mono ?_
    rintro e w4 ⟨A4, c4, rfl, ho4, ht⟩
    have HO4 := Lib.hid ho4
    have B4 := Lib.hid (B3.out.trans ((ht.low es3).mono B1.out.size))
    have es4 := ht.kept.size
    clear ht ho4
    go_wp2_with fail
    refine (PS.out w4 B4.out).mono ?_
    rintro e w5 ⟨rfl, hb5⟩
    have HO5 := Lib.hid (own_below HO4.out hb5)
    have B5 := Lib.hid (B4.out.trans (hb5.mono B4.out.size))
    clear hb5
    go_wp2_with fail
    refine (PE.out A4 c4 w5 (rd_own HO5.out)).mono ?_
    rintro e w6 ⟨rfl, hb6⟩
    have HO6 := Lib.hid (own_below HO5.out hb6)
    have B6 := Lib.hid (B5.out.trans (hb6.mono B5.out.size))
    clear hb6
    go_wp2_with fail
    go_ret2
    have hq := HQ.out
    rw [if_pos hSz] at hq
    rw [hq]
    exact ⟨A4, c4, rfl, own_lower HO6.out B3.out.size, B6.out⟩
  · have e1 : ((S : Int) != (z : Int)) = true := by rw [bne_iff_ne]; omega
    go_enter Try.func15, Try.ntmps15
    go_wp2_with fail
    refine P0.out.mono ?_
    rintro e w1 ⟨rfl, hb1⟩
    have B1 := Lib.hid hb1
    clear hb1
    go_wp2_with fail
    refine (PN.out w1 B1.out).mono ?_
    rintro e w2 ⟨g2, v2, rfl, hr2, hb2⟩
    have HR2 := Lib.hid hr2
    have B2 := Lib.hid (B1.out.trans (hb2.mono B1.out.size))
    have es2 := hb2.size
    clear hr2 hb2
    go_wp2_with fail
    refine (PU.out _ w2 g2 v2 HR2.out).mono ?_
    rintro e w3 ⟨rfl, ht⟩
    have HR3 := Lib.hid ht.rd
    have B3 := Lib.hid (B2.out.trans ((ht.low es2).mono B1.out.size))
    have es3 := Nat.le_trans es2 ht.kept.size
    clear ht
    go_wp2_with fail
    refine (PR.out _ w3 g2 v2 HR3.out).mono ?_
    rintro e w4 ⟨A4, c4, rfl, ho4, ht⟩
    have HO4 := Lib.hid ho4
    have B4 := Lib.hid (B3.out.trans ((ht.low es3).mono B1.out.size))
    have es4 := ht.kept.size
    clear ht ho4
    go_wp2_with fail
    refine (PS.out w4 B4.out).mono ?_
    rintro e w5 ⟨rfl, hb5⟩
    have HO5 := Lib.hid (own_below HO4.out hb5)
    have B5 := Lib.hid (B4.out.trans (hb5.mono B4.out.size))
    clear hb5
    go_wp2_with fail
    refine (PE.out A4 c4 w5 (rd_own HO5.out)).mono ?_
    rintro e w6 ⟨rfl, hb6⟩
    have HO6 := Lib.hid (own_below HO5.out hb6)
    have B6 := Lib.hid (B5.out.trans (hb6.mono B5.out.size))
    clear hb6
    go_wp2_with fail
    go_ret2
    have hq := HQ.out
    rw [if_neg hSz] at hq
    rw [hq]
    exact ⟨none, 0, rfl, World.ownsRow_nil _ _ _ _, B6.out⟩

set_option maxRecDepth 100000 in
theorem body_is (A : Option Addr) (n c : Nat) (b : List Nat) (w : World) (hr : Rd w A (b8 b)) (hn : b.length = n) (hnc : n ≤ c) (hby : By b) (hl : n ≤ 140737488355328) :
    Calls Try.prog 15 #[.slice A n c] w (FramePost w (bd b)) := by
  unfold bd
  by_cases h : (hd b).2 ≠ 0 ∨ (hd b).1 ≠ (b.length : Int)
  · rw [if_pos h]
    rw [hn] at h
    have P0 := Lib.hid (head_is A n c b w hr hn hnc hby hl)
    unfold HeadPost at P0
    obtain ⟨x, y⟩ : ∃ q, q = hd b := ⟨_, rfl⟩
    rw [← y] at P0 h
    obtain ⟨x1, x2⟩ := x
    simp only at P0 h
    clear hr hn hby y
    by_cases h2 : x2 = 0
    · subst h2
      have hx1 : x1 ≠ (n : Int) := by rcases h with h | h; exact absurd rfl h; exact h
      have hb1 : (x1 != (n : Int)) = true := by rw [bne_iff_ne]; exact hx1
      go_enter Try.func15, Try.ntmps15
      go_wp2_with fail
      refine P0.out.mono ?_
      rintro e w1 ⟨rfl, hb1⟩
      have B1 := Lib.hid hb1
      clear hb1
      go_wp2_with fail
      go_ret2
      exact ⟨none, 0, rfl, World.ownsRow_nil _ _ _ _, B1.out⟩
    · have hb2 : (x2 != 0) = true := by rw [bne_iff_ne]; exact h2
      go_enter Try.func15, Try.ntmps15
      go_wp2_with fail
      refine P0.out.mono ?_
      rintro e w1 ⟨rfl, hb1⟩
      have B1 := Lib.hid hb1
      clear hb1
      go_wp2_with fail
      go_ret2
      exact ⟨none, 0, rfl, World.ownsRow_nil _ _ _ _, B1.out⟩
  · rw [if_neg h]
    obtain ⟨_, h10, h4, hh, _⟩ := hd_good h
    obtain ⟨g, off, rfl, _, _⟩ := hr.some_ (by omega)
    exact body_good g off n c b w hr hn hnc hby (by omega) (by omega) (by rw [hh, hn]) _ rfl

theorem split9 {b : List Nat} (h : 9 ≤ b.length) : b = [b.headD 0] ++ (b.drop 1).take 4 ++ (b.drop 5).take 4 ++ b.drop 9 := by
  cases b with
  | nil => simp at h
  | cons x r =>
    have e1 : r = r.take 4 ++ r.drop 4 := (List.take_append_drop 4 r).symm
    have e2 : r.drop 4 = (r.drop 4).take 4 ++ (r.drop 4).drop 4 := (List.take_append_drop 4 _).symm
    simp only [List.headD_cons, List.drop_succ_cons, List.drop_zero, List.cons_append, List.nil_append, List.cons.injEq, true_and, List.append_assoc]
    rw [List.drop_drop] at e2
    rw [← e2]
    exact e1
theorem wrap_parts (m : Nat) (body : List Nat) : (wrap m body).headD 0 = m ∧ ((wrap m body).drop 1).take 4 = fx body.length 4 ∧ ((wrap m body).drop 5).take 4 = fx (crcOf body) 4 ∧ (wrap m body).drop 9 = body := by
  have h1 := fx_length 4 body.length
  have h2 := fx_length 4 (crcOf body)
  unfold wrap
  refine ⟨by simp, ?_, ?_, ?_⟩
  · simp only [List.cons_append, List.nil_append, List.append_assoc, List.drop_succ_cons, List.drop_zero]
    rw [List.take_left' h1]
  · simp only [List.cons_append, List.nil_append, List.append_assoc, List.drop_succ_cons]
    rw [List.drop_left' h1, List.take_left' h2]
  · simp only [List.cons_append, List.nil_append, List.append_assoc, List.drop_succ_cons]
    rw [← List.append_assoc, List.drop_left' (by rw [List.length_append, h1, h2])]
theorem hd_wrap {body : List Nat} (h1 : 0 < body.length) (h2 : body.length ≤ 4087) : hd (wrap 197 body) = (((wrap 197 body).length : Int), 0) := by
  obtain ⟨p0, p1, _, _⟩ := wrap_parts 197 body
  have hl := wrap_length 197 body
  unfold hd
  rw [p0, p1, val_fx (by omega), hl]
  rw [if_neg (by rintro ⟨_, h⟩; exact h rfl), if_neg (by omega), if_neg (by omega), if_neg (by omega)]
  simp
  omega
/-- What is taken is just a frame. -/
theorem bd_frame {b : List Nat} (hb : By b) (h : 9 < b.length) : bd b = if frm (b.drop 9) = (b, 0) then (b.drop 9, 0) else ([], 160) := by
  have hl9 : (b.drop 9).length = b.length - 9 := by simp
  by_cases hf : frm (b.drop 9) = (b, 0)
  · rw [if_pos hf]
    unfold frm at hf
    rw [if_neg (by omega)] at hf
    by_cases h3 : 4087 < (b.drop 9).length
    · rw [if_pos h3] at hf
      injection hf with _ e
      cases e
    · rw [if_neg h3] at hf
      injection hf with hw _
      obtain ⟨p0, p1, p2, p3⟩ := wrap_parts 197 (b.drop 9)
      have hh := hd_wrap (body := b.drop 9) (by omega) (by omega)
      rw [hw] at p0 p1 p2 hh
      unfold bd
      rw [hh, if_neg (by simp)]
      rw [p1, p2, val_fx (crcOf_lt (by_drop hb 9))]
      exact if_pos rfl
  · rw [if_neg hf]
    unfold bd
    by_cases hg : (hd b).2 ≠ 0 ∨ (hd b).1 ≠ (b.length : Int)
    · rw [if_pos hg]
    · rw [if_neg hg]
      obtain ⟨g0, g1, g2, _, g3⟩ := hd_good hg
      rw [if_neg]
      intro hs
      apply hf
      have hb1 : By ((b.drop 1).take 4) := fun x hx => hb x (List.mem_of_mem_drop (List.mem_of_mem_take hx))
      have hb5 : By ((b.drop 5).take 4) := fun x hx => hb x (List.mem_of_mem_drop (List.mem_of_mem_take hx))
      have q1 := fx_val hb1 (by simp only [List.length_take, List.length_drop]; omega)
      have q5 := fx_val hb5 (by simp only [List.length_take, List.length_drop]; omega)
      rw [g3, ← hl9] at q1
      have hc : crcOf (b.drop 9) = val ((b.drop 5).take 4) := by rw [hs, crcOf, q1]
      unfold frm
      rw [if_neg (by omega), if_neg (by omega)]
      have := split9 (b := b) (by omega)
      rw [g0, ← q1, ← q5, ← hc] at this
      rw [← show wrap 197 (b.drop 9) = [197] ++ fx (b.drop 9).length 4 ++ fx (crcOf (b.drop 9)) 4 ++ b.drop 9 from rfl] at this
      rw [← this]
theorem bd_short {b : List Nat} (h : b.length ≤ 9) : bd b = ([], 160) := by
  unfold bd
  rw [if_pos]
  apply Classical.byContradiction
  intro hg
  have := (hd_good hg).2.1
  omega
end Go.Proofs.Ytljfmcgeiceagaa
