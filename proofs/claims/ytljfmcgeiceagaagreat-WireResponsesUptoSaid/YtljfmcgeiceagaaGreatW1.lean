/- Several texts in one: Frm, Head, Body, SameR16, RBody. -/
import Derived.Test.YtljfmcgeiceagaaGreatX2
import Derived.Test.YtljfmcgeiceagaaGreatF1
/- Frames. -/
namespace Go.Proofs.YtljfmcgeiceagaaGreat
open Go Go.RowKit
set_option linter.unusedVariables false
set_option linter.unusedSimpArgs false

/-- The frame of a body. -/
def frm (body : List Nat) : List Nat × Int := if body.length = 0 then ([], 160) else if 4087 < body.length then ([], 163) else (wrap 197 body, 0)
def FramePost (w : World) (q : List Nat × Int) (e : Ending) (w' : World) : Prop :=
  ∃ A c, e = .returned (.tuple #[.slice A q.1.length c, .int .i64 q.2]) ∧ w'.ownsRow w.heap.size 5 1 (.slice A q.1.length c) q.1.length (b8 q.1) ∧ Below w.heap.size w w'

section
variable (A : Option Addr) (n c : Nat) (body : List Nat) (w : World) (hr : Rd w A (b8 body)) (hn : body.length = n) (hby : By body)
include hr hn hby
set_option maxHeartbeats 400000 in
set_option maxRecDepth 100000 in
theorem frame_yes (h1 : 0 < n) (h2 : n ≤ 4087) :
    Calls Tryz.prog 87 #[.slice A n c] w (FramePost w (wrap 197 body, 0)) := by
  have HN := Lib.hid hn
  have HY := Lib.hid hby
  have HR := Lib.hid hr
  have hcl := crcOf_lt hby
  have hel := ext0_lt (fx_by 4 body.length)
  have HC : Hid (crcOf body = Crc.ext (Crc.ext 0 (fx body.length 4)) body) := Lib.hid rfl
  obtain ⟨z, hz⟩ : ∃ z, z = crcOf body := ⟨_, rfl⟩
  obtain ⟨y, hy⟩ : ∃ y, y = Crc.ext 0 (fx body.length 4) := ⟨_, rfl⟩
  rw [← hz] at hcl HC
  rw [← hy] at hel HC
  have HZ := Lib.hid hz
  have HE : Hid (Crc.ext 0 (fx n 4) = y) := Lib.hid (by rw [hy, hn])
  have PS := Lib.hid (fun A c W (h : Rd W A (b8 (fx n 4))) => sum_any A 4 c (fx n 4) W h (fx_by _ _) (fx_length 4 n) (by omega))
  rw [HE.out] at PS
  have PE := Lib.hid (fun W (h : Rd W A (b8 body)) => extend_any y A n c body W hel h hby hn (by omega))
  rw [← HC.out] at PE
  have HW1 := Lib.hid (new_wr w.heap.size w (Nat.le_refl _))
  have B1 := Lib.hid ((Below.refl w.heap.size w).alloc (Nat.le_refl _) (.cells #[.slice none 0 0] 106))
  clear hn hby hr hy hz
  obtain ⟨ln, hln⟩ : ∃ ln, ln = fx n 4 := ⟨_, rfl⟩
  have hl4 : ln.length = 4 := by rw [hln, fx_length]
  have HL4 := Lib.hid hl4
  rw [← hln] at PS
  have PU := Lib.hid (fun W v (h : Wr w.heap.size W 106 w.heap.size v []) => u32_w w.heap.size w.heap.size v [] n W h (by omega) (by simp) h.hb)
  rw [List.nil_append, ← hln] at PU
  have HLN := Lib.hid hln
  clear hl4 hln
  go_enter Tryz.func87, Tryz.ntmps87
  go_wp2_with fail
  refine (new_is w).mono ?_
  rintro e w' ⟨rfl, rfl⟩
  go_wp2_with fail
  refine (PU.out _ _ HW1.out).mono ?_
  intro e w2 hw
  obtain ⟨v2, rfl, hw2, hb2⟩ := hw.leaves HW1.out
  have HW2 := Lib.hid hw2
  have B2 := Lib.hid (B1.out.trans hb2)
  clear hw hw2 hb2
  go_wp2_with fail
  refine (new_is w2).mono ?_
  rintro e w' ⟨rfl, rfl⟩
  have HX3 := Lib.hid (new_wr w2.heap.size w2 (Nat.le_refl _))
  have B3 := Lib.hid ((Below.refl w2.heap.size w2).alloc (Nat.le_refl _) (.cells #[.slice none 0 0] 106))
  go_wp2_with fail
  refine (byte_is w2.heap.size w2.heap.size _ [] 197 _ HX3.out (by simp) B3.out.size).mono ?_
  intro e w4 hw
  obtain ⟨v4, rfl, hw4, hb4⟩ := hw.leaves HX3.out
  have HX4 := Lib.hid hw4
  have B4 := Lib.hid (B3.out.trans hb4)
  clear hw hw4 hb4
  go_wp2_with fail
  refine (bytes_w w.heap.size w.heap.size v2 ln w4 (HW2.out.below B4.out) (by have := HL4.out; omega)).mono ?_
  rintro e w5 ⟨A5, c5, rfl, ho5, hb5⟩
  have HO5 := Lib.hid ho5
  have HX5 := Lib.hid (HX4.out.below hb5)
  have B5 := Lib.hid (B4.out.trans (hb5.mono B4.out.size))
  clear ho5 hb5
  go_wp2_with fail
  refine (raw_is w2.heap.size w2.heap.size v4 ([] ++ [197]) A5 _ c5 ln w5 HX5.out (rd_own HO5.out) rfl (by rw [HL4.out]; simp) B5.out.size).mono ?_
  intro e w6 hw
  obtain ⟨v6, rfl, hw6, hb6⟩ := hw.leaves HX5.out
  have HX6 := Lib.hid hw6
  have B6 := Lib.hid (B5.out.trans hb6)
  clear hw hw6 hb6
  go_wp2_with fail
  refine (bytes_w w.heap.size w.heap.size v2 ln w6 (HW2.out.below B6.out) (by have := HL4.out; omega)).mono ?_
  rintro e w7 ⟨A7, c7, rfl, ho7, hb7⟩
  rw [HL4.out] at ho7 ⊢
  have HO7 := Lib.hid ho7
  have HX7 := Lib.hid (HX6.out.below hb7)
  have B7 := Lib.hid (B6.out.trans (hb7.mono B6.out.size))
  clear ho7 hb7
  go_wp2_with fail
  refine (PS.out A7 c7 w7 (rd_own HO7.out)).mono ?_
  rintro e w8 ⟨rfl, hb8⟩
  have HX8 := Lib.hid (HX7.out.below hb8)
  have B8 := Lib.hid (B7.out.trans (hb8.mono B7.out.size))
  clear hb8
  go_wp2_with fail
  refine (PE.out w8 ((HR.out.below (B2.out)).below B8.out)).mono ?_
  rintro e w9 ⟨rfl, hb9⟩
  have HX9 := Lib.hid (HX8.out.below hb9)
  have B9 := Lib.hid (B8.out.trans (hb9.mono B8.out.size))
  clear hb9
  go_wp2_with fail
  refine (u32_w w2.heap.size w2.heap.size v6 _ z w9 HX9.out hcl (by rw [List.length_append, HL4.out]; simp) B9.out.size).mono ?_
  intro e w10 hw
  obtain ⟨v10, rfl, hw10, hb10⟩ := hw.leaves HX9.out
  have HX10 := Lib.hid hw10
  have B10 := Lib.hid (B9.out.trans hb10)
  clear hw hw10 hb10
  go_wp2_with fail
  refine (raw_is w2.heap.size w2.heap.size v10 _ A n c body w10 HX10.out ((HR.out.below (B2.out)).below B10.out) HN.out (by rw [List.length_append, List.length_append, HL4.out, fx_length]; simp; omega) B10.out.size).mono ?_
  intro e w11 hw
  obtain ⟨v11, rfl, hw11, hb11⟩ := hw.leaves HX10.out
  have HX11 := Lib.hid hw11
  have B11 := Lib.hid (B10.out.trans hb11)
  clear hw hw11 hb11
  go_wp2_with fail
  have hwr : ([] ++ [197] ++ ln ++ fx z 4 ++ body) = wrap 197 body := by
    rw [HZ.out, HLN.out, ← HN.out]
    rfl
  rw [hwr] at HX11
  refine (bytes_w w2.heap.size w2.heap.size v11 _ w11 HX11.out (by rw [wrap_length, HN.out]; omega)).mono ?_
  rintro e w12 ⟨A12, c12, rfl, ho12, hb12⟩
  have HO12 := Lib.hid ho12
  have B12 := Lib.hid (B11.out.trans (hb12.mono B11.out.size))
  clear ho12 hb12
  go_wp2_with fail
  go_ret2
  exact ⟨A12, c12, rfl, own_lower HO12.out (Nat.le_trans B2.out.size B11.out.size), B2.out.trans (B12.out.mono B2.out.size)⟩
set_option maxRecDepth 100000 in
theorem frame_is (hl : n ≤ 140737488351232) :
    Calls Tryz.prog 87 #[.slice A n c] w (FramePost w (frm body)) := by
  unfold frm
  rw [hn]
  by_cases h1 : n = 0
  · rw [if_pos h1]
    subst h1
    clear hr hn hby
    go_enter Tryz.func87, Tryz.ntmps87
    go_wp2
    go_ret2
    exact ⟨none, 0, rfl, World.ownsRow_nil _ _ _ _, Below.refl _ _⟩
  · rw [if_neg h1]
    by_cases h2 : 4087 < n
    · rw [if_pos h2]
      clear hr hn hby
      go_enter Tryz.func87, Tryz.ntmps87
      go_wp2
      go_ret2
      exact ⟨none, 0, rfl, World.ownsRow_nil _ _ _ _, Below.refl _ _⟩
    · rw [if_neg h2]
      exact frame_yes A n c body w hr hn hby (by omega) (by omega)
set_option maxRecDepth 100000 in
theorem rframe_is (hl : n ≤ 140737488351232) :
    Calls Tryz.prog 22 #[.slice A n c] w (FramePost w (frm body)) := by
  unfold frm
  by_cases h1 : body.length = 0
  · rw [if_pos h1]
    rw [hn] at h1
    subst h1
    clear hr hn hby
    go_enter Tryz.func22, Tryz.ntmps22
    go_wp2
    go_ret2
    exact ⟨none, 0, rfl, World.ownsRow_nil _ _ _ _, Below.refl _ _⟩
  · rw [if_neg h1]
    by_cases h2 : 4087 < body.length
    · rw [if_pos h2]
      rw [hn] at h2
      clear hr hn hby
      go_enter Tryz.func22, Tryz.ntmps22
      go_wp2
      go_ret2
      exact ⟨none, 0, rfl, World.ownsRow_nil _ _ _ _, Below.refl _ _⟩
    · rw [if_neg h2]
      rw [hn] at h1 h2
      have P := Lib.hid (rwrap_is 197 A n c body w hr hn hby (by omega) (by omega))
      unfold Gives8 Got8 at P
      clear hr hn hby
      go_enter Tryz.func22, Tryz.ntmps22
      go_wp2_with fail
      refine P.out.mono ?_
      rintro e w1 ⟨A1, c1, rfl, ho1, hb1⟩
      have HO1 := Lib.hid ho1
      have B1 := Lib.hid hb1
      clear ho1 hb1
      go_wp2_with fail
      go_ret2
      exact ⟨A1, c1, rfl, HO1.out, B1.out⟩
end
end Go.Proofs.YtljfmcgeiceagaaGreat

/- Heads of frames. -/
namespace Go.Proofs.YtljfmcgeiceagaaGreat
open Go Go.RowKit
set_option linter.unusedVariables false
set_option linter.unusedSimpArgs false
set_option linter.unusedSectionVars false


/-- What a frame's first bytes tell. -/
def hd (b : List Nat) : Int × Int :=
  if 0 < b.length ∧ b.headD 0 ≠ 197 then (0, 160) else if b.length < 5 then (0, 10) else
  if val ((b.drop 1).take 4) = 0 then (0, 160) else if 4087 < val ((b.drop 1).take 4) then (9 + (val ((b.drop 1).take 4) : Int), 163) else (9 + (val ((b.drop 1).take 4) : Int), 0)
def HeadPost (w : World) (q : Int × Int) (e : Ending) (w' : World) : Prop := e = .returned (.tuple #[.int .i64 q.1, .int .i64 q.2]) ∧ Below w.heap.size w w'

section
variable (g off n c : Nat) (b : List Nat) (w : World) (hr : Rd w (some ⟨g, off, none⟩) (b8 b)) (hn : b.length = n) (hnc : n ≤ c) (hby : By b)
include hr hn hnc hby
set_option maxHeartbeats 400000 in
set_option maxRecDepth 100000 in
theorem head_long (h5 : 5 ≤ n) (h0 : w.cell? ⟨g, off, none⟩ = some (.int .u8 197)) (q : Int × Int)
    (hq : q = if val ((b.drop 1).take 4) = 0 then (0, 160) else if 4087 < val ((b.drop 1).take 4) then (9 + (val ((b.drop 1).take 4) : Int), 163) else (9 + (val ((b.drop 1).take 4) : Int), 0)) :
    Calls Tryz.prog 65 #[.slice (some ⟨g, off, none⟩) n c] w (HeadPost w q) := by
  have hseg : ((b.drop 1).take 4).length = 4 := by simp only [List.length_take, List.length_drop]; omega
  have hsby : By ((b.drop 1).take 4) := fun x hx => hby x (List.mem_of_mem_drop (List.mem_of_mem_take hx))
  have P1 := Lib.hid (newReader_is (some ⟨g, off + 1, none⟩) 4 (c - 1) ((b.drop 1).take 4) w (rd_seg (p := 1) (k := 4) hr) hseg hsby (by omega))
  have hlt := val_lt 4 _ hsby hseg
  unfold Newed at P1
  obtain ⟨seg, hsg⟩ : ∃ seg, seg = (b.drop 1).take 4 := ⟨_, rfl⟩
  rw [← hsg] at P1 hseg hq hlt
  have PU := Lib.hid (fun W g v (h : Rdr w.heap.size W 88 Rs.cells g v ⟨seg, 0, 0, 0⟩) => u32_r w.heap.size g v _ W h)
  have e4 := take_all hseg
  rw [show (((4 : Nat)) : Int) = 4 from rfl] at e4
  rw [e4] at PU
  unfold Gave at PU
  obtain ⟨z, hz⟩ : ∃ z, z = val seg := ⟨_, rfl⟩
  rw [← hz] at PU hq hlt
  have hz4 : z < 4294967296 := by simpa using hlt
  have hg := (by obtain ⟨g', off', e, hg', _⟩ := hr (by rintro e; have : b = [] := (by simpa [b8] using e); subst this; simp at hn; omega); injection e with e; injection e with e1; exact e1 ▸ hg' : g < w.heap.size)
  have hc1 : ¬ c = 1 := by omega
  clear hr hn hby hsby hsg e4 hz hlt hseg
  by_cases hz0 : z = 0
  · rw [if_pos hz0] at hq
    subst hz0
    go_enter Tryz.func65, Tryz.ntmps65
    go_wp2_with fail
    refine P1.out.mono ?_
    rintro e w1 ⟨g1, v1, rfl, hr1, hb1⟩
    have HR1 := Lib.hid hr1
    have B1 := Lib.hid hb1
    clear hr1 hb1
    go_wp2_with fail
    refine (PU.out w1 g1 v1 HR1.out).mono ?_
    rintro e w2 ⟨rfl, ht⟩
    have B2 := Lib.hid (B1.out.trans (ht.low B1.out.size))
    clear ht
    go_wp2_with fail
    go_ret2
    rw [hq]
    exact ⟨rfl, B2.out⟩
  · rw [if_neg hz0] at hq
    by_cases hz1 : 4087 < z
    · rw [if_pos hz1] at hq
      go_enter Tryz.func65, Tryz.ntmps65
      go_wp2_with fail
      refine P1.out.mono ?_
      rintro e w1 ⟨g1, v1, rfl, hr1, hb1⟩
      have HR1 := Lib.hid hr1
      have B1 := Lib.hid hb1
      clear hr1 hb1
      go_wp2_with fail
      refine (PU.out w1 g1 v1 HR1.out).mono ?_
      rintro e w2 ⟨rfl, ht⟩
      have B2 := Lib.hid (B1.out.trans (ht.low B1.out.size))
      clear ht
      go_wp2_with fail
      go_ret2
      rw [hq]
      exact ⟨rfl, B2.out⟩
    · rw [if_neg hz1] at hq
      go_enter Tryz.func65, Tryz.ntmps65
      go_wp2_with fail
      refine P1.out.mono ?_
      rintro e w1 ⟨g1, v1, rfl, hr1, hb1⟩
      have HR1 := Lib.hid hr1
      have B1 := Lib.hid hb1
      clear hr1 hb1
      go_wp2_with fail
      refine (PU.out w1 g1 v1 HR1.out).mono ?_
      rintro e w2 ⟨rfl, ht⟩
      have B2 := Lib.hid (B1.out.trans (ht.low B1.out.size))
      clear ht
      go_wp2_with fail
      go_ret2
      rw [hq]
      exact ⟨rfl, B2.out⟩
end

set_option maxRecDepth 100000 in
theorem head_is (A : Option Addr) (n c : Nat) (b : List Nat) (w : World) (hr : Rd w A (b8 b)) (hn : b.length = n) (hnc : n ≤ c) (hby : By b) (hl : n ≤ 140737488355328) :
    Calls Tryz.prog 65 #[.slice A n c] w (HeadPost w (hd b)) := by
  unfold hd
  rw [hn]
  rcases Nat.eq_zero_or_pos n with h0 | h0
  · subst h0
    rw [if_neg (by omega), if_pos (by omega)]
    clear hr hn hby
    go_enter Tryz.func65, Tryz.ntmps65
    go_wp2
    go_ret2
    exact ⟨rfl, Below.refl _ _⟩
  · obtain ⟨g, off, rfl, hg, hcell⟩ := hr.some_ (by omega)
    by_cases hm : b.headD 0 = 197
    · rw [if_neg (by rintro ⟨_, h⟩; exact h hm)]
      rw [hm] at hcell
      by_cases h5 : n < 5
      · rw [if_pos h5]
        have i0 : (0 : Int) < (n : Int) := by omega
        clear hr hn hby
        go_enter Tryz.func65, Tryz.ntmps65
        go_wp2
        go_ret2
        exact ⟨rfl, Below.refl _ _⟩
      · rw [if_neg h5]
        exact head_long g off n c b w hr hn hnc hby (by omega) hcell _ rfl
    · rw [if_pos ⟨h0, hm⟩]
      have i0 : (0 : Int) < (n : Int) := by omega
      have hne : ((b.headD 0 : Nat) : Int) ≠ 197 := by omega
      have hnb : (((b.headD 0 : Nat) : Int) != 197) = true := by rw [bne_iff_ne]; exact hne
      obtain ⟨x, hx⟩ : ∃ x, x = b.headD 0 := ⟨_, rfl⟩
      rw [← hx] at hcell hne hnb
      clear hr hn hby hm hx
      go_enter Tryz.func65, Tryz.ntmps65
      go_wp2
      go_ret2
      exact ⟨rfl, Below.refl _ _⟩

end Go.Proofs.YtljfmcgeiceagaaGreat

/- Bodies of frames. -/
namespace Go.Proofs.YtljfmcgeiceagaaGreat
open Go Go.RowKit
set_option linter.unusedVariables false
set_option linter.unusedSimpArgs false
set_option linter.unusedSectionVars false

/-- A frame's body. -/
def bd (b : List Nat) : List Nat × Int :=
  if (hd b).2 ≠ 0 ∨ (hd b).1 ≠ (b.length : Int) then ([], 160) else
  if val ((b.drop 5).take 4) = Crc.ext (Crc.ext 0 ((b.drop 1).take 4)) (b.drop 9) then (b.drop 9, 0) else ([], 160)
theorem hd_good {b : List Nat} (h : ¬ ((hd b).2 ≠ 0 ∨ (hd b).1 ≠ (b.length : Int))) : b.headD 0 = 197 ∧ 10 ≤ b.length ∧ b.length ≤ 4096 ∧ hd b = ((b.length : Int), 0) ∧ val ((b.drop 1).take 4) = b.length - 9 := by
  have h2 : (hd b).2 = 0 := Classical.byContradiction fun e => h (.inl e)
  have h1 : (hd b).1 = (b.length : Int) := Classical.byContradiction fun e => h (.inr e)
  have he : hd b = ((b.length : Int), 0) := Prod.ext h1 h2
  unfold hd at h1 h2
  split at h1
  · rename_i hc
    rw [if_pos hc] at h2
    cases h2
  · rename_i hc
    rw [if_neg hc] at h2
    split at h1
    · rename_i hd
      rw [if_pos hd] at h2
      cases h2
    · rename_i hd
      rw [if_neg hd] at h2
      split at h1
      · rename_i h0
        rw [if_pos h0] at h2
        cases h2
      · rename_i h0
        rw [if_neg h0] at h2
        split at h1
        · rename_i h3
          rw [if_pos h3] at h2
          cases h2
        · rename_i h3
          simp only at h1
          refine ⟨?_, by omega, by omega, he, by omega⟩
          apply Classical.byContradiction
          intro hm
          exact hc ⟨by omega, hm⟩

set_option maxHeartbeats 400000 in
set_option maxRecDepth 100000 in
theorem body_good (g off n c : Nat) (b : List Nat) (w : World) (hr : Rd w (some ⟨g, off, none⟩) (b8 b)) (hn : b.length = n) (hnc : n ≤ c) (hby : By b)
    (h10 : 10 ≤ n) (h4096 : n ≤ 4096) (hhd : hd b = ((n : Int), 0)) (q : List Nat × Int)
    (hq : q = if val ((b.drop 5).take 4) = Crc.ext (Crc.ext 0 ((b.drop 1).take 4)) (b.drop 9) then (b.drop 9, 0) else ([], 160)) :
    Calls Tryz.prog 24 #[.slice (some ⟨g, off, none⟩) n c] w (FramePost w q) := by
  have P0 := Lib.hid (head_is (some ⟨g, off, none⟩) n c b w hr hn hnc hby (by omega))
  unfold HeadPost at P0
  rw [hhd] at P0
  have hr5 := rd_rest (p := 5) hr
  have hr1 := rd_seg (p := 1) (k := 4) hr
  have hl5 : (b.drop 5).length = n - 5 := by simp only [List.length_drop]; omega
  have hb5 : By (b.drop 5) := by_drop hby 5
  have hl1 : ((b.drop 1).take 4).length = 4 := by simp only [List.length_take, List.length_drop]; omega
  have hb1 : By ((b.drop 1).take 4) := fun x hx => hby x (List.mem_of_mem_drop (List.mem_of_mem_take hx))
  have hl9 : (b.drop 9).length = n - 9 := by simp only [List.length_drop]; omega
  have hb9 : By (b.drop 9) := by_drop hby 9
  have PN := Lib.hid (fun W (hW : Below w.heap.size w W) => newReader_is (some ⟨g, off + 5, none⟩) (n - 5) (c - 5) (b.drop 5) W (hr5.below hW) hl5 hb5 (by omega))
  unfold Newed at PN
  have PS := Lib.hid (fun W (hW : Below w.heap.size w W) => sum_any (some ⟨g, off + 1, none⟩) 4 (c - 1) ((b.drop 1).take 4) W (hr1.below hW) hb1 hl1 (by omega))
  have hel := ext0_lt hb1
  have PE := Lib.hid (fun A c W (h : Rd W A (b8 (b.drop 9))) => extend_any (Crc.ext 0 ((b.drop 1).take 4)) A (b.drop 9).length c (b.drop 9) W hel h hb9 rfl (by omega))
  have t1 : (⟨b.drop 5, 0, 0, 0⟩ : Rs).take 4 = ((b.drop 5).take 4, ⟨b.drop 5, 4, 0, 0⟩) := by
    have := Rs.take_ok (s := ⟨b.drop 5, 0, 0, 0⟩) rfl (k := 4) (by simp only [Rs.rest]; omega)
    simpa [Rs.go] using this
  have t2 : (⟨b.drop 5, 4, 0, 0⟩ : Rs).take ((n : Int) - 9) = (b.drop 9, ⟨b.drop 5, 4 + (n - 9), 0, 0⟩) := by
    have := Rs.take_ok (s := ⟨b.drop 5, 4, 0, 0⟩) rfl (k := n - 9) (by simp only [Rs.rest]; omega)
    rw [show ((n - 9 : Nat) : Int) = (n : Int) - 9 by omega] at this
    rw [this]
    simp only [Rs.go, List.drop_drop]
    rw [List.take_of_length_le (by rw [List.length_drop]; omega)]
  have PU := Lib.hid (fun B W g v (h : Rdr B W 88 Rs.cells g v ⟨b.drop 5, 0, 0, 0⟩) => u32_r B g v _ W h)
  rw [t1] at PU
  unfold Gave at PU
  have PR := Lib.hid (fun B W g v (h : Rdr B W 88 Rs.cells g v ⟨b.drop 5, 4, 0, 0⟩) => raw_r B g v _ ((n : Int) - 9) W h)
  rw [t2] at PR
  unfold Rawed at PR
  simp only at PU PR
  obtain ⟨S, hS⟩ : ∃ S, S = val ((b.drop 5).take 4) := ⟨_, rfl⟩
  obtain ⟨z, hz⟩ : ∃ z, z = Crc.ext (Crc.ext 0 ((b.drop 1).take 4)) (b.drop 9) := ⟨_, rfl⟩
  obtain ⟨y, hy⟩ : ∃ y, y = Crc.ext 0 ((b.drop 1).take 4) := ⟨_, rfl⟩
  rw [← hz] at PE hq
  rw [← hy] at PS PE
  rw [← hS] at PU hq
  obtain ⟨bs, hbs⟩ : ∃ bs, bs = b.drop 9 := ⟨_, rfl⟩
  rw [← hbs] at PE PR hl9 hq
  have HQ := Lib.hid hq
  have HL9 := Lib.hid hl9
  have hg : g < w.heap.size := (by obtain ⟨g', off', e, hg', _⟩ := hr (by rintro e; have : b = [] := (by simpa [b8] using e); subst this; simp at hn; omega); injection e with e; injection e with e1; exact e1 ▸ hg')
  have hc5 : ¬ c = 5 := by omega
  have hc1 : ¬ c = 1 := by omega
  clear hr hn hby hhd hr5 hr1 hl5 hb5 hl1 hb1 hl9 hb9 hel t1 t2 hS hz hy hbs hq
  by_cases hSz : S = z
  · have e1 : ((S : Int) != (z : Int)) = false := by rw [hSz]; simp
    go_enter Tryz.func24, Tryz.ntmps24
    go_wp2_with fail
    refine P0.out.mono ?_
    rintro e w1 ⟨rfl, hb1⟩
    have B1 := Lib.hid hb1
    clear hb1
    go_wp2_with fail
    refine (PN.out w1 B1.out).mono ?_
    rintro e w2 ⟨g2, v2, rfl, hr2, hb2⟩
    have HR2 := Lib.hid hr2
    have B2 := Lib.hid (B1.out.trans (hb2.mono B1.out.size))
    have es2 := hb2.size
    clear hr2 hb2
    go_wp2_with fail
    refine (PU.out _ w2 g2 v2 HR2.out).mono ?_
    rintro e w3 ⟨rfl, ht⟩
    have HR3 := Lib.hid ht.rd
    have B3 := Lib.hid (B2.out.trans ((ht.low es2).mono B1.out.size))
    have es3 := Nat.le_trans es2 ht.kept.size
    clear ht
    go_wp2_with fail
    refine (PR.out _ w3 g2 v2 HR3.out).mono ?_
    rintro e w4 ⟨A4, c4, rfl, ho4, ht⟩
    have HO4 := Lib.hid ho4
    have B4 := Lib.hid (B3.out.trans ((ht.low es3).mono B1.out.size))
    have es4 := ht.kept.size
    clear ht ho4
    go_wp2_with fail
    refine (PS.out w4 B4.out).mono ?_
    rintro e w5 ⟨rfl, hb5⟩
    have HO5 := Lib.hid (own_below HO4.out hb5)
    have B5 := Lib.hid (B4.out.trans (hb5.mono B4.out.size))
    clear hb5
    go_wp2_with fail
    refine (PE.out A4 c4 w5 (rd_own HO5.out)).mono ?_
    rintro e w6 ⟨rfl, hb6⟩
    have HO6 := Lib.hid (own_below HO5.out hb6)
    have B6 := Lib.hid (B5.out.trans (hb6.mono B5.out.size))
    clear hb6
    go_wp2_with fail
    go_ret2
    have hq := HQ.out
    rw [if_pos hSz] at hq
    rw [hq]
    exact ⟨A4, c4, rfl, own_lower HO6.out B3.out.size, B6.out⟩
  · have e1 : ((S : Int) != (z : Int)) = true := by rw [bne_iff_ne]; omega
    go_enter Tryz.func24, Tryz.ntmps24
    go_wp2_with fail
    refine P0.out.mono ?_
    rintro e w1 ⟨rfl, hb1⟩
    have B1 := Lib.hid hb1
    clear hb1
    go_wp2_with fail
    refine (PN.out w1 B1.out).mono ?_
    rintro e w2 ⟨g2, v2, rfl, hr2, hb2⟩
    have HR2 := Lib.hid hr2
    have B2 := Lib.hid (B1.out.trans (hb2.mono B1.out.size))
    have es2 := hb2.size
    clear hr2 hb2
    go_wp2_with fail
    refine (PU.out _ w2 g2 v2 HR2.out).mono ?_
    rintro e w3 ⟨rfl, ht⟩
    have HR3 := Lib.hid ht.rd
    have B3 := Lib.hid (B2.out.trans ((ht.low es2).mono B1.out.size))
    have es3 := Nat.le_trans es2 ht.kept.size
    clear ht
    go_wp2_with fail
    refine (PR.out _ w3 g2 v2 HR3.out).mono ?_
    rintro e w4 ⟨A4, c4, rfl, ho4, ht⟩
    have HO4 := Lib.hid ho4
    have B4 := Lib.hid (B3.out.trans ((ht.low es3).mono B1.out.size))
    have es4 := ht.kept.size
    clear ht ho4
    go_wp2_with fail
    refine (PS.out w4 B4.out).mono ?_
    rintro e w5 ⟨rfl, hb5⟩
    have HO5 := Lib.hid (own_below HO4.out hb5)
    have B5 := Lib.hid (B4.out.trans (hb5.mono B4.out.size))
    clear hb5
    go_wp2_with fail
    refine (PE.out A4 c4 w5 (rd_own HO5.out)).mono ?_
    rintro e w6 ⟨rfl, hb6⟩
    have HO6 := Lib.hid (own_below HO5.out hb6)
    have B6 := Lib.hid (B5.out.trans (hb6.mono B5.out.size))
    clear hb6
    go_wp2_with fail
    go_ret2
    have hq := HQ.out
    rw [if_neg hSz] at hq
    rw [hq]
    exact ⟨none, 0, rfl, World.ownsRow_nil _ _ _ _, B6.out⟩

set_option maxRecDepth 100000 in
theorem body_is (A : Option Addr) (n c : Nat) (b : List Nat) (w : World) (hr : Rd w A (b8 b)) (hn : b.length = n) (hnc : n ≤ c) (hby : By b) (hl : n ≤ 140737488355328) :
    Calls Tryz.prog 24 #[.slice A n c] w (FramePost w (bd b)) := by
  unfold bd
  by_cases h : (hd b).2 ≠ 0 ∨ (hd b).1 ≠ (b.length : Int)
  · rw [if_pos h]
    rw [hn] at h
    have P0 := Lib.hid (head_is A n c b w hr hn hnc hby hl)
    unfold HeadPost at P0
    obtain ⟨x, y⟩ : ∃ q, q = hd b := ⟨_, rfl⟩
    rw [← y] at P0 h
    obtain ⟨x1, x2⟩ := x
    simp only at P0 h
    clear hr hn hby y
    by_cases h2 : x2 = 0
    · subst h2
      have hx1 : x1 ≠ (n : Int) := by rcases h with h | h; exact absurd rfl h; exact h
      have hb1 : (x1 != (n : Int)) = true := by rw [bne_iff_ne]; exact hx1
      go_enter Tryz.func24, Tryz.ntmps24
      go_wp2_with fail
      refine P0.out.mono ?_
      rintro e w1 ⟨rfl, hb1⟩
      have B1 := Lib.hid hb1
      clear hb1
      go_wp2_with fail
      go_ret2
      exact ⟨none, 0, rfl, World.ownsRow_nil _ _ _ _, B1.out⟩
    · have hb2 : (x2 != 0) = true := by rw [bne_iff_ne]; exact h2
      go_enter Tryz.func24, Tryz.ntmps24
      go_wp2_with fail
      refine P0.out.mono ?_
      rintro e w1 ⟨rfl, hb1⟩
      have B1 := Lib.hid hb1
      clear hb1
      go_wp2_with fail
      go_ret2
      exact ⟨none, 0, rfl, World.ownsRow_nil _ _ _ _, B1.out⟩
  · rw [if_neg h]
    obtain ⟨_, h10, h4, hh, _⟩ := hd_good h
    obtain ⟨g, off, rfl, _, _⟩ := hr.some_ (by omega)
    exact body_good g off n c b w hr hn hnc hby (by omega) (by omega) (by rw [hh, hn]) _ rfl

theorem hd_wrap {body : List Nat} (h1 : 0 < body.length) (h2 : body.length ≤ 4087) : hd (wrap 197 body) = (((wrap 197 body).length : Int), 0) := by
  obtain ⟨p0, p1, _, _⟩ := wrap_parts 197 body
  have hl := wrap_length 197 body
  unfold hd
  rw [p0, p1, val_fx (by omega), hl]
  rw [if_neg (by rintro ⟨_, h⟩; exact h rfl), if_neg (by omega), if_neg (by omega), if_neg (by omega)]
  simp
  omega
/-- What is taken is just a frame. -/
theorem bd_frame {b : List Nat} (hb : By b) (h : 9 < b.length) : bd b = if frm (b.drop 9) = (b, 0) then (b.drop 9, 0) else ([], 160) := by
  have hl9 : (b.drop 9).length = b.length - 9 := by simp
  by_cases hf : frm (b.drop 9) = (b, 0)
  · rw [if_pos hf]
    unfold frm at hf
    rw [if_neg (by omega)] at hf
    by_cases h3 : 4087 < (b.drop 9).length
    · rw [if_pos h3] at hf
      injection hf with _ e
      cases e
    · rw [if_neg h3] at hf
      injection hf with hw _
      obtain ⟨p0, p1, p2, p3⟩ := wrap_parts 197 (b.drop 9)
      have hh := hd_wrap (body := b.drop 9) (by omega) (by omega)
      rw [hw] at p0 p1 p2 hh
      unfold bd
      rw [hh, if_neg (by simp)]
      rw [p1, p2, val_fx (crcOf_lt (by_drop hb 9))]
      exact if_pos rfl
  · rw [if_neg hf]
    unfold bd
    by_cases hg : (hd b).2 ≠ 0 ∨ (hd b).1 ≠ (b.length : Int)
    · rw [if_pos hg]
    · rw [if_neg hg]
      obtain ⟨g0, g1, g2, _, g3⟩ := hd_good hg
      rw [if_neg]
      intro hs
      apply hf
      have hb1 : By ((b.drop 1).take 4) := fun x hx => hb x (List.mem_of_mem_drop (List.mem_of_mem_take hx))
      have hb5 : By ((b.drop 5).take 4) := fun x hx => hb x (List.mem_of_mem_drop (List.mem_of_mem_take hx))
      have q1 := fx_val hb1 (by simp only [List.length_take, List.length_drop]; omega)
      have q5 := fx_val hb5 (by simp only [List.length_take, List.length_drop]; omega)
      rw [g3, ← hl9] at q1
      have hc : crcOf (b.drop 9) = val ((b.drop 5).take 4) := by rw [hs, crcOf, q1]
      unfold frm
      rw [if_neg (by omega), if_neg (by omega)]
      have := split9 (b := b) (by omega)
      rw [g0, ← q1, ← q5, ← hc] at this
      rw [← show wrap 197 (b.drop 9) = [197] ++ fx (b.drop 9).length 4 ++ fx (crcOf (b.drop 9)) 4 ++ b.drop 9 from rfl] at this
      rw [← this]
theorem bd_short {b : List Nat} (h : b.length ≤ 9) : bd b = ([], 160) := by
  unfold bd
  rw [if_pos]
  apply Classical.byContradiction
  intro hg
  have := (hd_good hg).2.1
  omega
end Go.Proofs.YtljfmcgeiceagaaGreat

/- chroniclelaw1.same: two slices of bytes, held against each other. -/
namespace Go.Proofs.YtljfmcgeiceagaaGreat
open Go Go.RowKit

def r16sameB (xs ys : List Nat) : Bool := decide (xs = ys)

/-- The call reads alone. -/
def r16Looks (w w' : World) (e : Ending) (v : Value) : Prop := e = .returned v ∧ ∃ n, w' = w.drewN n

set_option maxHeartbeats 400000 in
set_option maxRecDepth 100000 in
theorem r16same_all (A B : Option Addr) (c d : Nat) (xs ys : List Nat) (w : World) (ha : Rd w A (b8 xs)) (hb : Rd w B (b8 ys)) (la : xs.length ≤ 140737488355328) (lb : ys.length ≤ 140737488355328) :
    Calls Tryz.prog 44 #[.slice A xs.length c, .slice B ys.length d] w fun e w' => r16Looks w w' e (.bool (r16sameB xs ys)) := by
  by_cases hl : xs.length = ys.length
  · have hne : ((xs.length : Int) != (ys.length : Int)) = false := by rw [bne_eq_false_iff_eq]; omega
    have HL := Lib.hid hl
    clear hl
    go_enter Tryz.func44, Tryz.ntmps44
    go_wp2
    go_loopw [5] (fun i wr => ∃ k n : Nat, k ≤ xs.length ∧ i = .int .i64 k ∧ wr = w.drewN n ∧ Hid (xs.take k = ys.take k)) (fun i _ => xs.length - (intOf i).toNat)
    case atStart => exact ⟨0, 0, Nat.zero_le _, rfl, rfl, by simp [Hid]⟩
    case round =>
      obtain ⟨k, n, hk, rfl, rfl, H⟩ := hrel
      by_cases hlt : k < xs.length
      · have hltb : k < ys.length := by rw [← HL.out]; exact hlt
        obtain ⟨g, off, rfl, hg, hcell⟩ := ha.at_ (List.getElem?_eq_getElem hlt)
        obtain ⟨g', off', rfl, hg', hcell'⟩ := hb.at_ (List.getElem?_eq_getElem hltb)
        obtain ⟨x, hx⟩ : ∃ x, x = xs[k] := ⟨_, rfl⟩
        obtain ⟨y, hy⟩ : ∃ y, y = ys[k] := ⟨_, rfl⟩
        rw [← hx] at hcell
        rw [← hy] at hcell'
        have h0 : (0 : Int) ≤ (k : Int) := by omega
        have h1 : (k : Int) < (xs.length : Int) := by omega
        have h2 : (k : Int) < (ys.length : Int) := by omega
        by_cases hxy : x = y
        · have hne' : ((x : Int) != (y : Int)) = false := by rw [bne_eq_false_iff_eq]; omega
          have hN : xs.take (k + 1) = ys.take (k + 1) := by
            rw [List.take_succ_eq_append_getElem hlt, List.take_succ_eq_append_getElem hltb, H.out, ← hx, ← hy, hxy]
          have HN := Lib.hid hN
          clear hN hx hy hxy ha hb
          go_wp2
          go_quiet (fail)
          go_wp2
          go_roundw
          case rel => exact ⟨k + 1, _, by omega, by go_num, rfl, HN⟩
          case measure => simp [intOf]; omega
        · have hne' : ((x : Int) != (y : Int)) = true := by rw [bne_iff_ne]; omega
          have hN : r16sameB xs ys = false := by
            unfold r16sameB
            rw [decide_eq_false_iff_not]
            intro h
            subst h
            exact hxy (hx.trans hy.symm)
          have HN := Lib.hid hN
          clear hN hx hy hxy ha hb
          go_wp2
          go_quiet (fail)
          go_wp2
          go_ret
          rw [HN.out]
          exact ⟨rfl, _, World.drewN_drewN ..⟩
      · have hN : r16sameB xs ys = true := by
          have h := H.out
          have h2 := HL.out
          rw [List.take_of_length_le (by omega), List.take_of_length_le (by omega)] at h
          simp [r16sameB, h]
        have HN := Lib.hid hN
        clear hN ha hb
        go_wp2
        go_ret
        rw [HN.out]
        exact ⟨rfl, _, rfl⟩
  · have hne : ((xs.length : Int) != (ys.length : Int)) = true := by rw [bne_iff_ne]; omega
    have hN : r16sameB xs ys = false := by
      unfold r16sameB
      rw [decide_eq_false_iff_not]
      intro h
      exact hl (by rw [h])
    have HN := Lib.hid hN
    clear hN hl ha hb
    go_enter Tryz.func44, Tryz.ntmps44
    go_wp2
    go_ret
    rw [HN.out]
    exact ⟨rfl, 0, rfl⟩

theorem r16same_any (A B : Option Addr) (n m c d : Nat) (xs ys : List Nat) (w : World) (ha : Rd w A (b8 xs)) (hb : Rd w B (b8 ys)) (hn : xs.length = n) (hm : ys.length = m) (la : n ≤ 140737488355328) (lb : m ≤ 140737488355328) :
    Calls Tryz.prog 44 #[.slice A n c, .slice B m d] w fun e w' => r16Looks w w' e (.bool (r16sameB xs ys)) := by
  subst hn hm
  exact r16same_all A B c d xs ys w ha hb la lb

/-- The same bytes. -/
theorem r16same_yes (A B : Option Addr) (n m c d : Nat) (xs ys : List Nat) (w : World) (ha : Rd w A (b8 xs)) (hb : Rd w B (b8 ys)) (hn : xs.length = n) (hm : ys.length = m) (la : n ≤ 140737488355328) (lb : m ≤ 140737488355328) (h : xs = ys) :
    Calls Tryz.prog 44 #[.slice A n c, .slice B m d] w fun e w' => r16Looks w w' e (.bool true) := by
  have := r16same_any A B n m c d xs ys w ha hb hn hm la lb
  rw [show r16sameB xs ys = true from by simp [r16sameB, h]] at this
  exact this

/-- Other bytes. -/
theorem r16same_no (A B : Option Addr) (n m c d : Nat) (xs ys : List Nat) (w : World) (ha : Rd w A (b8 xs)) (hb : Rd w B (b8 ys)) (hn : xs.length = n) (hm : ys.length = m) (la : n ≤ 140737488355328) (lb : m ≤ 140737488355328) (h : xs ≠ ys) :
    Calls Tryz.prog 44 #[.slice A n c, .slice B m d] w fun e w' => r16Looks w w' e (.bool false) := by
  have := r16same_any A B n m c d xs ys w ha hb hn hm la lb
  rw [show r16sameB xs ys = false from by simp [r16sameB, h]] at this
  exact this
end Go.Proofs.YtljfmcgeiceagaaGreat

/- Bodies of frames, the document's way. -/
namespace Go.Proofs.YtljfmcgeiceagaaGreat
open Go Go.RowKit
set_option linter.unusedVariables false
set_option linter.unusedSimpArgs false
set_option linter.unusedSectionVars false

set_option maxHeartbeats 400000 in
set_option maxRecDepth 100000 in
theorem rbody_long (g off n c : Nat) (b : List Nat) (w : World) (hr : Rd w (some ⟨g, off, none⟩) (b8 b)) (hn : b.length = n) (hnc : n ≤ c) (hby : By b) (hl : n ≤ 140737488351232) (h9 : 9 < n) :
    Calls Tryz.prog 35 #[.slice (some ⟨g, off, none⟩) n c] w (FramePost w (bd b)) := by
  rw [bd_frame hby (by omega)]
  have hr9 := rd_rest (p := 9) hr
  have hl9 : (b.drop 9).length = n - 9 := by simp only [List.length_drop]; omega
  have hb9 : By (b.drop 9) := by_drop hby 9
  have bx := (Below.refl w.heap.size w).alloc (Nat.le_refl _) (.cells #[] 5)
  have HR1 := Lib.hid (hr9.below bx)
  have HR0 := Lib.hid hr
  have BX := Lib.hid bx
  have HO0 := Lib.hid (own_lit w w.heap.size [] 5 0 (Nat.le_refl _) (by decide) rfl)
  have PF := Lib.hid (fun A c W (h : Rd W A (b8 (b.drop 9))) => rframe_is A (n - 9) c (b.drop 9) W h hl9 hb9 (by omega))
  unfold FramePost at PF
  have HB := Lib.hid hn
  have HL9 := Lib.hid hl9
  have hfl : (frm (b.drop 9)).1.length ≤ 140737488355328 := by
    unfold frm
    split
    · simp
    split
    · simp
    · rw [wrap_length, hl9]; omega
  obtain ⟨body, hbody⟩ : ∃ body, body = b.drop 9 := ⟨_, rfl⟩
  rw [← hbody] at PF HR1 HL9 hfl ⊢
  obtain ⟨q, hq⟩ : ∃ q, q = frm body := ⟨_, rfl⟩
  rw [← hq] at PF hfl ⊢
  have hg : g < w.heap.size := (by obtain ⟨g', off', e, hg', _⟩ := hr (by rintro e; have : b = [] := (by simpa [b8] using e); subst this; simp at hn; omega); injection e with e; injection e with e1; exact e1 ▸ hg')
  have hc9 : ¬ c = 9 := by omega
  have h9i : ¬ ((n : Int) ≤ 9) := by omega
  have h9n : ¬ (n ≤ 9) := by omega
  clear hr hn hby hr9 hl9 hb9 bx hbody hq
  by_cases hq2 : q.2 = 0
  · have PS := Lib.hid (fun A c' W (h1 : Rd W A (b8 q.1)) (h2 : Rd W (some ⟨g, off, none⟩) (b8 b)) => r16same_any A (some ⟨g, off, none⟩) q.1.length n c' c q.1 b W h1 h2 rfl HB.out hfl (by omega))
    have PFin : Hid ((if q = (b, 0) then (body, (0 : Int)) else ([], 160)) = if r16sameB q.1 b then (body, 0) else ([], 160)) := by
      refine Lib.hid ?_
      obtain ⟨q1, q2⟩ := q
      simp only at hq2
      subst hq2
      simp only [r16sameB, Prod.mk.injEq, and_true, decide_eq_true_eq]
    obtain ⟨fs, fe⟩ := q
    simp only at hq2 PF PS PFin hfl
    subst hq2
    rw [PFin.out]
    unfold r16Looks at PS
    obtain ⟨sb, hsb⟩ : ∃ sb, sb = r16sameB fs b := ⟨_, rfl⟩
    rw [← hsb] at PS ⊢
    obtain ⟨qq, hqq⟩ : ∃ qq : List Nat × Int, qq = if sb then (body, 0) else ([], 160) := ⟨_, rfl⟩
    rw [← hqq]
    have HQQ := Lib.hid hqq
    clear PFin hsb hqq
    go_enter Tryz.func35, Tryz.ntmps35
    go_wp2_with (at_builtin; (refine app8 _ rfl (.tmp 10) (.tmp 12) rfl w.heap.size _ 0 [] rfl HO0.out (some ⟨g, off + 9, none⟩) (n - 9) (c - 9) body rfl HL9.out HR1.out (by omega) (by simp) ?_); intro v' w1 ho hg1 hn1; (rw [Nat.zero_add] at ho); obtain ⟨A1, c1, rfl, _⟩ := own_shape ho; have HO := Lib.hid ho; have B1 := Lib.hid (BX.out.trans (below_of_grown hg1 BX.out.size (fun k hk => (HO0.out.lt k hk).1))); clear ho hg1 hn1)
    refine (PF.out A1 c1 w1 (rd_own HO.out)).mono ?_
    rintro e w2 ⟨A2, c2, rfl, ho2, hb2⟩
    have HO2 := Lib.hid ho2
    have HO1 := Lib.hid (own_below HO.out hb2)
    have B2 := Lib.hid (B1.out.trans (hb2.mono B1.out.size))
    clear ho2 hb2
    go_wp2_with fail
    refine (PS.out A2 c2 w2 (rd_own HO2.out) (HR0.out.below B2.out)).mono ?_
    rintro e w3 ⟨rfl, m, rfl⟩
    cases sb with
    | true =>
      go_wp2_with fail
      go_ret2
      have hqq : qq = (body, 0) := HQQ.out
      rw [hqq]
      refine ⟨A1, c1, by simp only [HL9.out]; rfl, ?_, below_drewN B2.out m⟩
      simp only [HL9.out]
      exact own_below HO1.out (below_drewN (Below.refl _ _) m)
    | false =>
      go_wp2_with fail
      go_ret2
      have hqq : qq = ([], 160) := HQQ.out
      rw [hqq]
      exact ⟨none, 0, rfl, World.ownsRow_nil _ _ _ _, below_drewN B2.out m⟩
  · have hqn : ¬ q = (b, 0) := by rintro rfl; exact hq2 rfl
    rw [if_neg hqn]
    have hqb : (q.2 != 0) = true := by rw [bne_iff_ne]; exact hq2
    go_enter Tryz.func35, Tryz.ntmps35
    go_wp2_with (at_builtin; (refine app8 _ rfl (.tmp 10) (.tmp 12) rfl w.heap.size _ 0 [] rfl HO0.out (some ⟨g, off + 9, none⟩) (n - 9) (c - 9) body rfl HL9.out HR1.out (by omega) (by simp) ?_); intro v' w1 ho hg1 hn1; (rw [Nat.zero_add] at ho); obtain ⟨A1, c1, rfl, _⟩ := own_shape ho; have HO := Lib.hid ho; have B1 := Lib.hid (BX.out.trans (below_of_grown hg1 BX.out.size (fun k hk => (HO0.out.lt k hk).1))); clear ho hg1 hn1)
    refine (PF.out A1 c1 w1 (rd_own HO.out)).mono ?_
    rintro e w2 ⟨A2, c2, rfl, ho2, hb2⟩
    have B2 := Lib.hid (B1.out.trans (hb2.mono B1.out.size))
    clear ho2 hb2
    go_wp2_with fail
    go_ret2
    exact ⟨none, 0, rfl, World.ownsRow_nil _ _ _ _, B2.out⟩

set_option maxRecDepth 100000 in
theorem rbody_is (A : Option Addr) (n c : Nat) (b : List Nat) (w : World) (hr : Rd w A (b8 b)) (hn : b.length = n) (hnc : n ≤ c) (hby : By b) (hl : n ≤ 140737488351232) :
    Calls Tryz.prog 35 #[.slice A n c] w (FramePost w (bd b)) := by
  by_cases h9 : 9 < n
  · obtain ⟨g, off, rfl, _, _⟩ := hr.some_ (by omega)
    exact rbody_long g off n c b w hr hn hnc hby hl h9
  · rw [bd_short (by omega)]
    clear hr hn hby
    go_enter Tryz.func35, Tryz.ntmps35
    go_wp2
    go_ret2
    exact ⟨none, 0, rfl, World.ownsRow_nil _ _ _ _, Below.refl _ _⟩
end Go.Proofs.YtljfmcgeiceagaaGreat
