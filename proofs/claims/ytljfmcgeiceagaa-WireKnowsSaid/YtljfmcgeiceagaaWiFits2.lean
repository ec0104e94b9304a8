/- chroniclelaw16.copied, moved, back, alike, kept at a response that holds records alone. -/
import Derived.Test.YtljfmcgeiceagaaWiFits1
import Derived.Deep.CutRange
import Derived.StillTailTactics
import Derived.BigQuiet
namespace Go.Proofs.Ytljfmcgeiceagaa
open Go Go.RowKit
set_option linter.unusedVariables false
set_option linter.unusedSimpArgs false

/-- A response with these records' slice and names' slice. -/
def rsV (rs ns : Value) : Value := .agg #[.int .u32 0, .int .i64 0, .int .i64 0, .int .i64 0, .int .i64 0, .bool false, rs, ns]
/-- The mark behind the names. -/
structure NmM (w wr : World) (gn dn : Nat) : Prop where
  c : wr.cell? ⟨gn, 0, none⟩ = some (.string ⟨#[47]⟩)
  lt : gn < wr.heap.size
  ge : w.heap.size ≤ gn
  cap : 1 ≤ dn
theorem NmM.below {w wr W : World} {gn dn : Nat} (h : NmM w wr gn dn) (hb : Below wr.heap.size wr W) : NmM w W gn dn :=
  ⟨(hb.cell (p := ⟨gn, 0, none⟩) h.lt).trans h.c, Nat.lt_of_lt_of_le h.lt hb.size, h.ge, h.cap⟩
theorem infoStr : (Try.prog.info? 9).map (fun i => (i.zero, i.size, i.bytes)) = some (some (.string ⟨#[]⟩), 1, 16) := by kernel_rfl
/-- A response's box. -/
def RBx (W : World) (b : Nat) (rs ns : Value) : Prop := W.heap[b]? = some (.cells #[.int .u32 0, .int .i64 0, .int .i64 0, .int .i64 0, .int .i64 0, .bool false, rs, ns] 37 (0, 0))
theorem RBx.new (W : World) (rs ns : Value) : RBx (W.alloc (.cells #[.int .u32 0, .int .i64 0, .int .i64 0, .int .i64 0, .int .i64 0, .bool false, rs, ns] 37)) W.heap.size rs ns := heap_alloc_new W _
section
variable {W W' : World} {b B : Nat} {rs ns : Value}
theorem RBx.lt (h : RBx W b rs ns) : b < W.heap.size := lt_of_block h
theorem RBx.below (h : RBx W b rs ns) (hb : Below B W W') (hlt : b < B) : RBx W' b rs ns := (hb.block b hlt).trans h
theorem RBx.grown {r : Option Nat} (h : RBx W b rs ns) (hg : W.grownBy W' r) (hr : some b ≠ r) : RBx W' b rs ns := (hg.block b h.lt hr).trans h
theorem RBx.set6 (h : RBx W b rs ns) (u : Value) : RBx (W.setCell ⟨b, 6, none⟩ u) b u ns := heap_setCell_same W b 6 _ _ u h
theorem RBx.set7 (h : RBx W b rs ns) (u : Value) : RBx (W.setCell ⟨b, 7, none⟩ u) b rs u := heap_setCell_same W b 7 _ _ u h
theorem RBx.facts (h : RBx W b rs ns) : W.cell? ⟨b, 0, none⟩ = some (.int .u32 0) ∧ W.cell? ⟨b, 1, none⟩ = some (.int .i64 0) ∧ W.cell? ⟨b, 2, none⟩ = some (.int .i64 0) ∧ W.cell? ⟨b, 3, none⟩ = some (.int .i64 0) ∧ W.cell? ⟨b, 4, none⟩ = some (.int .i64 0) ∧ W.cell? ⟨b, 5, none⟩ = some (.bool false) ∧ W.cell? ⟨b, 6, none⟩ = some rs ∧ W.cell? ⟨b, 7, none⟩ = some ns :=
  ⟨cell_of_row W b 0 _ _ _ h, cell_of_row W b 1 _ _ _ h, cell_of_row W b 2 _ _ _ h, cell_of_row W b 3 _ _ _ h, cell_of_row W b 4 _ _ _ h, cell_of_row W b 5 _ _ _ h, cell_of_row W b 6 _ _ _ h, cell_of_row W b 7 _ _ _ h⟩
theorem RBx.marks (h : RBx W b rs ns) : W.frozen? ⟨b, 0, none⟩ = false ∧ W.frozen? ⟨b, 1, none⟩ = false ∧ W.frozen? ⟨b, 2, none⟩ = false ∧ W.frozen? ⟨b, 3, none⟩ = false ∧ W.frozen? ⟨b, 4, none⟩ = false ∧ W.frozen? ⟨b, 5, none⟩ = false ∧ W.frozen? ⟨b, 6, none⟩ = false ∧ W.frozen? ⟨b, 7, none⟩ = false :=
  ⟨frozen_of_row W b 0 _ _ h, frozen_of_row W b 1 _ _ h, frozen_of_row W b 2 _ _ h, frozen_of_row W b 3 _ _ h, frozen_of_row W b 4 _ _ h, frozen_of_row W b 5 _ _ h, frozen_of_row W b 6 _ _ h, frozen_of_row W b 7 _ _ h⟩
end
theorem RBx.put8 {W : World} {b : Nat} {r0 n0 : Value} (h : RBx W b r0 n0) (rs ns : Value) : RBx ((((((((W.setCell ⟨b, 0, none⟩ (.int .u32 0)).setCell ⟨b, 1, none⟩ (.int .i64 0)).setCell ⟨b, 2, none⟩ (.int .i64 0)).setCell ⟨b, 3, none⟩ (.int .i64 0)).setCell ⟨b, 4, none⟩ (.int .i64 0)).setCell ⟨b, 5, none⟩ (.bool false)).setCell ⟨b, 6, none⟩ rs).setCell ⟨b, 7, none⟩ ns) b rs ns := by
  unfold RBx at h ⊢
  have h0 := heap_setCell_same W b 0 _ _ (Value.int .u32 0) h
  have h1 := heap_setCell_same _ b 1 _ _ (Value.int .i64 0) h0
  have h2 := heap_setCell_same _ b 2 _ _ (Value.int .i64 0) h1
  have h3 := heap_setCell_same _ b 3 _ _ (Value.int .i64 0) h2
  have h4 := heap_setCell_same _ b 4 _ _ (Value.int .i64 0) h3
  have h5 := heap_setCell_same _ b 5 _ _ (Value.bool false) h4
  have h6 := heap_setCell_same _ b 6 _ _ rs h5
  have h7 := heap_setCell_same _ b 7 _ _ ns h6
  simp only [List.setIfInBounds_toArray, List.set_cons_succ, List.set_cons_zero] at h7
  exact h7
theorem stored_grown (W : World) (b k : Nat) (u : Value) : W.grownBy (W.setCell ⟨b, k, none⟩ u) (some b) := ⟨rfl, rfl, rfl, by simp, fun j _ hj => heap_setCell_other W ⟨b, k, none⟩ j u (fun e => hj (by rw [e]))⟩
theorem RBx.other {W : World} {b b' k : Nat} {rs ns u : Value} (h : RBx W b rs ns) (hne : b ≠ b') : RBx (W.setCell ⟨b', k, none⟩ u) b rs ns := h.grown (stored_grown W b' k u) (fun e => hne (by injection e))
theorem own_keepW {w w' : World} {base n : Nat} {e : TypeId} {size : Nat} {v : Value} {xs : List Value} {r : Option Nat} (h : w.ownsRow base e size v n xs) (hg : w.grownBy w' r) (hne : ∀ q, r = some q → v.ownBlock ≠ some q) : w'.ownsRow base e size v n xs :=
  h.kept hg (by
    cases hv : v.ownBlock with
    | none => exact .inl rfl
    | some q =>
      right
      intro hh
      exact hne q hh.symm hv)
theorem FullR.stored {w W : World} {gf d n b k : Nat} {l : List Rc} {u : Value} (h : FullR w W gf d n l) (h1 : w.heap.size ≤ b) (h2 : b ≠ gf) : FullR w (W.setCell ⟨b, k, none⟩ u) gf d n l :=
  ⟨own_keepW h.f (stored_grown W b k u) (fun q hq e => by injection hq with hq; subst hq; injection e with e; exact h2 e.symm), h.be.trans (below_of_grown (stored_grown W b k u) h.sz (fun q hq => by injection hq with hq; exact hq ▸ h1))⟩
theorem NmM.stored {w W : World} {gn dn b k : Nat} {u : Value} (h : NmM w W gn dn) (h2 : b ≠ gn) : NmM w (W.setCell ⟨b, k, none⟩ u) gn dn :=
  ⟨(stored_grown W b k u).cell h.c (fun e => h2 (by injection e with e; exact e.symm)), by simpa using h.lt, h.ge, h.cap⟩
set_option maxHeartbeats 4000000 in
set_option maxRecDepth 100000 in
theorem copied0_is (A : Option Addr) (n c : Nat) (l : List Rc) (w : World) (hr : Rd w A (rcCells l)) (hn : l.length = n) (hl : n ≤ 1954687338211) :
    Calls Try.prog 19 #[rsV (.slice A n c) (.slice none 0 0)] w fun e w' => ∃ gf d gn dn, e = .returned (rsV (.slice (some ⟨gf, 0, none⟩) n d) (.slice (some ⟨gn, 0, none⟩) 0 dn)) ∧ FullR w w' gf d n l ∧ NmM w w' gn dn ∧ gn ≠ gf := by
  have HR := Lib.hid hr
  have HN := Lib.hid hn
  obtain ⟨i0, hi, hz0, hz1, hz2⟩ := info_parts infoStr
  have HI := Lib.hid (⟨hi, hz0, hz1, hz2⟩ : _ ∧ _ ∧ _ ∧ _)
  unfold rsV
  clear hr hn hi hz0 hz1 hz2
  go_enter Try.func19, Try.ntmps19
  go_upto_region 3 with (fail)
  obtain ⟨W0, hW0⟩ : ∃ W0, W0 = (w.alloc (.cells #[.int .u32 0, .int .i64 0, .int .i64 0, .int .i64 0, .int .i64 0, .bool false, .slice A n c, .slice none 0 0] 37)).alloc (.cells #[.int .u32 0, .int .i64 0, .int .i64 0, .int .i64 0, .int .i64 0, .bool false, .slice none 0 0, .slice none 0 0] 37) := ⟨_, rfl⟩
  rw [← hW0]
  have hs0 : W0.heap.size = w.heap.size + 1 + 1 := by rw [hW0]; simp
  have HBX : Hid (RBx W0 w.heap.size (.slice A n c) (.slice none 0 0)) := Lib.hid (by rw [hW0]; exact (RBx.new w _ _).below ((Below.refl _ _).alloc (Nat.le_refl _) _) (by simp))
  have HRX : Hid (RBx W0 (w.heap.size + 1) (.slice none 0 0) (.slice none 0 0)) := Lib.hid (by rw [hW0]; have := RBx.new (w.alloc (.cells #[.int .u32 0, .int .i64 0, .int .i64 0, .int .i64 0, .int .i64 0, .bool false, .slice A n c, .slice none 0 0] 37)) (.slice none 0 0) (.slice none 0 0); simpa using this)
  have HB0 : Hid (Below w.heap.size w W0) := Lib.hid (by rw [hW0]; exact ((Below.refl _ _).alloc (Nat.le_refl _) _).alloc (by simp) _)
  obtain ⟨x0, x1, x2, x3, x4, x5, x6, x7⟩ := HBX.out.facts
  have HE0 : Hid ((W0.alloc (.cells #[] 9)).ownsRow W0.heap.size 9 1 (.slice (some ⟨W0.heap.size, 0, none⟩) 0 0) 0 []) := Lib.hid (World.ownsRow_made W0 #[] 0 (Nat.le_refl _) (by decide) rfl)
  have hs1 : w.heap.size + 1 < W0.heap.size := by omega
  have hs11 : w.heap.size < W0.heap.size := by omega
  clear hW0 hs0
  go_upto_region 4 with (first
    | (at_builtin; ((refine wpList_app _ rfl (.tmp 11) (.tmp 13) 35 rfl W0.heap.size 9 i0 _ 1 16 Try.underlying35 HI.out.1 HI.out.2.1 HI.out.2.2.1 HI.out.2.2.2 rfl (by omega) _ 0 [] rfl HE0.out none 0 0 [] rfl rfl (Rd.nil_ _ _) (fun u hu => by cases hu) (by omega) (by unfold maxLen; omega) (by simp) ?_); intro v1 w1 ho1 hg1 hn1; have HO1 := Lib.hid ho1; have HB1 := Lib.hid (((Below.refl W0.heap.size W0).alloc (Nat.le_refl _) _).trans (below_of_grown hg1 (by simp) (fun q hq => (HE0.out.lt q hq).1))); clear ho1 hg1 hn1))
    | (at_builtin; ((refine wpList_push w1 rfl (.tmp 14) (.tmp 15) 35 rfl W0.heap.size 9 i0 _ 16 Try.underlying35 HI.out.1 HI.out.2.1 HI.out.2.2.1 HI.out.2.2.2 rfl v1 (0 + 0) _ rfl HO1.out (.string ⟨#[47]⟩) rfl rfl (by omega) (by unfold maxLen; omega) HB1.out.size ?_); intro v2 w2 ho2 hg2 hn2; have HO2 := Lib.hid ho2; have HB2 := Lib.hid (HB1.out.trans (below_of_grown hg2 HB1.out.size (fun q hq => (HO1.out.lt q hq).1))); obtain ⟨f0, f1, f2, f3, f4, f5, f6, f7⟩ := (HBX.out.below HB2.out (by omega)).marks; obtain ⟨y0, y1, y2, y3, y4, y5, y6, y7⟩ := (HBX.out.below HB2.out (by omega)).facts; obtain ⟨A2, c2, hv2, _⟩ := own_shape ho2; subst hv2; clear ho2 hg2 hn2)))
  have HBX3 : Hid (RBx (w2.setCell ⟨w.heap.size, 7, none⟩ (.slice A2 (0 + 0 + 1) c2)) w.heap.size (.slice A n c) (.slice A2 (0 + 0 + 1) c2)) := Lib.hid ((HBX.out.below HB2.out (by omega)).set7 _)
  have HRX3 : Hid (RBx (w2.setCell ⟨w.heap.size, 7, none⟩ (.slice A2 (0 + 0 + 1) c2)) (w.heap.size + 1) (.slice none 0 0) (.slice none 0 0)) := Lib.hid ((HRX.out.below HB2.out hs1).other (by omega))
  obtain ⟨gn, hA, hg1, hg2, hnc, hcm⟩ := own_pos HO2.out (by omega)
  subst hA
  have HNM3 : Hid (NmM w (w2.setCell ⟨w.heap.size, 7, none⟩ (.slice (some ⟨gn, 0, none⟩) (0 + 0 + 1) c2)) gn c2) := Lib.hid (NmM.stored ⟨by have := HO2.out.cellAt 0 (by omega); simpa using this, hg2, by omega, by omega⟩ (by omega))
  have HB3 : Hid (Below w.heap.size w (w2.setCell ⟨w.heap.size, 7, none⟩ (.slice (some ⟨gn, 0, none⟩) (0 + 0 + 1) c2))) := Lib.hid ((HB0.out.trans (HB2.out.mono (by omega))).trans (below_of_grown (stored_grown _ _ _ _) (Nat.le_trans (by omega) HB2.out.size) (fun q hq => by injection hq with hq; omega)))
  have hgn : w.heap.size + 1 < gn := by omega
  have hsz : (w2.setCell ⟨w.heap.size, 7, none⟩ (.slice (some ⟨gn, 0, none⟩) (0 + 0 + 1) c2)).heap.size = w2.heap.size := by simp
  have hs2 := HB2.out.size
  rw [← hsz] at hs2 hg2
  have HLTn := Lib.hid hg2
  clear y0 y1 y2 y3 y4 y5 y6 y7 f0 f1 f2 f3 f4 f5 f6 f7 x0 x1 x2 x3 x4 x5 x6 x7 hsz hg2
  generalize (w2.setCell ⟨w.heap.size, 7, none⟩ (.slice (some ⟨gn, 0, none⟩) (0 + 0 + 1) c2)) = W3 at HBX3 HRX3 HNM3 HB3 hs2 HLTn ⊢
  clear HO2 HB2 HO1 HB1 HE0 HBX HRX HB0 hg1 hcm
  obtain ⟨x0, x1, x2, x3, x4, x5, x6, x7⟩ := HBX3.out.facts
  have HE3 : Hid ((W3.alloc (.cells #[] 62)).ownsRow W3.heap.size 62 7 (.slice (some ⟨W3.heap.size, 0, none⟩) 0 0) 0 []) := Lib.hid (World.ownsRow_made W3 #[] 0 (Nat.le_refl _) (by decide) rfl)
  have R3 := Lib.hid (HR.out.below HB3.out)
  have hs31 : w.heap.size < W3.heap.size := by omega
  go_upto_region 5 with (first
    | (at_builtin; ((refine appR _ rfl (.tmp 18) (.tmp 20) rfl W3.heap.size _ 0 [] rfl HE3.out A n c l rfl HN.out (R3.out.below ((Below.refl _ _).alloc (Nat.le_refl _) _)) (by omega) (by simp) ?_); intro v4 w4 ho4 hg4 hn4; have HO4 := Lib.hid ho4; have HB4 := Lib.hid (((Below.refl W3.heap.size W3).alloc (Nat.le_refl _) _).trans (below_of_grown hg4 (by simp) (fun q hq => (HE3.out.lt q hq).1))); clear ho4 hg4 hn4))
    | (at_builtin; ((refine pushR _ rfl (.tmp 21) (.tmp 23) rfl W3.heap.size _ (0 + n) _ rfl HO4.out ⟨-77, 0, 0, 0, 0, ⟨#[]⟩, ⟨#[]⟩⟩ _ (by first | rfl | simp) rfl (by omega) HB4.out.size ?_); intro v5 w5 ho5 hg5 hn5; have HO5 := Lib.hid ho5; have HB5 := Lib.hid (HB4.out.trans (below_of_grown hg5 HB4.out.size (fun q hq => (HO4.out.lt q hq).1))); obtain ⟨f0, f1, f2, f3, f4, f5, f6, f7⟩ := (HBX3.out.below HB5.out (by omega)).marks; obtain ⟨y0, y1, y2, y3, y4, y5, y6, y7⟩ := (HBX3.out.below HB5.out (by omega)).facts; obtain ⟨A5, c5, hv5, _⟩ := own_shape ho5; subst hv5; clear ho5 hg5 hn5)))
  obtain ⟨gf, hA, hg1, hg2, hnc5, hcm⟩ := own_pos HO5.out (by omega)
  subst hA
  rw [Nat.zero_add] at HO5
  have HBX6 : Hid (RBx (w5.setCell ⟨w.heap.size, 6, none⟩ (.slice (some ⟨gf, 0, none⟩) (n + 1) c5)) w.heap.size (.slice (some ⟨gf, 0, none⟩) (n + 1) c5) (.slice (some ⟨gn, 0, none⟩) (0 + 0 + 1) c2)) := Lib.hid ((HBX3.out.below HB5.out (by omega)).set6 _)
  have HRX6 : Hid (RBx (w5.setCell ⟨w.heap.size, 6, none⟩ (.slice (some ⟨gf, 0, none⟩) (n + 1) c5)) (w.heap.size + 1) (.slice none 0 0) (.slice none 0 0)) := Lib.hid ((HRX3.out.below HB5.out (by omega)).other (by omega))
  have HNM6 : Hid (NmM w (w5.setCell ⟨w.heap.size, 6, none⟩ (.slice (some ⟨gf, 0, none⟩) (n + 1) c5)) gn c2) := Lib.hid ((HNM3.out.below HB5.out).stored (by omega))
  have HF6 : Hid (FullR w (w5.setCell ⟨w.heap.size, 6, none⟩ (.slice (some ⟨gf, 0, none⟩) (n + 1) c5)) gf c5 n l) := Lib.hid (FullR.stored ⟨own_lower (by have := HO5.out; rw [rcCells_append]; simpa [rcCells, mk77] using this) HB3.out.size, HB3.out.trans (HB5.out.mono HB3.out.size)⟩ (Nat.le_refl _) (by omega))
  have hne : gn ≠ gf := by have := HLTn.out; omega
  have hgf : w.heap.size + 1 < gf := by omega
  clear y0 y1 y2 y3 y4 y5 y6 y7 f0 f1 f2 f3 f4 f5 f6 f7 x0 x1 x2 x3 x4 x5 x6 x7
  generalize (w5.setCell ⟨w.heap.size, 6, none⟩ (.slice (some ⟨gf, 0, none⟩) (n + 1) c5)) = W6 at HBX6 HRX6 HNM6 HF6 ⊢
  have hnc6 : n + 1 ≤ c5 := by omega
  have hnc2 : 1 ≤ c2 := HNM6.out.cap
  have in0 : (0 : Int) ≤ (n : Int) := by omega
  have in1 : (n : Int) ≤ (c5 : Int) := by omega
  have in2 : (0 : Int) ≤ (c2 : Int) := by omega
  clear hnc5 hnc HO5 HB5 HO4 HB4 HE3 R3 HBX3 HRX3 HNM3 HB3 HLTn
  obtain ⟨x0, x1, x2, x3, x4, x5, x6, x7⟩ := HBX6.out.facts
  obtain ⟨f0, f1, f2, f3, f4, f5, f6, f7⟩ := HBX6.out.marks
  obtain ⟨z0, z1, z2, z3, z4, z5, z6, z7⟩ := HRX6.out.facts
  obtain ⟨k0, k1, k2, k3, k4, k5, k6, k7⟩ := HRX6.out.marks
  go_upto_region 6 with (fail)
  have HBX7 : Hid (RBx (W6.setCell ⟨w.heap.size, 7, none⟩ (.slice (some ⟨gn, 0, none⟩) 0 c2)) w.heap.size (.slice (some ⟨gf, 0, none⟩) (n + 1) c5) (.slice (some ⟨gn, 0, none⟩) 0 c2)) := Lib.hid (HBX6.out.set7 _)
  have HRX7 : Hid (RBx (W6.setCell ⟨w.heap.size, 7, none⟩ (.slice (some ⟨gn, 0, none⟩) 0 c2)) (w.heap.size + 1) (.slice none 0 0) (.slice none 0 0)) := Lib.hid (HRX6.out.other (by omega))
  have HNM7 : Hid (NmM w (W6.setCell ⟨w.heap.size, 7, none⟩ (.slice (some ⟨gn, 0, none⟩) 0 c2)) gn c2) := Lib.hid (HNM6.out.stored (by omega))
  have HF7 : Hid (FullR w (W6.setCell ⟨w.heap.size, 7, none⟩ (.slice (some ⟨gn, 0, none⟩) 0 c2)) gf c5 n l) := Lib.hid (HF6.out.stored (Nat.le_refl _) (by omega))
  clear x0 x1 x2 x3 x4 x5 x6 x7 f0 f1 f2 f3 f4 f5 f6 f7 z0 z1 z2 z3 z4 z5 z6 z7 k0 k1 k2 k3 k4 k5 k6 k7 HBX6 HRX6 HF6
  generalize (W6.setCell ⟨w.heap.size, 7, none⟩ (.slice (some ⟨gn, 0, none⟩) 0 c2)) = W7 at HBX7 HRX7 HNM7 HF7 ⊢
  obtain ⟨x0, x1, x2, x3, x4, x5, x6, x7⟩ := HBX7.out.facts
  obtain ⟨f0, f1, f2, f3, f4, f5, f6, f7⟩ := HBX7.out.marks
  go_upto_region 7 with (fail)
  have HBX8 : Hid (RBx (W7.setCell ⟨w.heap.size, 6, none⟩ (.slice (some ⟨gf, 0, none⟩) n c5)) w.heap.size (.slice (some ⟨gf, 0, none⟩) n c5) (.slice (some ⟨gn, 0, none⟩) 0 c2)) := Lib.hid (HBX7.out.set6 _)
  have HRX8 : Hid (RBx (W7.setCell ⟨w.heap.size, 6, none⟩ (.slice (some ⟨gf, 0, none⟩) n c5)) (w.heap.size + 1) (.slice none 0 0) (.slice none 0 0)) := Lib.hid (HRX7.out.other (by omega))
  have HNM8 : Hid (NmM w (W7.setCell ⟨w.heap.size, 6, none⟩ (.slice (some ⟨gf, 0, none⟩) n c5)) gn c2) := Lib.hid (HNM7.out.stored (by omega))
  have HF8 : Hid (FullR w (W7.setCell ⟨w.heap.size, 6, none⟩ (.slice (some ⟨gf, 0, none⟩) n c5)) gf c5 n l) := Lib.hid (HF7.out.stored (Nat.le_refl _) (by omega))
  clear x0 x1 x2 x3 x4 x5 x6 x7 f0 f1 f2 f3 f4 f5 f6 f7 HBX7 HRX7 HF7 HNM7 HNM6
  generalize (W7.setCell ⟨w.heap.size, 6, none⟩ (.slice (some ⟨gf, 0, none⟩) n c5)) = W8 at HBX8 HRX8 HNM8 HF8 ⊢
  obtain ⟨x0, x1, x2, x3, x4, x5, x6, x7⟩ := HBX8.out.facts
  obtain ⟨z0, z1, z2, z3, z4, z5, z6, z7⟩ := HRX8.out.facts
  obtain ⟨k0, k1, k2, k3, k4, k5, k6, k7⟩ := HRX8.out.marks
  go_wp2_with fail
  have HFI := Lib.hid (HRX8.out.put8 (.slice (some ⟨gf, 0, none⟩) n c5) (.slice (some ⟨gn, 0, none⟩) 0 c2))
  have hr1 : w.heap.size ≤ w.heap.size + 1 := by omega
  have hr2 : w.heap.size + 1 ≠ gf := by omega
  have hr3 : w.heap.size + 1 ≠ gn := by omega
  have hFF := (((((((HF8.out.stored (k := 0) (u := .int .u32 0) hr1 hr2).stored (k := 1) (u := .int .i64 0) hr1 hr2).stored (k := 2) (u := .int .i64 0) hr1 hr2).stored (k := 3) (u := .int .i64 0) hr1 hr2).stored (k := 4) (u := .int .i64 0) hr1 hr2).stored (k := 5) (u := .bool false) hr1 hr2).stored (k := 6) (u := .slice (some ⟨gf, 0, none⟩) n c5) hr1 hr2).stored (k := 7) (u := .slice (some ⟨gn, 0, none⟩) 0 c2) hr1 hr2
  have hNN := (((((((HNM8.out.stored (k := 0) (u := .int .u32 0) hr3).stored (k := 1) (u := .int .i64 0) hr3).stored (k := 2) (u := .int .i64 0) hr3).stored (k := 3) (u := .int .i64 0) hr3).stored (k := 4) (u := .int .i64 0) hr3).stored (k := 5) (u := .bool false) hr3).stored (k := 6) (u := .slice (some ⟨gf, 0, none⟩) n c5) hr3).stored (k := 7) (u := .slice (some ⟨gn, 0, none⟩) 0 c2) hr3
  clear x0 x1 x2 x3 x4 x5 x6 x7 z0 z1 z2 z3 z4 z5 z6 z7 k0 k1 k2 k3 k4 k5 k6 k7 HBX8 HRX8 HF8 HNM8
  generalize ((((((((W8.setCell ⟨w.heap.size + 1, 0, none⟩ (.int .u32 0)).setCell ⟨w.heap.size + 1, 1, none⟩ (.int .i64 0)).setCell ⟨w.heap.size + 1, 2, none⟩ (.int .i64 0)).setCell ⟨w.heap.size + 1, 3, none⟩ (.int .i64 0)).setCell ⟨w.heap.size + 1, 4, none⟩ (.int .i64 0)).setCell ⟨w.heap.size + 1, 5, none⟩ (.bool false)).setCell ⟨w.heap.size + 1, 6, none⟩ (.slice (some ⟨gf, 0, none⟩) n c5)).setCell ⟨w.heap.size + 1, 7, none⟩ (.slice (some ⟨gn, 0, none⟩) 0 c2)) = W9 at HFI hFF hNN ⊢
  obtain ⟨z0, z1, z2, z3, z4, z5, z6, z7⟩ := HFI.out.facts
  exact bodyPost_ret (v := .agg #[.int .u32 0, .int .i64 0, .int .i64 0, .int .i64 0, .int .i64 0, .bool false, .slice (some ⟨gf, 0, none⟩) n c5, .slice (some ⟨gn, 0, none⟩) 0 c2]) (by simp [results, Try.results19, go_sem, z0, z1, z2, z3, z4, z5, z6, z7]) rfl ⟨gf, c5, gn, c2, rfl, hFF, hNN, hne⟩
end Go.Proofs.Ytljfmcgeiceagaa
