/- Several texts in one: WiFits1, WiFits2, WiFits3. -/
import Derived.Test.YtljfmcgeiceagaaDoorD4
import Derived.Test.YtljfmcgeiceagaaDoorX6
import Derived.Deep.CutRange
import Derived.StillTailTactics
import Derived.BigQuiet
/- wire.Fits, and the reference's. -/
namespace Go.Proofs.YtljfmcgeiceagaaDoor
open Go Go.RowKit
set_option linter.unusedVariables false
set_option linter.unusedSimpArgs false

theorem rsize_le (x : Rc) : rsize x ≤ 1124 := by
  unfold rsize renc
  split
  next h => have := (bdy_len (chk_may h)).2; simp only [wrap_length]; omega
  next h => simp
/-- How many have room. -/
def ftN : List Rc → Nat → Nat
  | [], _ => 0
  | x :: r, left => if rsize x = 0 ∨ left < rsize x then 0 else 1 + ftN r (left - rsize x)
theorem ftN_le : ∀ (l : List Rc) (k : Nat), ftN l k ≤ l.length
  | [], _ => Nat.le_refl _
  | x :: r, k => by
    unfold ftN
    split
    · exact Nat.zero_le _
    · have := ftN_le r (k - rsize x); simp; omega
theorem ftN_stop {l : List Rc} {j lf N : Nat} {x : Rc} (h : N = j + ftN (l.drop j) lf) (hx : l[j]? = some x) (hs : rsize x = 0 ∨ lf < rsize x) : N = j := by
  obtain ⟨hj, rfl⟩ := List.getElem?_eq_some_iff.1 hx
  rw [List.drop_eq_getElem_cons hj, ftN, if_pos hs] at h
  omega
theorem ftN_go {l : List Rc} {j lf N : Nat} {x : Rc} (h : N = j + ftN (l.drop j) lf) (hx : l[j]? = some x) (hs : ¬ (rsize x = 0 ∨ lf < rsize x)) : N = (j + 1) + ftN (l.drop (j + 1)) (lf - rsize x) := by
  obtain ⟨hj, rfl⟩ := List.getElem?_eq_some_iff.1 hx
  rw [List.drop_eq_getElem_cons hj, ftN, if_neg hs] at h
  omega
theorem ftN_end {l : List Rc} {j lf N : Nat} (h : N = j + ftN (l.drop j) lf) (hj : j = l.length) : N = j := by
  rw [hj, List.drop_length, ftN] at h
  omega
set_option maxHeartbeats 2000000 in
set_option maxRecDepth 100000 in
theorem fits_is (A : Option Addr) (n c : Nat) (l : List Rc) (w : World) (hr : Rd w A (rcCells l)) (hn : l.length = n) (hl : n ≤ 2000000000000) :
    Calls Tryd.prog 25 #[.slice A n c] w fun e w' => e = .returned (.int .i64 ((ftN l 4051 : Nat) : Int)) ∧ Below w.heap.size w w' := by
  have HR := Lib.hid hr
  have HN := Lib.hid hn
  obtain ⟨F, hF⟩ : ∃ F, F = ftN l 4051 := ⟨_, rfl⟩
  rw [← hF]
  have HF : Hid (F = 0 + ftN (l.drop 0) 4051) := Lib.hid (by rw [hF]; simp)
  clear hr hn hF
  go_enter Tryd.func25, Tryd.ntmps25
  go_wp2
  go_loopw [3, 9] (fun lv i wr => ∃ j lf : Nat, j ≤ n ∧ lf ≤ 4051 ∧ i = .int .i64 j ∧ lv = .int .i64 lf ∧ Hid (F = j + ftN (l.drop j) lf) ∧ Below w.heap.size w wr) (fun _ i _ => n - (intOf i).toNat)
  case atStart => exact ⟨0, 4051, Nat.zero_le _, Nat.le_refl _, rfl, rfl, HF, Below.refl _ _⟩
  case round =>
    obtain ⟨j, lf, hj, hlf, rfl, rfl, HC, hbe⟩ := hrel
    have HB := Lib.hid hbe
    by_cases hlt : j < n
    · obtain ⟨x, hx⟩ : ∃ x, l[j]? = some x := ⟨_, List.getElem?_eq_getElem (by rw [HN.out]; exact hlt)⟩
      obtain ⟨g, off, rfl, hg, x0, x1, x2, x3, x4, x5, x6⟩ := (HR.out.below hbe).rec hx
      have PS := Lib.hid (fun W => recsize_is x W)
      have hz := rsize_le x
      have HS1 := Lib.hid (fun h => ftN_stop HC.out hx h)
      have HS2 := Lib.hid (fun h => ftN_go HC.out hx h)
      obtain ⟨z, hzz⟩ : ∃ z, z = rsize x := ⟨_, rfl⟩
      rw [← hzz] at PS hz HS1 HS2
      have i0 : (0 : Int) ≤ (j : Int) := by omega
      have i1 : (j : Int) < (n : Int) := by omega
      obtain ⟨xk, xo, xt, xp, xs, xkey, xval⟩ := x
      unfold Rc.v at PS
      simp only at x0 x1 x2 x3 x4 x5 x6 PS
      have HBA := Lib.hid (HB.out.alloc HB.out.size (rcObj ⟨xk, xo, xt, xp, xs, xkey, xval⟩))
      clear hx hzz hbe HC HF
      by_cases h0 : z = 0
      · have HE := Lib.hid (HS1.out (.inl h0))
        have hzb : ((z : Int) == 0) = true := by rw [beq_iff_eq]; omega
        clear HS1 HS2 h0
        go_wp2_with fail
        refine (PS.out _).mono ?_
        rintro e w1 ⟨rfl, hb1⟩
        have HB1 := Lib.hid (HBA.out.trans (hb1.mono HBA.out.size))
        clear hb1
        go_wp2_with fail
        go_ret
        exact ⟨by rw [HE.out] <;> rfl, HB1.out⟩
      have hzb : ((z : Int) == 0) = false := by rw [beq_eq_false_iff_ne]; omega
      by_cases h1 : lf < z
      · have HE := Lib.hid (HS1.out (.inr h1))
        have hzl : decide ((lf : Int) < (z : Int)) = true := decide_eq_true (by omega)
        have hzl2 : decide (lf < z) = true := decide_eq_true h1
        clear HS1 HS2 h0
        go_wp2_with fail
        refine (PS.out _).mono ?_
        rintro e w1 ⟨rfl, hb1⟩
        have HB1 := Lib.hid (HBA.out.trans (hb1.mono HBA.out.size))
        clear hb1
        go_wp2_with fail
        go_ret
        exact ⟨by rw [HE.out] <;> rfl, HB1.out⟩
      · have HE := Lib.hid (HS2.out (fun h => h.elim h0 h1))
        have hzl : decide ((lf : Int) < (z : Int)) = false := decide_eq_false (by omega)
        have hzl2 : decide (lf < z) = false := decide_eq_false h1
        have hsub : IntKind.i64.wrap ((lf : Int) - (z : Int)) = ((lf - z : Nat) : Int) := by rw [IntKind.wrap_i64]; omega
        clear HS1 HS2 h0
        go_wp2_with fail
        refine (PS.out _).mono ?_
        rintro e w1 ⟨rfl, hb1⟩
        have HB1 := Lib.hid (HBA.out.trans (hb1.mono HBA.out.size))
        clear hb1
        go_wp2_with fail
        go_roundw
        case rel => exact ⟨j + 1, lf - z, by omega, by omega, by go_num, by first | rfl | (congr 1; omega), HE, HB1.out⟩
        case measure => simp [intOf]; omega
    · have hjn : j = n := by omega
      have HE := Lib.hid (ftN_end HC.out (by rw [HN.out]; exact hjn))
      subst hjn
      clear HC HF
      go_wp2_with fail
      go_ret
      exact ⟨by rw [HE.out] <;> rfl, HB.out⟩
end Go.Proofs.YtljfmcgeiceagaaDoor

/- chroniclelaw16.copied, moved, back, alike, kept at a response that holds records alone. -/
namespace Go.Proofs.YtljfmcgeiceagaaDoor
open Go Go.RowKit
set_option linter.unusedVariables false
set_option linter.unusedSimpArgs false

/-- A response with these records' slice and names' slice. -/
def rsV (rs ns : Value) : Value := .agg #[.int .u32 0, .int .i64 0, .int .i64 0, .int .i64 0, .int .i64 0, .bool false, rs, ns]
/-- The mark behind the names. -/
structure NmM (w wr : World) (gn dn : Nat) : Prop where
  c : wr.cell? ⟨gn, 0, none⟩ = some (.string ⟨#[47]⟩)
  lt : gn < wr.heap.size
  ge : w.heap.size ≤ gn
  cap : 1 ≤ dn
theorem NmM.below {w wr W : World} {gn dn : Nat} (h : NmM w wr gn dn) (hb : Below wr.heap.size wr W) : NmM w W gn dn :=
  ⟨(hb.cell (p := ⟨gn, 0, none⟩) h.lt).trans h.c, Nat.lt_of_lt_of_le h.lt hb.size, h.ge, h.cap⟩
theorem infoStr : (Tryd.prog.info? 9).map (fun i => (i.zero, i.size, i.bytes)) = some (some (.string ⟨#[]⟩), 1, 16) := by kernel_rfl
/-- A response's box. -/
def RBx (W : World) (b : Nat) (rs ns : Value) : Prop := W.heap[b]? = some (.cells #[.int .u32 0, .int .i64 0, .int .i64 0, .int .i64 0, .int .i64 0, .bool false, rs, ns] 39 (0, 0))
theorem RBx.new (W : World) (rs ns : Value) : RBx (W.alloc (.cells #[.int .u32 0, .int .i64 0, .int .i64 0, .int .i64 0, .int .i64 0, .bool false, rs, ns] 39)) W.heap.size rs ns := heap_alloc_new W _
section
variable {W W' : World} {b B : Nat} {rs ns : Value}
theorem RBx.lt (h : RBx W b rs ns) : b < W.heap.size := lt_of_block h
theorem RBx.below (h : RBx W b rs ns) (hb : Below B W W') (hlt : b < B) : RBx W' b rs ns := (hb.block b hlt).trans h
theorem RBx.grown {r : Option Nat} (h : RBx W b rs ns) (hg : W.grownBy W' r) (hr : some b ≠ r) : RBx W' b rs ns := (hg.block b h.lt hr).trans h
theorem RBx.set6 (h : RBx W b rs ns) (u : Value) : RBx (W.setCell ⟨b, 6, none⟩ u) b u ns := heap_setCell_same W b 6 _ _ u h
theorem RBx.set7 (h : RBx W b rs ns) (u : Value) : RBx (W.setCell ⟨b, 7, none⟩ u) b rs u := heap_setCell_same W b 7 _ _ u h
theorem RBx.facts (h : RBx W b rs ns) : W.cell? ⟨b, 0, none⟩ = some (.int .u32 0) ∧ W.cell? ⟨b, 1, none⟩ = some (.int .i64 0) ∧ W.cell? ⟨b, 2, none⟩ = some (.int .i64 0) ∧ W.cell? ⟨b, 3, none⟩ = some (.int .i64 0) ∧ W.cell? ⟨b, 4, none⟩ = some (.int .i64 0) ∧ W.cell? ⟨b, 5, none⟩ = some (.bool false) ∧ W.cell? ⟨b, 6, none⟩ = some rs ∧ W.cell? ⟨b, 7, none⟩ = some ns :=
  ⟨cell_of_row W b 0 _ _ _ h, cell_of_row W b 1 _ _ _ h, cell_of_row W b 2 _ _ _ h, cell_of_row W b 3 _ _ _ h, cell_of_row W b 4 _ _ _ h, cell_of_row W b 5 _ _ _ h, cell_of_row W b 6 _ _ _ h, cell_of_row W b 7 _ _ _ h⟩
theorem RBx.marks (h : RBx W b rs ns) : W.frozen? ⟨b, 0, none⟩ = false ∧ W.frozen? ⟨b, 1, none⟩ = false ∧ W.frozen? ⟨b, 2, none⟩ = false ∧ W.frozen? ⟨b, 3, none⟩ = false ∧ W.frozen? ⟨b, 4, none⟩ = false ∧ W.frozen? ⟨b, 5, none⟩ = false ∧ W.frozen? ⟨b, 6, none⟩ = false ∧ W.frozen? ⟨b, 7, none⟩ = false :=
  ⟨frozen_of_row W b 0 _ _ h, frozen_of_row W b 1 _ _ h, frozen_of_row W b 2 _ _ h, frozen_of_row W b 3 _ _ h, frozen_of_row W b 4 _ _ h, frozen_of_row W b 5 _ _ h, frozen_of_row W b 6 _ _ h, frozen_of_row W b 7 _ _ h⟩
end
theorem RBx.put8 {W : World} {b : Nat} {r0 n0 : Value} (h : RBx W b r0 n0) (rs ns : Value) : RBx ((((((((W.setCell ⟨b, 0, none⟩ (.int .u32 0)).setCell ⟨b, 1, none⟩ (.int .i64 0)).setCell ⟨b, 2, none⟩ (.int .i64 0)).setCell ⟨b, 3, none⟩ (.int .i64 0)).setCell ⟨b, 4, none⟩ (.int .i64 0)).setCell ⟨b, 5, none⟩ (.bool false)).setCell ⟨b, 6, none⟩ rs).setCell ⟨b, 7, none⟩ ns) b rs ns := by
  unfold RBx at h ⊢
  have h0 := heap_setCell_same W b 0 _ _ (Value.int .u32 0) h
  have h1 := heap_setCell_same _ b 1 _ _ (Value.int .i64 0) h0
  have h2 := heap_setCell_same _ b 2 _ _ (Value.int .i64 0) h1
  have h3 := heap_setCell_same _ b 3 _ _ (Value.int .i64 0) h2
  have h4 := heap_setCell_same _ b 4 _ _ (Value.int .i64 0) h3
  have h5 := heap_setCell_same _ b 5 _ _ (Value.bool false) h4
  have h6 := heap_setCell_same _ b 6 _ _ rs h5
  have h7 := heap_setCell_same _ b 7 _ _ ns h6
  simp only [List.setIfInBounds_toArray, List.set_cons_succ, List.set_cons_zero] at h7
  exact h7
theorem stored_grown (W : World) (b k : Nat) (u : Value) : W.grownBy (W.setCell ⟨b, k, none⟩ u) (some b) := ⟨rfl, rfl, rfl, by simp, fun j _ hj => heap_setCell_other W ⟨b, k, none⟩ j u (fun e => hj (by rw [e]))⟩
theorem RBx.other {W : World} {b b' k : Nat} {rs ns u : Value} (h : RBx W b rs ns) (hne : b ≠ b') : RBx (W.setCell ⟨b', k, none⟩ u) b rs ns := h.grown (stored_grown W b' k u) (fun e => hne (by injection e))
theorem own_keepW {w w' : World} {base n : Nat} {e : TypeId} {size : Nat} {v : Value} {xs : List Value} {r : Option Nat} (h : w.ownsRow base e size v n xs) (hg : w.grownBy w' r) (hne : ∀ q, r = some q → v.ownBlock ≠ some q) : w'.ownsRow base e size v n xs :=
  h.kept hg (by
    cases hv : v.ownBlock with
    | none => exact .inl rfl
    | some q =>
      right
      intro hh
      exact hne q hh.symm hv)
theorem FullR.stored {w W : World} {gf d n b k : Nat} {l : List Rc} {u : Value} (h : FullR w W gf d n l) (h1 : w.heap.size ≤ b) (h2 : b ≠ gf) : FullR w (W.setCell ⟨b, k, none⟩ u) gf d n l :=
  ⟨own_keepW h.f (stored_grown W b k u) (fun q hq e => by injection hq with hq; subst hq; injection e with e; exact h2 e.symm), h.be.trans (below_of_grown (stored_grown W b k u) h.sz (fun q hq => by injection hq with hq; exact hq ▸ h1))⟩
theorem NmM.stored {w W : World} {gn dn b k : Nat} {u : Value} (h : NmM w W gn dn) (h2 : b ≠ gn) : NmM w (W.setCell ⟨b, k, none⟩ u) gn dn :=
  ⟨(stored_grown W b k u).cell h.c (fun e => h2 (by injection e with e; exact e.symm)), by simpa using h.lt, h.ge, h.cap⟩
end Go.Proofs.YtljfmcgeiceagaaDoor

/- chroniclelaw16.alike, kept, back at a response that holds records alone. -/
namespace Go.Proofs.YtljfmcgeiceagaaDoor
open Go Go.RowKit
set_option linter.unusedVariables false
set_option linter.unusedSimpArgs false

abbrev boxObj (rs ns : Value) : Obj := .cells #[.int .u32 0, .int .i64 0, .int .i64 0, .int .i64 0, .int .i64 0, .bool false, rs, ns] 39
theorem two_boxes (w : World) (r1 n1 r2 n2 : Value) : RBx ((w.alloc (boxObj r1 n1)).alloc (boxObj r2 n2)) w.heap.size r1 n1 ∧ RBx ((w.alloc (boxObj r1 n1)).alloc (boxObj r2 n2)) (w.heap.size + 1) r2 n2 ∧ Below w.heap.size w ((w.alloc (boxObj r1 n1)).alloc (boxObj r2 n2)) ∧ w.heap.size + 1 < ((w.alloc (boxObj r1 n1)).alloc (boxObj r2 n2)).heap.size := by
  refine ⟨(RBx.new w _ _).below ((Below.refl _ _).alloc (Nat.le_refl _) _) (by simp), ?_, ((Below.refl _ _).alloc (Nat.le_refl _) _).alloc (by simp) _, by simp⟩
  have := RBx.new (w.alloc (boxObj r1 n1)) r2 n2
  simpa using this
set_option maxHeartbeats 4000000 in
set_option maxRecDepth 100000 in
theorem alike0_is (A B N1 N2 : Option Addr) (n c d c1 c2 : Nat) (l : List Rc) (w : World) (ha : Rd w A (rcCells l)) (hb : Rd w B (rcCells l)) (hn : l.length = n) (hl : n ≤ 2000000000000) :
    Calls Tryd.prog 22 #[rsV (.slice A n c) (.slice N1 0 c1), rsV (.slice B n d) (.slice N2 0 c2)] w fun e w' => e = .returned (.bool true) ∧ Below w.heap.size w w' := by
  have HA := Lib.hid ha
  have HB := Lib.hid hb
  have HN := Lib.hid hn
  have hne : ((n : Int) != (n : Int)) = false := by simp
  unfold rsV
  clear ha hb hn
  go_enter Tryd.func22, Tryd.ntmps22
  go_upto_region 3 with (fail)
  obtain ⟨hx1, hx2, hbe, hsz⟩ := two_boxes w (.slice A n c) (.slice N1 0 c1) (.slice B n d) (.slice N2 0 c2)
  have HX1 := Lib.hid hx1
  have HX2 := Lib.hid hx2
  have HBE := Lib.hid hbe
  clear hx1 hx2 hbe hsz
  unfold boxObj at HX1 HX2 HBE
  generalize ((w.alloc (.cells #[.int .u32 0, .int .i64 0, .int .i64 0, .int .i64 0, .int .i64 0, .bool false, .slice A n c, .slice N1 0 c1] 39)).alloc (.cells #[.int .u32 0, .int .i64 0, .int .i64 0, .int .i64 0, .int .i64 0, .bool false, .slice B n d, .slice N2 0 c2] 39)) = W0 at HX1 HX2 HBE ⊢
  have HA0 := Lib.hid (HA.out.below HBE.out)
  have HB0 := Lib.hid (HB.out.below HBE.out)
  obtain ⟨-, -, -, -, -, -, x6, x7⟩ := HX1.out.facts
  obtain ⟨-, -, -, -, -, -, y6, y7⟩ := HX2.out.facts
  clear HA HB HX1 HX2
  go_wp2_with fail
  go_loop [5] (fun i => i = .int .i64 0) (fun i => 0)
  case atStart => rfl
  case round =>
    subst hrel
    go_wp2_with fail
    go_loopw [6] (fun i wr => ∃ k j : Nat, k ≤ n ∧ i = .int .i64 k ∧ wr = W0.drewN j) (fun i _ => n - (intOf i).toNat)
    case atStart => exact ⟨0, 0, Nat.zero_le _, rfl, rfl⟩
    case round =>
      obtain ⟨k, j, hk, rfl, rfl⟩ := hrel
      by_cases hlt : k < n
      · obtain ⟨x, hx⟩ : ∃ x, l[k]? = some x := ⟨_, List.getElem?_eq_getElem (by rw [HN.out]; exact hlt)⟩
        obtain ⟨g, off, rfl, hg, hc0, hc1, hc2, hc3, hc4, hc5, hc6⟩ := HA0.out.rec hx
        obtain ⟨g', off', rfl, hg', hd0, hd1, hd2, hd3, hd4, hd5, hd6⟩ := HB0.out.rec hx
        obtain ⟨xk, xo, xt, xp, xs, xkey, xval⟩ := x
        simp only at hc0 hc1 hc2 hc3 hc4 hc5 hc6 hd0 hd1 hd2 hd3 hd4 hd5 hd6
        have i0 : (0 : Int) ≤ (k : Int) := by omega
        have i1 : (k : Int) < (n : Int) := by omega
        clear hx
        go_wp2_with fail
        go_quiet (fail)
        go_wp2_with fail
        go_roundw
        case rel => exact ⟨k + 1, _, by omega, by go_num, rfl⟩
        case measure => simp [intOf]; omega
      · have hk2 : k = n := by omega
        subst hk2
        go_wp2_with fail
        go_ret
        exact ⟨rfl, below_drewN HBE.out _⟩
theorem grown_drew {a b : World} {r : Option Nat} (h : a.grownBy b r) : a.grownBy b.drew r := ⟨h.os, h.tape, h.output, h.size, h.block⟩
theorem grown_more {a b c : World} {g : Nat} (h : a.grownBy b (some g)) (k : b.grownBy c (some g)) : a.grownBy c (some g) := ⟨k.os.trans h.os, k.tape.trans h.tape, k.output.trans h.output, Nat.le_trans h.size k.size, fun j hj hne => (k.block j (Nat.lt_of_lt_of_le hj h.size) hne).trans (h.block j hj hne)⟩
theorem grown_new {a b : World} {g r k : Nat} {u : Value} (h : a.grownBy b (some g)) (hr : a.heap.size ≤ r) : a.grownBy (b.setCell ⟨r, k, none⟩ u) (some g) := ⟨h.os, h.tape, h.output, by simpa using h.size, fun j hj hne => ((stored_grown b r k u).block j (Nat.lt_of_lt_of_le hj h.size) (fun e => by injection e with e; omega)).trans (h.block j hj hne)⟩
theorem FullR.drew {w W : World} {gf d n : Nat} {l : List Rc} (h : FullR w W gf d n l) : FullR w W.drew gf d n l := h.below (Below.refl _ _).drew
theorem NmM.drew {w W : World} {gn dn : Nat} (h : NmM w W gn dn) : NmM w W.drew gn dn := h.below (Below.refl _ _).drew
theorem RBx.drew {W : World} {b : Nat} {rs ns : Value} (h : RBx W b rs ns) : RBx W.drew b rs ns := h.below (Below.refl _ _).drew h.lt
end Go.Proofs.YtljfmcgeiceagaaDoor
