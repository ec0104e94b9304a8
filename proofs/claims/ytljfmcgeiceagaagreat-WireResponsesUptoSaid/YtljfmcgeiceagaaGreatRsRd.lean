/- Reading a response: wire.reader's count; what is carried. -/
import Derived.Test.YtljfmcgeiceagaaGreatRsDP2
import Derived.Test.YtljfmcgeiceagaaGreatRsEnc2
import Derived.Test.YtljfmcgeiceagaaGreatQ1
import Derived.Test.YtljfmcgeiceagaaGreatK1
namespace Go.Proofs.YtljfmcgeiceagaaGreat
open Go Go.RowKit
set_option linter.unusedVariables false
set_option linter.unusedSimpArgs false

theorem cn_hi {most : Nat} {s : Rs} (h : most < s.num.1) : cn most s = (0, s.num.2.fail 4) := by unfold cn; rw [if_pos h]
theorem cn_lo {most : Nat} {s : Rs} (h : ¬ most < s.num.1) : cn most s = (s.num.1, s.num.2) := by unfold cn; rw [if_neg h]
set_option maxRecDepth 100000 in
theorem count16_is (base g : Nat) (v : Value) (s : Rs) (most : Nat) (w : World) (h : Rdr base w 88 Rs.cells g v s) (hm : most < 9223372036854775808) :
    Calls Tryz.prog 29 #[.agg #[.pointer (some ⟨g, 0, none⟩)], .int .i64 (most : Int)] w (Gave base w 88 Rs.cells g v (.int .i64 ((cn most s).1 : Nat)) (cn most s).2) := by
  have HA := Lib.hid ((Below.refl w.heap.size w).alloc (Nat.le_refl _) (.cells #[.pointer (some ⟨g, 0, none⟩)] 50))
  have P1 := Lib.hid (uv_r base g v s _ (h.below HA.out))
  have hz := h.ok.num.2.1
  have HG := Lib.hid h.lt
  have hw : IntKind.u64.wrap (most : Int) = (most : Int) := by rw [IntKind.wrap_u64]; omega
  by_cases hb : most < s.num.1
  · rw [cn_hi hb]
    have PF := Lib.hid (fun W (h : Rdr base W 88 Rs.cells g v s.num.2) => fail_is base g v s.num.2 4 W h (by omega))
    obtain ⟨z, hzz⟩ : ∃ z, z = s.num.1 := ⟨_, rfl⟩
    obtain ⟨s2, hs2⟩ : ∃ s2, s2 = s.num.2 := ⟨_, rfl⟩
    rw [← hzz, ← hs2] at P1
    rw [← hs2] at PF ⊢
    rw [← hzz] at hb hz
    unfold Gave at P1 ⊢
    unfold Step0 at PF
    clear hzz hs2 h
    have hb2 : decide ((most : Int) < (z : Int)) = true := by rw [decide_eq_true_eq]; omega
    have hb3 : decide (most < z) = true := by rw [decide_eq_true_eq]; omega
    clear hb hz hm
    go_enter Tryz.func29, Tryz.ntmps29
    go_wp2_with fail
    refine P1.out.mono ?_
    rintro e w1 ⟨rfl, ht1⟩
    have HT1 := Lib.hid ht1
    have HC : Hid (w1.heap[w.heap.size]? = some (.cells #[.pointer (some ⟨g, 0, none⟩)] 50 (0, 0))) := Lib.hid ((ht1.kept.block w.heap.size (by simp) (fun e => by have := HG.out; omega)).trans (heap_alloc_new w _))
    have hc := cell_of_row w1 w.heap.size 0 _ _ _ HC.out
    clear ht1
    go_wp2_with fail
    refine (PF.out w1 HT1.out.rd).mono ?_
    rintro e w2 ⟨rfl, ht2⟩
    have HT2 := Lib.hid (Turned.behind HA.out (HT1.out.then ht2))
    clear ht2
    go_wp2_with fail
    go_ret
    exact ⟨rfl, HT2.out⟩
  · rw [cn_lo hb]
    obtain ⟨z, hzz⟩ : ∃ z, z = s.num.1 := ⟨_, rfl⟩
    obtain ⟨s2, hs2⟩ : ∃ s2, s2 = s.num.2 := ⟨_, rfl⟩
    rw [← hzz, ← hs2] at P1
    rw [← hs2]
    rw [← hzz] at hb hz ⊢
    unfold Gave at P1 ⊢
    clear hzz hs2 h
    have hb2 : decide ((most : Int) < (z : Int)) = false := by rw [decide_eq_false_iff_not]; omega
    have hb3 : decide (most < z) = false := by rw [decide_eq_false_iff_not]; omega
    have hw2 : Hid (wrap64 (z : Int) = (z : Int)) := Lib.hid (by unfold wrap64; omega)
    clear hb hz hm
    go_enter Tryz.func29, Tryz.ntmps29
    go_wp2_with fail
    refine P1.out.mono ?_
    rintro e w1 ⟨rfl, ht1⟩
    have HT1 := Lib.hid (Turned.behind HA.out ht1)
    clear ht1
    go_wp2_with fail
    go_ret
    exact ⟨ret_i hw2.out, HT1.out⟩

/-- A response's box, whatever lies in it. -/
def B8 (W : World) (b : Nat) (c0 c1 c2 c3 c4 c5 c6 c7 : Value) : Prop := W.heap[b]? = some (.cells #[c0, c1, c2, c3, c4, c5, c6, c7] 26 (0, 0))
section
variable {W W' : World} {b : Nat} {c0 c1 c2 c3 c4 c5 c6 c7 : Value}
theorem B8.lt (h : B8 W b c0 c1 c2 c3 c4 c5 c6 c7) : b < W.heap.size := lt_of_block h
theorem B8.below (h : B8 W b c0 c1 c2 c3 c4 c5 c6 c7) {B : Nat} (hb : Below B W W') (hl : b < B) : B8 W' b c0 c1 c2 c3 c4 c5 c6 c7 := (hb.block b hl).trans h
theorem B8.facts (h : B8 W b c0 c1 c2 c3 c4 c5 c6 c7) : W.cell? ⟨b, 0, none⟩ = some c0 ∧ W.cell? ⟨b, 1, none⟩ = some c1 ∧ W.cell? ⟨b, 2, none⟩ = some c2 ∧ W.cell? ⟨b, 3, none⟩ = some c3 ∧ W.cell? ⟨b, 4, none⟩ = some c4 ∧ W.cell? ⟨b, 5, none⟩ = some c5 ∧ W.cell? ⟨b, 6, none⟩ = some c6 ∧ W.cell? ⟨b, 7, none⟩ = some c7 := cells8 h
theorem B8.marks (h : B8 W b c0 c1 c2 c3 c4 c5 c6 c7) : W.frozen? ⟨b, 0, none⟩ = false ∧ W.frozen? ⟨b, 1, none⟩ = false ∧ W.frozen? ⟨b, 2, none⟩ = false ∧ W.frozen? ⟨b, 3, none⟩ = false ∧ W.frozen? ⟨b, 4, none⟩ = false ∧ W.frozen? ⟨b, 5, none⟩ = false ∧ W.frozen? ⟨b, 6, none⟩ = false ∧ W.frozen? ⟨b, 7, none⟩ = false :=
  ⟨frozen_of_row W b 0 _ _ h, frozen_of_row W b 1 _ _ h, frozen_of_row W b 2 _ _ h, frozen_of_row W b 3 _ _ h, frozen_of_row W b 4 _ _ h, frozen_of_row W b 5 _ _ h, frozen_of_row W b 6 _ _ h, frozen_of_row W b 7 _ _ h⟩
theorem B8.put0 (h : B8 W b c0 c1 c2 c3 c4 c5 c6 c7) (u : Value) : B8 (W.setCell ⟨b, 0, none⟩ u) b u c1 c2 c3 c4 c5 c6 c7 := heap_setCell_same W b 0 _ _ u h
theorem B8.put1 (h : B8 W b c0 c1 c2 c3 c4 c5 c6 c7) (u : Value) : B8 (W.setCell ⟨b, 1, none⟩ u) b c0 u c2 c3 c4 c5 c6 c7 := heap_setCell_same W b 1 _ _ u h
theorem B8.put2 (h : B8 W b c0 c1 c2 c3 c4 c5 c6 c7) (u : Value) : B8 (W.setCell ⟨b, 2, none⟩ u) b c0 c1 u c3 c4 c5 c6 c7 := heap_setCell_same W b 2 _ _ u h
theorem B8.put3 (h : B8 W b c0 c1 c2 c3 c4 c5 c6 c7) (u : Value) : B8 (W.setCell ⟨b, 3, none⟩ u) b c0 c1 c2 u c4 c5 c6 c7 := heap_setCell_same W b 3 _ _ u h
theorem B8.put4 (h : B8 W b c0 c1 c2 c3 c4 c5 c6 c7) (u : Value) : B8 (W.setCell ⟨b, 4, none⟩ u) b c0 c1 c2 c3 u c5 c6 c7 := heap_setCell_same W b 4 _ _ u h
theorem B8.put5 (h : B8 W b c0 c1 c2 c3 c4 c5 c6 c7) (u : Value) : B8 (W.setCell ⟨b, 5, none⟩ u) b c0 c1 c2 c3 c4 u c6 c7 := heap_setCell_same W b 5 _ _ u h
theorem B8.put6 (h : B8 W b c0 c1 c2 c3 c4 c5 c6 c7) (u : Value) : B8 (W.setCell ⟨b, 6, none⟩ u) b c0 c1 c2 c3 c4 c5 u c7 := heap_setCell_same W b 6 _ _ u h
theorem B8.put7 (h : B8 W b c0 c1 c2 c3 c4 c5 c6 c7) (u : Value) : B8 (W.setCell ⟨b, 7, none⟩ u) b c0 c1 c2 c3 c4 c5 c6 u := heap_setCell_same W b 7 _ _ u h
end
/-- A row of the call's own lies in no block of another kind. -/
theorem own_ne_kind {W : World} {base : Nat} {e T : TypeId} {s n g : Nat} {v : Value} {xs : List Value} {cs : Array Value} {fz : Nat × Nat} (h : W.ownsRow base e s v n xs) (hg : W.heap[g]? = some (.cells cs T fz)) (hne : e ≠ T) : v.ownBlock ≠ some g := by
  rcases h.2 with ⟨rfl, _⟩ | ⟨q, cap, cur, rfl, _, hh, _⟩
  · simp [Value.ownBlock]
  · intro e'
    simp only [Value.ownBlock, Option.some.injEq] at e'
    subst e'
    rw [hh] at hg
    simp at hg
    exact hne hg.2.1
/-- A reader in its box, a response's box, and the rows of its lists. -/
structure RdL (w0 W : World) (g : Nat) (v : Value) (s : Rs) (gi b : Nat) (x : Rp) (vr vn : Value) : Prop where
  ri : RdI w0 W g v s gi
  bx : B8 W b (.int .u32 (x.id : Int)) (.int .i64 x.op) (.int .i64 x.code) (.int .i64 x.off) (.int .i64 x.num) (.bool x.more) vr vn
  bb : w0.heap.size ≤ b
  ng : b ≠ g
  ni : b ≠ gi
  nv : ∀ q, v.ownBlock = some q → q ≠ b
  on : W.ownsRow w0.heap.size 9 1 vn x.names.length (strs x.names)
  or_ : W.ownsRow w0.heap.size 43 7 vr x.recs.length (rcCells x.recs)
section
variable {w0 W W' : World} {g : Nat} {v : Value} {s s' : Rs} {gi b : Nat} {x x' : Rp} {vr vn : Value}
theorem RdL.turn (h : RdL w0 W g v s gi b x vr vn) (ht : Turned w0.heap.size W 88 Rs.cells g v s' W') : RdL w0 W' g v s' gi b x vr vn :=
  ⟨h.ri.turn ht, (ht.kept.block b h.bx.lt h.ng).trans h.bx, h.bb, h.ng, h.ni, h.nv,
   own_keptS h.on ht.kept (fun q hq e => own_ne_kind h.on h.ri.rd.cell (by decide) (by rw [hq, e])),
   own_keptS h.or_ ht.kept (fun q hq e => own_ne_kind h.or_ h.ri.rd.cell (by decide) (by rw [hq, e]))⟩
theorem RdL.below (h : RdL w0 W g v s gi b x vr vn) (hb : Below W.heap.size W W') : RdL w0 W' g v s gi b x vr vn :=
  ⟨h.ri.below hb, (hb.block b h.bx.lt).trans h.bx, h.bb, h.ng, h.ni, h.nv, own_below h.on hb, own_below h.or_ hb⟩
theorem RdI.stored {j : Nat} {u : Value} (h : RdI w0 W g v s gi) (hb : w0.heap.size ≤ b) (hg : b ≠ g) (hi : b ≠ gi) (hv : ∀ q, v.ownBlock = some q → q ≠ b) : RdI w0 (W.setCell ⟨b, j, none⟩ u) g v s gi :=
  ⟨h.rd.keptS (kept1_set W b j u) (fun e => hg e.symm) (fun q hq e => hv q hq e), ((kept1_set W b j u).block gi h.lt (fun e => hi e.symm)).trans h.ci, h.n1, h.nv, h.b0, h.be.setCell hb _⟩
theorem RdL.put {j : Nat} {u : Value} (h : RdL w0 W g v s gi b x vr vn) (x' : Rp) (hn : x'.names = x.names) (hr : x'.recs = x.recs) (hx : B8 (W.setCell ⟨b, j, none⟩ u) b (.int .u32 (x'.id : Int)) (.int .i64 x'.op) (.int .i64 x'.code) (.int .i64 x'.off) (.int .i64 x'.num) (.bool x'.more) vr vn) : RdL w0 (W.setCell ⟨b, j, none⟩ u) g v s gi b x' vr vn :=
  ⟨h.ri.stored h.bb h.ng h.ni h.nv, hx, h.bb, h.ng, h.ni, h.nv,
   by rw [hn]; exact ownsRow_setCell_other h.on (a := ⟨b, j, none⟩) (own_ne_kind h.on h.bx (by decide)) _,
   by rw [hr]; exact ownsRow_setCell_other h.or_ (a := ⟨b, j, none⟩) (own_ne_kind h.or_ h.bx (by decide)) _⟩
theorem RdL.new (h : RdI w0 W g v s gi) (hx : B8 W b (.int .u32 (x.id : Int)) (.int .i64 x.op) (.int .i64 x.code) (.int .i64 x.off) (.int .i64 x.num) (.bool x.more) (.slice none 0 0) (.slice none 0 0)) (hb : w0.heap.size ≤ b) (hg : b ≠ g) (hi : b ≠ gi) (hv : ∀ q, v.ownBlock = some q → q ≠ b) (hn : x.names = []) (hr : x.recs = []) : RdL w0 W g v s gi b x (.slice none 0 0) (.slice none 0 0) :=
  ⟨h, hx, hb, hg, hi, hv, by rw [hn]; exact World.ownsRow_nil _ _ _ _, by rw [hr]; exact World.ownsRow_nil _ _ _ _⟩
end
end Go.Proofs.YtljfmcgeiceagaaGreat
