/- chroniclelaw16.kept, back at any response. -/
import Derived.Test.YtljfmcgeiceagaaGreatAlikep
import Derived.Test.YtljfmcgeiceagaaGreatF5
import Derived.Test.YtljfmcgeiceagaaGreatRsDec1
namespace Go.Proofs.YtljfmcgeiceagaaGreat
open Go Go.RowKit
set_option linter.unusedVariables false
set_option linter.unusedSimpArgs false

/-- b is a but for two blocks and what is new. -/
structure Gr2 (a b : World) (g1 g2 : Nat) : Prop where
  os : b.os = a.os
  tape : b.tape = a.tape
  output : b.output = a.output
  size : a.heap.size ≤ b.heap.size
  block : ∀ j, j < a.heap.size → j ≠ g1 → j ≠ g2 → b.heap[j]? = a.heap[j]?
section
variable {a b c : World} {g1 g2 : Nat}
theorem Gr2.refl (a : World) (g1 g2 : Nat) : Gr2 a a g1 g2 := ⟨rfl, rfl, rfl, Nat.le_refl _, fun _ _ _ _ => rfl⟩
theorem Gr2.grown {r : Option Nat} (h : Gr2 a b g1 g2) (hg : b.grownBy c r) (hr : ∀ q, r = some q → q = g1 ∨ q = g2 ∨ a.heap.size ≤ q) : Gr2 a c g1 g2 :=
  ⟨hg.os.trans h.os, hg.tape.trans h.tape, hg.output.trans h.output, Nat.le_trans h.size hg.size, fun j hj h1 h2 => (hg.block j (Nat.lt_of_lt_of_le hj h.size) (fun e => by rcases hr j e.symm with e | e | e <;> omega)).trans (h.block j hj h1 h2)⟩
theorem Gr2.below (h : Gr2 a b g1 g2) (hb : Below b.heap.size b c) : Gr2 a c g1 g2 := h.grown (grown_of_below hb none) (fun q e => by cases e)
theorem Gr2.drew (h : Gr2 a b g1 g2) : Gr2 a b.drew g1 g2 := ⟨h.os, h.tape, h.output, h.size, h.block⟩
theorem Gr2.b8 {q : Nat} {c0 c1 c2 c3 c4 c5 c6 c7 : Value} (h : Gr2 a b g1 g2) (hx : B8 a q c0 c1 c2 c3 c4 c5 c6 c7) (h1 : q ≠ g1) (h2 : q ≠ g2) : B8 b q c0 c1 c2 c3 c4 c5 c6 c7 := (h.block q hx.lt h1 h2).trans hx
theorem Gr2.be {w : World} (h : Gr2 a b g1 g2) (hb : Below w.heap.size w a) (h1 : w.heap.size ≤ g1) (h2 : w.heap.size ≤ g2) : Below w.heap.size w b :=
  ⟨h.os.trans hb.os, h.tape.trans hb.tape, h.output.trans hb.output, Nat.le_trans hb.size h.size, fun j hj => (h.block j (Nat.lt_of_lt_of_le hj hb.size) (by omega) (by omega)).trans (hb.block j hj)⟩
end
/-- The copy of a response's lists, with a mark behind each. -/
structure Cp (w W : World) (gn dn nn gr dr nr : Nat) (ns : List ByteArray) (rs : List Rc) : Prop where
  n : W.ownsRow w.heap.size 9 1 (.slice (some ⟨gn, 0, none⟩) (nn + 1) dn) (nn + 1) (strs (ns ++ [⟨#[47]⟩]))
  r : W.ownsRow w.heap.size 43 7 (.slice (some ⟨gr, 0, none⟩) (nr + 1) dr) (nr + 1) (rcCells (rs ++ [mk77]))
  ne : gn ≠ gr
  be : Below w.heap.size w W
theorem strs_append (a b : List ByteArray) : strs (a ++ b) = strs a ++ strs b := by simp [strs]
section
variable {w W W' : World} {gn dn nn gr dr nr : Nat} {ns ns' : List ByteArray} {rs rs' : List Rc}
theorem Cp.fr (h : Cp w W gn dn nn gr dr nr ns rs) : FullR w W gr dr nr rs := ⟨h.r, h.be⟩
theorem Cp.below (h : Cp w W gn dn nn gr dr nr ns rs) (hb : Below W.heap.size W W') : Cp w W' gn dn nn gr dr nr ns rs := ⟨own_below h.n hb, own_below h.r hb, h.ne, h.be.trans (hb.mono h.be.size)⟩
theorem Cp.drew (h : Cp w W gn dn nn gr dr nr ns rs) : Cp w W.drew gn dn nn gr dr nr ns rs := h.below (Below.refl _ _).drew
theorem Cp.rdN (h : Cp w W gn dn nn gr dr nr ns rs) (hn : ns.length = nn) : Rd W (some ⟨gn, 0, none⟩) (strs ns) := by
  have := (rd_own h.n).take_ nn
  rw [strs_append, List.take_left' (by rw [strs_length, hn])] at this
  exact this
theorem Cp.rdR (h : Cp w W gn dn nn gr dr nr ns rs) (hn : rs.length = nr) : Rd W (some ⟨gr, 0, none⟩) (rcCells rs) := h.fr.rf hn
theorem Cp.capN (h : Cp w W gn dn nn gr dr nr ns rs) : nn + 1 ≤ dn := by
  obtain ⟨A, c, e, h1, _, _⟩ := own_shape h.n
  injection e with _ _ e3
  omega
theorem Cp.capR (h : Cp w W gn dn nn gr dr nr ns rs) : nr + 1 ≤ dr := h.fr.cap
theorem Cp.ltN (h : Cp w W gn dn nn gr dr nr ns rs) : w.heap.size ≤ gn ∧ gn < W.heap.size := h.n.lt gn rfl
theorem Cp.ltR (h : Cp w W gn dn nn gr dr nr ns rs) : w.heap.size ≤ gr ∧ gr < W.heap.size := h.r.lt gr rfl
theorem Cp.markN (h : Cp w W gn dn nn gr dr nr ns rs) (hn : ns.length = nn) : W.cell? ⟨gn, nn, none⟩ = some (.string ⟨#[47]⟩) := by
  have := h.n.cellAt nn (by omega)
  rw [strs_append, List.getElem?_append_right (by rw [strs_length, hn]; exact Nat.le_refl _), strs_length, hn, Nat.sub_self] at this
  exact this
theorem Cp.markR (h : Cp w W gn dn nn gr dr nr ns rs) (hn : rs.length = nr) : W.cell? ⟨gr, nr * 7, none⟩ = some (.int .i64 (-77)) := h.fr.mark hn
/-- Another block written or grown. -/
theorem Cp.other {r : Option Nat} (h : Cp w W gn dn nn gr dr nr ns rs) (hg : W.grownBy W' r) (hr : ∀ q, r = some q → q ≠ gn ∧ q ≠ gr ∧ w.heap.size ≤ q) : Cp w W' gn dn nn gr dr nr ns rs :=
  ⟨own_keepW h.n hg (fun q hq e => by injection e with e; exact (hr q hq).1 e.symm), own_keepW h.r hg (fun q hq e => by injection e with e; exact (hr q hq).2.1 e.symm), h.ne, h.be.trans (below_of_grown hg h.be.size (fun q hq => (hr q hq).2.2))⟩
theorem Cp.putN {k : Nat} {u : Value} (h : Cp w W gn dn nn gr dr nr ns rs) (he : (strs (ns ++ [⟨#[47]⟩])).set k u = strs (ns' ++ [⟨#[47]⟩])) : Cp w (W.setCell ⟨gn, k, none⟩ u) gn dn nn gr dr nr ns' rs := by
  have hs := h.n.stored k u
  rw [he] at hs
  have hl := h.ltN
  exact ⟨hs.1, own_keepW h.r hs.2 (fun q hq e => by injection hq with hq; injection e with e; exact h.ne (hq.trans e.symm)), h.ne, h.be.trans (below_of_grown hs.2 h.be.size (fun q hq => by injection hq with hq; omega))⟩
theorem Cp.putR {k : Nat} {u : Value} (h : Cp w W gn dn nn gr dr nr ns rs) (he : (rcCells (rs ++ [mk77])).set k u = rcCells (rs' ++ [mk77])) : Cp w (W.setCell ⟨gr, k, none⟩ u) gn dn nn gr dr nr ns rs' := by
  have hs := h.r.stored k u
  rw [he] at hs
  have hl := h.ltR
  exact ⟨own_keepW h.n hs.2 (fun q hq e => by injection hq with hq; injection e with e; exact h.ne (e.trans hq.symm)), hs.1, h.ne, h.be.trans (below_of_grown hs.2 h.be.size (fun q hq => by injection hq with hq; omega))⟩
theorem Cp.put7 (h : Cp w W gn dn nn gr dr nr ns rs) {j : Nat} {u0 u1 u2 u3 u4 u5 u6 : Value}
    (he : (((((((rcCells (rs ++ [mk77])).set j u0).set (j + 1) u1).set (j + 2) u2).set (j + 3) u3).set (j + 4) u4).set (j + 5) u5).set (j + 6) u6 = rcCells (rs' ++ [mk77])) :
    Cp w (((((((W.setCell ⟨gr, j, none⟩ u0).setCell ⟨gr, j + 1, none⟩ u1).setCell ⟨gr, j + 2, none⟩ u2).setCell ⟨gr, j + 3, none⟩ u3).setCell ⟨gr, j + 4, none⟩ u4).setCell ⟨gr, j + 5, none⟩ u5).setCell ⟨gr, j + 6, none⟩ u6) gn dn nn gr dr nr ns rs' ∧ W.grownBy (((((((W.setCell ⟨gr, j, none⟩ u0).setCell ⟨gr, j + 1, none⟩ u1).setCell ⟨gr, j + 2, none⟩ u2).setCell ⟨gr, j + 3, none⟩ u3).setCell ⟨gr, j + 4, none⟩ u4).setCell ⟨gr, j + 5, none⟩ u5).setCell ⟨gr, j + 6, none⟩ u6) (some gr) := by
  have hs := own_put7 h.r j u0 u1 u2 u3 u4 u5 u6
  rw [he] at hs
  have hl := h.ltR
  exact ⟨⟨own_keepW h.n hs.2 (fun q hq e => by injection hq with hq; injection e with e; exact h.ne (e.trans hq.symm)), hs.1, h.ne, h.be.trans (below_of_grown hs.2 h.be.size (fun q hq => by injection hq with hq; omega))⟩, hs.2⟩
end
/-- One name of the list written in its place. -/
theorem names_step {l l0 : List ByteArray} {k n : Nat} {s : ByteArray} (hk : k < n) (h0 : l0.length = n) (hl : l.length = n) (hx : l[k]? = some s) : (strs (l.take k ++ l0.drop k ++ [⟨#[47]⟩])).set k (.string s) = strs (l.take (k + 1) ++ l0.drop (k + 1) ++ [⟨#[47]⟩]) := by
  have hlen : (strs (l.take k)).length = k := by rw [strs_length, List.length_take]; omega
  obtain ⟨hk2, rfl⟩ := List.getElem?_eq_some_iff.1 hx
  have hd : l0.drop k = l0[k]'(by omega) :: l0.drop (k + 1) := List.drop_eq_getElem_cons (by omega)
  rw [List.take_succ_eq_append_getElem hk2, hd]
  simp only [strs_append, List.append_assoc]
  rw [List.set_append_right _ _ (by omega), hlen, Nat.sub_self]
  rfl
theorem two_b8 (w : World) (a0 a1 a2 a3 a4 a5 a6 a7 b0 b1 b2 b3 b4 b5 b6 b7 : Value) :
    B8 ((w.alloc (.cells #[a0, a1, a2, a3, a4, a5, a6, a7] 26)).alloc (.cells #[b0, b1, b2, b3, b4, b5, b6, b7] 26)) w.heap.size a0 a1 a2 a3 a4 a5 a6 a7 ∧ B8 ((w.alloc (.cells #[a0, a1, a2, a3, a4, a5, a6, a7] 26)).alloc (.cells #[b0, b1, b2, b3, b4, b5, b6, b7] 26)) (w.heap.size + 1) b0 b1 b2 b3 b4 b5 b6 b7 ∧ Below w.heap.size w ((w.alloc (.cells #[a0, a1, a2, a3, a4, a5, a6, a7] 26)).alloc (.cells #[b0, b1, b2, b3, b4, b5, b6, b7] 26)) ∧ w.heap.size + 1 < ((w.alloc (.cells #[a0, a1, a2, a3, a4, a5, a6, a7] 26)).alloc (.cells #[b0, b1, b2, b3, b4, b5, b6, b7] 26)).heap.size := by
  have h1 : B8 _ w.heap.size a0 a1 a2 a3 a4 a5 a6 a7 := heap_alloc_new w (.cells #[a0, a1, a2, a3, a4, a5, a6, a7] 26)
  have h2 := heap_alloc_new (w.alloc (.cells #[a0, a1, a2, a3, a4, a5, a6, a7] 26)) (.cells #[b0, b1, b2, b3, b4, b5, b6, b7] 26)
  refine ⟨h1.below ((Below.refl _ _).alloc (Nat.le_refl _) _) h1.lt, ?_, ((Below.refl _ _).alloc (Nat.le_refl _) _).alloc (by simp) _, by simp⟩
  rw [World.size_alloc] at h2
  exact h2

set_option maxHeartbeats 4000000 in
set_option maxRecDepth 100000 in
theorem keptp_is (gn dn nn gr dr nr cn cr : Nat) (AN AR : Option Addr) (x : Rp) (w0 w : World) (h : Cp w0 w gn dn nn gr dr nr x.names x.recs) (hrn : Rd w AN (strs x.names)) (hrr : Rd w AR (rcCells x.recs)) (hnn : x.names.length = nn) (hnr : x.recs.length = nr) (hl : nn ≤ 1048576) (hl2 : nr ≤ 1048576) :
    Calls Tryz.prog 19 #[x.V (.slice (some ⟨gr, 0, none⟩) nr dr) (.slice (some ⟨gn, 0, none⟩) nn dn), x.V (.slice AR nr cr) (.slice AN nn cn)] w fun e w' => e = .returned (.bool true) ∧ Below w.heap.size w w' := by
  have hcn := h.capN
  have hcr := h.capR
  have hgn := h.ltN.2
  have hgr := h.ltR.2
  have HM1 := Lib.hid (h.markN hnn)
  have HM2 := Lib.hid (h.markR hnr)
  have PA := Lib.hid (fun W (hb : Below w.heap.size w W) => alikep_is x (some ⟨gn, 0, none⟩) AN (some ⟨gr, 0, none⟩) AR nn nr dn cn dr cr W ((h.rdN hnn).below hb) (hrn.below hb) ((h.rdR hnr).below hb) (hrr.below hb) hnn hnr (by omega) (by omega))
  obtain ⟨id, op, code, off, num, more, names, recs⟩ := x
  unfold Rp.V at PA ⊢
  simp only at PA ⊢
  have i0 : (0 : Int) ≤ (nn : Int) := by omega
  have i1 : (nn : Int) + 1 ≤ (dn : Int) := by omega
  have i2 : (nn : Int) < (nn : Int) + 1 := by omega
  have i3 : (0 : Int) ≤ (nn : Int) + 1 := by omega
  have i4 : nn + 1 ≤ dn := by omega
  have k0 : (0 : Int) ≤ (nr : Int) := by omega
  have k1 : (nr : Int) + 1 ≤ (dr : Int) := by omega
  have k2 : (nr : Int) < (nr : Int) + 1 := by omega
  have k3 : (0 : Int) ≤ (nr : Int) + 1 := by omega
  have k4 : nr + 1 ≤ dr := by omega
  clear h hrn hrr hnn hnr
  go_enter Tryz.func19, Tryz.ntmps19
  obtain ⟨hx1, hx2, hbe, hsz⟩ := two_b8 w (.int .u32 (id : Int)) (.int .i64 op) (.int .i64 code) (.int .i64 off) (.int .i64 num) (.bool more) (.slice (some ⟨gr, 0, none⟩) nr dr) (.slice (some ⟨gn, 0, none⟩) nn dn) (.int .u32 (id : Int)) (.int .i64 op) (.int .i64 code) (.int .i64 off) (.int .i64 num) (.bool more) (.slice AR nr cr) (.slice AN nn cn)
  have HX1 := Lib.hid hx1
  have HX2 := Lib.hid hx2
  have HBE := Lib.hid hbe
  have HSZ := Lib.hid hsz
  clear hx1 hx2 hbe hsz
  go_wp2_with fail
  refine (PA.out _ HBE.out).mono ?_
  rintro e w1 ⟨rfl, hb1⟩
  obtain ⟨x0, x1, x2, x3, x4, x5, x6, x7⟩ := (HX1.out.below hb1 (Nat.lt_trans (Nat.lt_succ_self _) HSZ.out)).facts
  have HB1 := Lib.hid (HBE.out.trans (hb1.mono HBE.out.size))
  have m1 := (HB1.out.cell (p := ⟨gn, nn, none⟩) hgn).trans HM1.out
  have m2 := (HB1.out.cell (p := ⟨gr, nr * 7, none⟩) hgr).trans HM2.out
  clear hb1 PA HX1 HX2
  go_wp2_with fail
  go_ret
  exact ⟨by first | rfl | simp, HB1.out⟩
end Go.Proofs.YtljfmcgeiceagaaGreat
