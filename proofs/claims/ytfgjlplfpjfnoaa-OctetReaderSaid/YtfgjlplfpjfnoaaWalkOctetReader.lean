/- OctetReader: the walk. -/
import Derived.Test.YtfgjlplfpjfnoaaReads
import Derived.Test.YtfgjlplfpjfnoaaOpenSteps
namespace Go.Proofs.Ytfgjlplfpjfnoaa
open Go Go.RowKit
set_option linter.unusedVariables false
set_option linter.unusedSimpArgs false

theorem Rdr.lower {base base' : Nat} {W : World} {T : TypeId} {cf : Rs → Value → Array Value} {g : Nat} {v : Value} {s : Rs} (h : Rdr base W T cf g v s) (hb : base' ≤ base) : Rdr base' W T cf g v s :=
  ⟨h.cell, own_lower h.own hb, h.ne, Nat.le_trans hb h.gb, h.ok⟩

structure FourR (w W : World) (g1 : Nat) (v1 : Value) (g2 : Nat) (v2 : Value) (s : Rs) (g3 : Nat) (v3 : Value) (g4 : Nat) (v4 : Value) (t : Rs) : Prop where
  a : TwoRd w.heap.size W g1 v1 s g2 v2 s
  b : TwoRd w.heap.size W g3 v3 t g4 v4 t
  gg : ∀ q, RFoot g1 g2 q → ¬ RFoot g3 g4 q
  va : ∀ q, RFoot g3 g4 q → v1.ownBlock ≠ some q ∧ v2.ownBlock ≠ some q
  vb : ∀ q, RFoot g1 g2 q → v3.ownBlock ≠ some q ∧ v4.ownBlock ≠ some q
  be : Below w.heap.size w W
section
variable {w W W' : World} {g1 g2 g3 g4 : Nat} {v1 v2 v3 v4 : Value} {s t u : Rs}
theorem FourR.sz (h : FourR w W g1 v1 g2 v2 s g3 v3 g4 v4 t) : w.heap.size ≤ W.heap.size := h.be.size
theorem FourR.below (h : FourR w W g1 v1 g2 v2 s g3 v3 g4 v4 t) (hb : Below W.heap.size W W') : FourR w W' g1 v1 g2 v2 s g3 v3 g4 v4 t :=
  ⟨h.a.below hb, h.b.below hb, h.gg, h.va, h.vb, h.be.trans (hb.mono h.be.size)⟩
theorem FourR.left (h : FourR w W g1 v1 g2 v2 s g3 v3 g4 v4 t) (hs : OnR w.heap.size W W' g1 v1 u g2 v2 u) : FourR w W' g1 v1 g2 v2 u g3 v3 g4 v4 t ∧ Below w.heap.size W W' := by
  have hb : Below w.heap.size W W' := hs.kept.below (fun q hq => by rcases hq with rfl | rfl; exact h.a.a.gb; exact h.a.b.gb) h.be.size
  refine ⟨⟨hs.two, h.b.keptS hs.kept (fun e => h.gg _ e (.inl rfl)) (fun e => h.gg _ e (.inr rfl)) (fun q hq e => (h.vb q e).1 hq) (fun q hq e => (h.vb q e).2 hq), h.gg, h.va, h.vb, h.be.trans hb⟩, hb⟩
theorem FourR.right (h : FourR w W g1 v1 g2 v2 s g3 v3 g4 v4 t) (hs : OnR w.heap.size W W' g3 v3 u g4 v4 u) : FourR w W' g1 v1 g2 v2 s g3 v3 g4 v4 u ∧ Below w.heap.size W W' := by
  have hb : Below w.heap.size W W' := hs.kept.below (fun q hq => by rcases hq with rfl | rfl; exact h.b.a.gb; exact h.b.b.gb) h.be.size
  refine ⟨⟨h.a.keptS hs.kept (fun e => h.gg _ (.inl rfl) e) (fun e => h.gg _ (.inr rfl) e) (fun q hq e => (h.va q e).1 hq) (fun q hq e => (h.va q e).2 hq), hs.two, h.gg, h.va, h.vb, h.be.trans hb⟩, hb⟩
end

/-- The four, made one behind the other. -/
theorem fourR_new {w w1 w2 w4 w5 : World} {g1 g2 g4 : Nat} {v1 v2 v4 : Value} {bs : List Nat} (h0 : Below w.heap.size w w1)
    (h1 : Rdr w1.heap.size w2 78 Rs.cells g1 v1 ⟨bs, 0, 0, 0⟩) (b1 : Below w1.heap.size w1 w2)
    (h2 : Rdr (w2.heap.size + 1) w4 113 Rs.rcells g2 v2 ⟨bs, 0, 0, 0⟩) (b2 : Below (w2.heap.size + 1) (w2.alloc (.cells (Rs.cells ⟨[], 0, 0, 0⟩ (.slice none 0 0)) 78)) w4)
    (h4 : Rdr w4.heap.size w5 113 Rs.rcells g4 v4 ⟨[], 0, 0, 0⟩) (b4 : Below w4.heap.size w4 w5) :
    FourR w w5 g1 v1 g2 v2 ⟨bs, 0, 0, 0⟩ w2.heap.size (.slice none 0 0) g4 v4 ⟨[], 0, 0, 0⟩ := by
  have hs : (w2.alloc (.cells (Rs.cells ⟨[], 0, 0, 0⟩ (.slice none 0 0)) 78)).heap.size = w2.heap.size + 1 := by simp
  have z0 : Rdr w.heap.size (w2.alloc (.cells (Rs.cells ⟨[], 0, 0, 0⟩ (.slice none 0 0)) 78)) 78 Rs.cells w2.heap.size (.slice none 0 0) ⟨[], 0, 0, 0⟩ :=
    rdr_new (World.ownsRow_nil w2 w.heap.size _ _) rfl rfl (fun b hb => by cases hb) (by simp) (Nat.le_trans h0.size b1.size)
  have e0 := h0.size
  have e1 := b1.size
  have e2 := b2.size
  rw [hs] at e2
  have e4 := b4.size
  have l1 := h1.lt
  have l2 := h2.lt
  have l4 := h4.lt
  have k1 := h1.gb
  have k2 := h2.gb
  have k4 := h4.gb
  have b2' : Below (w2.alloc (.cells (Rs.cells ⟨[], 0, 0, 0⟩ (.slice none 0 0)) 78)).heap.size (w2.alloc (.cells (Rs.cells ⟨[], 0, 0, 0⟩ (.slice none 0 0)) 78)) w4 := by rw [hs]; exact b2
  have p1 : Rdr w.heap.size w5 78 Rs.cells g1 v1 ⟨bs, 0, 0, 0⟩ := (((h1.below ((Below.refl _ _).alloc (Nat.le_refl _) _)).below b2').below b4).lower e0
  have p2 : Rdr w.heap.size w5 113 Rs.rcells g2 v2 ⟨bs, 0, 0, 0⟩ := (h2.below b4).lower (by omega)
  have p3 : Rdr w.heap.size w5 78 Rs.cells w2.heap.size (.slice none 0 0) ⟨[], 0, 0, 0⟩ := (z0.below b2').below b4
  have p4 : Rdr w.heap.size w5 113 Rs.rcells g4 v4 ⟨[], 0, 0, 0⟩ := h4.lower (by omega)
  have o1 := h1.own.lt
  have o2 := h2.own.lt
  have o4 := h4.own.lt
  refine ⟨⟨p1, p2, by omega, ?_, ?_⟩, ⟨p3, p4, by omega, ?_, ?_⟩, ?_, ?_, ?_, ((h0.trans (b1.mono e0)).alloc (by omega) _).trans ((b2.mono (by omega)).trans (b4.mono (by omega)))⟩
  · intro e; have := o1 _ e; omega
  · intro e; have := o2 _ e; omega
  · intro e; cases e
  · intro e; have := o4 _ e; omega
  · rintro q (rfl | rfl) (e | e) <;> omega
  · rintro q (rfl | rfl)
    · exact ⟨(fun e => by have := o1 _ e; omega), (fun e => by have := o2 _ e; omega)⟩
    · exact ⟨(fun e => by have := o1 _ e; omega), (fun e => by have := o2 _ e; omega)⟩
  · rintro q (rfl | rfl)
    · exact ⟨(fun e => by cases e), (fun e => by have := o4 _ e; omega)⟩
    · exact ⟨(fun e => by cases e), (fun e => by have := o4 _ e; omega)⟩

def stepsTo (l : List Stp) (s : Rs) : Rs := l.foldl Rs.step s
theorem stepsTo_take {l : List Stp} {k : Nat} {x : Stp} (hx : l[k]? = some x) (s : Rs) : stepsTo (l.take (k + 1)) s = (stepsTo (l.take k) s).step x := by
  obtain ⟨hk, rfl⟩ := List.getElem?_eq_some_iff.1 hx
  unfold stepsTo
  rw [List.take_succ_eq_append_getElem hk, List.foldl_append]
  rfl
/-- Beside the readers. -/
theorem FourR.aside {w W W' : World} {g1 g2 g3 g4 : Nat} {v1 v2 v3 v4 : Value} {s t : Rs} {B : Nat} {r : Option Nat} (h : FourR w W g1 v1 g2 v2 s g3 v3 g4 v4 t) (hg : W.grownBy W' r) (hr : ∀ q, r = some q → w.heap.size ≤ q ∧ q < B)
    (h1 : ∀ q, RFoot g1 g2 q → B ≤ q) (h2 : ∀ q, RFoot g3 g4 q → B ≤ q) (k1 : ∀ q, v1.ownBlock = some q → B ≤ q) (k2 : ∀ q, v2.ownBlock = some q → B ≤ q) (k3 : ∀ q, v3.ownBlock = some q → B ≤ q) (k4 : ∀ q, v4.ownBlock = some q → B ≤ q) :
    FourR w W' g1 v1 g2 v2 s g3 v3 g4 v4 t := by
  have hk : KeptS W W' (fun q => q < B ∧ w.heap.size ≤ q) := KeptS.of_grown hg (fun q hq => ⟨(hr q hq).2, (hr q hq).1⟩)
  have no : ∀ q, B ≤ q → ¬ (q < B ∧ w.heap.size ≤ q) := fun q hq h => by omega
  exact ⟨h.a.keptS hk (no _ (h1 _ (.inl rfl))) (no _ (h1 _ (.inr rfl))) (fun q hq => no _ (k1 q hq)) (fun q hq => no _ (k2 q hq)),
    h.b.keptS hk (no _ (h2 _ (.inl rfl))) (no _ (h2 _ (.inr rfl))) (fun q hq => no _ (k3 q hq)) (fun q hq => no _ (k4 q hq)), h.gg, h.va, h.vb, h.be.trans (hk.below (fun q hq => hq.2) h.be.size)⟩

set_option maxHeartbeats 1000000 in
set_option maxRecDepth 100000 in
theorem octetReader_walk (A0 : Option Addr) (c0 : Nat) (b0 : List Nat) (A1 : Option Addr) (c1 : Nat) (b1 : List Stp) (w : World) (c0l : b0.length ≤ c0) (r0 : Rd w A0 (b8 b0)) (y0 : By b0) (l0 : b0.length ≤ 140737488351232) (c1l : b1.length ≤ c1) (r1 : RdS w A1 b1) (y1 : ∀ x ∈ b1, x.Ok) (l1 : b1.length * 32 ≤ 140737488351232) :
    Calls Try.prog 15 #[.slice A0 b0.length c0, .slice A1 b1.length c1] w fun e w' => e = .returned (.bool true) ∧ Below w.heap.size w w' := by
  have HR0 := Lib.hid r0
  have HR := Lib.hid r1
  have HA := Lib.hid y1
  have HY := Lib.hid y0
  have P1 := Lib.hid (fun W (hb : Below w.heap.size w W) => rnewReader_is A0 b0.length c0 b0 W (r0.below hb) rfl y0 l0)
  have P2 := Lib.hid (fun A c W (hr : Rd W A (b8 b0)) => newReader_is A b0.length c b0 W hr rfl y0 l0)
  have P4 := Lib.hid (fun W => rnewReader_is none 0 0 [] W (Rd.nil_ _ _) rfl (fun b hb => by cases hb) (by omega))
  unfold Newed at P1 P2 P4
  have bx := (Below.refl w.heap.size w).alloc (Nat.le_refl _) (.cells #[] 5)
  have HR1 := Lib.hid (r0.below bx)
  have BX := Lib.hid bx
  have HO0 := Lib.hid (own_lit w w.heap.size [] 5 0 (Nat.le_refl _) (by decide) rfl)
  obtain ⟨m, hm⟩ : ∃ m, m = b0.length := ⟨_, rfl⟩
  rw [← hm] at P1 P2 l0 c0l ⊢
  have HM := Lib.hid hm
  obtain ⟨n, hn⟩ : ∃ n, n = b1.length := ⟨_, rfl⟩
  rw [← hn] at c1l l1 ⊢
  have HN := Lib.hid hn
  clear r0 r1 y0 y1 hm hn bx
  go_enter Try.func15, Try.ntmps15
  go_wp2_with (at_builtin; (refine app8 _ rfl (.tmp 12) (.tmp 13) rfl w.heap.size _ 0 [] rfl HO0.out A0 m c0 b0 rfl HM.out.symm HR1.out (by omega) (by simp) ?_); intro v' w1 ho hg hn; (rw [Nat.zero_add] at ho); obtain ⟨A9, c9, rfl, _⟩ := own_shape ho; have HO := Lib.hid ho; have B1 := Lib.hid (BX.out.trans (below_of_grown hg BX.out.size (fun k hk => (HO0.out.lt k hk).1))); clear ho hg hn)
  refine (P2.out A9 c9 w1 (rd_own HO.out)).mono ?_
  rintro e w2 ⟨g1, v1, rfl, hr1, hb1⟩
  have HR2 := Lib.hid hr1
  have B2 := Lib.hid hb1
  have HO2 := Lib.hid (own_below HO.out hb1)
  have es1 := B1.out.size
  have es2 := B2.out.size
  clear hr1 hb1 P2
  go_wp2_with fail
  refine (P1.out _ (((B1.out.trans (B2.out.mono es1)).alloc (Nat.le_trans es1 es2) _))).mono ?_
  rintro e w4 ⟨g2, v2, rfl, hr2, hb2⟩
  have HR4 := Lib.hid hr2
  have B4 := Lib.hid hb2
  have HO4 := Lib.hid (own_below (own_below HO2.out ((Below.refl _ _).alloc (Nat.le_refl _) _)) hb2)
  clear hr2 hb2 P1
  go_wp2_with fail
  refine (P4.out w4).mono ?_
  rintro e w5 ⟨g4, v4, rfl, hr4, hb4⟩
  have HF := Lib.hid (fourR_new B1.out HR2.out B2.out (by have h := HR4.out; simp at h; exact h) (by have h := B4.out; simp at h; exact h) hr4 hb4)
  have HO5 := Lib.hid (own_below HO4.out hb4)
  have B5 := Lib.hid hb4
  have es4 : w2.heap.size + 1 ≤ w4.heap.size := by have h := B4.out.size; simp at h; exact h
  have es5 := B5.out.size
  have PM := Lib.hid (marked_L w.heap.size m _ b0 6 w5 (ownsL_of HO5.out) l0 (by omega))
  have q1 := Lib.hid (fun q hq => (HR2.out.own.lt q hq).1)
  have q2 := Lib.hid (fun q hq => (show w2.heap.size + 1 ≤ q by have h := (HR4.out.own.lt q hq).1; simp at h; exact h))
  have q4 := Lib.hid (fun q hq => (hr4.own.lt q hq).1)
  have k1 := HR2.out.gb
  have k2 : w2.heap.size + 1 ≤ g2 := by have h := HR4.out.gb; simp at h; exact h
  have k4 := hr4.gb
  have HL := Lib.hid (fun k hk => HO.out.lt k hk)
  clear hr4 hb4 P4 HO2 HO4
  go_wp2_with fail
  refine PM.out.mono ?_
  rintro e w6 ⟨A6, c6, rfl, hg6⟩
  have HF6 := Lib.hid (HF.out.aside (B := w1.heap.size) hg6 (fun q hq => HL.out q hq) (by rintro q (rfl | rfl) <;> omega) (by rintro q (rfl | rfl) <;> omega) (fun q hq => q1.out q hq) (fun q hq => by have := q2.out q hq; omega) (fun q hq => by cases hq) (fun q hq => by have := q4.out q hq; omega))
  clear hg6 PM HF q1 q2 q4 HL HO HO5 HR2 HR4 B1 B2 B4 B5
  go_wp2_with fail
  go_loopw [11] (fun i wr => ∃ (k : Nat) (s t : Rs), k ≤ n ∧ i = .int .i64 k ∧ Hid (FourR w wr g1 v1 g2 v2 s w2.heap.size (.slice none 0 0) g4 v4 t))
    (fun i _ => n - (intOf i).toNat)
  case atStart => exact ⟨0, _, _, Nat.zero_le _, rfl, HF6⟩
  case round =>
    obtain ⟨k, s, t, hk, rfl, HF⟩ := hrel
    have hlw := HF.out.sz
    by_cases hlt : k < n
    · obtain ⟨x, hx⟩ : ∃ x, b1[k]? = some x := ⟨_, List.getElem?_eq_getElem (by rw [← HN.out]; exact hlt)⟩
      obtain ⟨g, off, rfl, hg, hcell⟩ := HR.out (by rintro rfl; simp at hx)
      obtain ⟨d0, d1, d2⟩ := hcell k x hx
      have be := HF.out.be
      have e0 := (be.cell (p := ⟨g, off + k * 3, none⟩) hg).trans d0
      have e1 := (be.cell (p := ⟨g, off + k * 3 + 1, none⟩) hg).trans d1
      have e2 := (be.cell (p := ⟨g, off + k * 3 + 2, none⟩) hg).trans d2
      have hglt : g < wr.heap.size := Nat.lt_of_lt_of_le hg hlw
      have HX := Lib.hid (HA.out x (List.mem_of_getElem? hx))
      have PA := Lib.hid (fun W (hw : wr = W) => reads_two w.heap.size g1 g2 v1 v2 s x W (hw ▸ HF.out.a) HX.out)
      have PB := Lib.hid (fun W s' (h : FourR w W g1 v1 g2 v2 s' w2.heap.size (.slice none 0 0) g4 v4 t) => reads_two w.heap.size w2.heap.size g4 (.slice none 0 0) v4 t x W h.b HX.out)
      have PC := Lib.hid (fun W => reads_none x W HX.out)
      unfold Stp.val at PA PB PC
      clear be hcell hx d0 d1 d2
      go_wp2_with fail
      refine (PA.out _ rfl).mono ?_
      rintro e wa ⟨rfl, hs1⟩
      obtain ⟨hf1, hb1⟩ := HF.out.left hs1
      have HF1 := Lib.hid hf1
      have hla := HF1.out.sz
      have a0 := (hb1.cell (p := ⟨g, off + k * 3, none⟩) hg).trans e0
      have a1 := (hb1.cell (p := ⟨g, off + k * 3 + 1, none⟩) hg).trans e1
      have a2 := (hb1.cell (p := ⟨g, off + k * 3 + 2, none⟩) hg).trans e2
      have hga : g < wa.heap.size := Nat.lt_of_lt_of_le hg hla
      clear hs1 hf1 hb1
      go_wp2_with fail
      refine (PB.out _ _ HF1.out).mono ?_
      rintro e wb ⟨rfl, hs2⟩
      obtain ⟨hf2, hb2⟩ := HF1.out.right hs2
      have HF2 := Lib.hid hf2
      have hlb := HF2.out.sz
      have b0' := (hb2.cell (p := ⟨g, off + k * 3, none⟩) hg).trans a0
      have b1' := (hb2.cell (p := ⟨g, off + k * 3 + 1, none⟩) hg).trans a1
      have b2' := (hb2.cell (p := ⟨g, off + k * 3 + 2, none⟩) hg).trans a2
      have hgb : g < wb.heap.size := Nat.lt_of_lt_of_le hg hlb
      clear hs2 hf2 hb2
      go_wp2_with fail
      refine (PC.out _).mono ?_
      rintro e wc ⟨rfl, hs3⟩
      have HF3 := Lib.hid (HF2.out.below hs3)
      clear hs3
      go_wp2_with fail
      go_roundw
      case rel => exact ⟨k + 1, _, _, by omega, by go_num, HF3⟩
      case measure => simp [intOf]; omega
    · clear HN HR
      go_wp2_with fail
      refine (rest_is w.heap.size g1 v1 s _ HF.out.a.a).mono ?_
      rintro e wa ⟨rfl, m1, rfl⟩
      have HF1 := Lib.hid (HF.out.below (below_drewN (Below.refl _ _) m1))
      go_wp2_with fail
      refine (rrest_is w.heap.size g2 v2 s _ HF1.out.a.b).mono ?_
      rintro e wb ⟨rfl, m2, rfl⟩
      have HF2 := Lib.hid (HF.out.below (below_drewN (Below.refl _ _) (m1 + m2)))
      go_wp2_with fail
      refine (end_r w.heap.size g1 v1 s _ HF2.out.a.a).mono ?_
      rintro e wc ⟨rfl, hb3⟩
      have HF3 := Lib.hid (HF2.out.below hb3)
      clear hb3
      go_wp2_with fail
      refine (rend_r w.heap.size g2 v2 s _ HF3.out.a.b).mono ?_
      rintro e wd ⟨rfl, hb4⟩
      have HF4 := Lib.hid (HF3.out.below hb4)
      clear hb4
      go_wp2_with fail
      go_ret
      exact ⟨by simp, HF4.out.be⟩
end Go.Proofs.Ytfgjlplfpjfnoaa
