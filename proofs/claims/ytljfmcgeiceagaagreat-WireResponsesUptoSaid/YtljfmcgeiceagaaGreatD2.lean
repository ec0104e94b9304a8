/- Several texts in one: RecDec, RecDec2, RecRDec. -/
import Derived.Test.YtljfmcgeiceagaaGreatD1
import Derived.Test.YtljfmcgeiceagaaGreatSameR4
/- record.Decode. -/
namespace Go.Proofs.YtljfmcgeiceagaaGreat
open Go Go.RowKit
set_option linter.unusedVariables false
set_option linter.unusedSimpArgs false

/-- What is answered. -/
def DecPost (w : World) (q : Rc × Nat × Nat) (e : Ending) (w' : World) : Prop :=
  e = .returned (.tuple #[q.1.v, .int .i64 (q.2.1 : Int), .int .i64 (q.2.2 : Int)]) ∧ Below w.heap.size w w'
theorem zbox {w W : World} (h : Below (w.alloc zrc).heap.size (w.alloc zrc) W) : RBox W w.heap.size rc0 := (RBox.new w rc0).below h (by simp)
theorem zend {w W : World} (h : Below (w.alloc zrc).heap.size (w.alloc zrc) W) (x : Rc) : Below w.heap.size w (W7 W w.heap.size x) :=
  (((Below.refl w.heap.size w).alloc (Nat.le_refl _) _).trans (h.mono (by simp))).trans ((kept7 W w.heap.size x).below (fun q hq => by subst hq; exact Nat.le_refl _) (by have := h.size; simp at this; omega))
theorem zrefl (w : World) : Below (w.alloc zrc).heap.size (w.alloc zrc) (w.alloc zrc) := Below.refl _ _
theorem decpost_no {w W : World} {q : Rc × Nat × Nat} {k : Nat} (hq : q = (rc0, 0, k)) (hb : Below w.heap.size w W) : DecPost w q (.returned (.tuple #[.agg #[.int .i64 0, .int .i64 0, .int .i64 0, .int .i64 0, .int .i64 0, .string ⟨#[]⟩, .string ⟨#[]⟩], .int .i64 0, .int .i64 (k : Int)])) W := by
  subst hq
  exact ⟨rfl, hb⟩
theorem seg_take {b : List Nat} {n k : Nat} (hn : b.length = n) (h5 : 5 ≤ n) (hk : 4 ≤ k) :
    (⟨(b.drop 1).take k, 0, 0, 0⟩ : Rs).take 4 = ((b.drop 1).take 4, ⟨(b.drop 1).take k, 4, 0, 0⟩) := by
  have := Rs.take_ok (s := ⟨(b.drop 1).take k, 0, 0, 0⟩) rfl (k := 4) (by simp only [Rs.rest, List.length_take, List.length_drop]; omega)
  rw [show ((4 : Nat) : Int) = 4 from rfl] at this
  rw [this]
  simp only [Rs.go, List.drop_zero, List.take_take]
  rw [show min 4 k = 4 by omega]
theorem seg_take2 {b : List Nat} {n : Nat} (hn : b.length = n) (h5 : 9 ≤ n) :
    (⟨(b.drop 1).take 8, 4, 0, 0⟩ : Rs).take 4 = ((b.drop 5).take 4, ⟨(b.drop 1).take 8, 8, 0, 0⟩) := by
  have := Rs.take_ok (s := ⟨(b.drop 1).take 8, 4, 0, 0⟩) rfl (k := 4) (by simp only [Rs.rest, List.length_take, List.length_drop]; omega)
  rw [show ((4 : Nat) : Int) = 4 from rfl] at this
  rw [this]
  simp only [Rs.go]
  rw [List.drop_take, List.drop_drop, List.take_take]
  rfl
/-- A reader, and memory from before. -/
structure DcS (w0 W : World) (g : Nat) (v : Value) (s : Rs) : Prop where
  rd : Rdr w0.heap.size W 88 Rs.cells g v s
  be : Below w0.heap.size w0 W
theorem DcS.more {w0 W W' : World} {g : Nat} {v : Value} {s : Rs} (h : DcS w0 W g v s) (hb : Below W.heap.size W W') : DcS w0 W' g v s := ⟨h.rd.below hb, h.be.trans (hb.mono h.be.size)⟩
theorem DcS.turn {w0 W W' : World} {g : Nat} {v : Value} {s s' : Rs} (h : DcS w0 W g v s) (ht : Turned w0.heap.size W 88 Rs.cells g v s' W') : DcS w0 W' g v s' := ⟨ht.rd, h.be.trans (ht.low h.be.size)⟩

theorem zend0 (w : World) : Below w.heap.size w (w.alloc zrc) := (Below.refl _ _).alloc (Nat.le_refl _) _
section
variable (c : Nat) (w : World) (q : Rc × Nat × Nat)
set_option maxRecDepth 100000 in
theorem recdec_empty (A : Option Addr) (hq : q = (rc0, 0, 40)) : Calls Tryz.prog 34 #[.slice A 0 c] w (DecPost w q) := by
  have HB := Lib.hid (zrefl w)
  obtain ⟨z0, z1, z2, z3, z4, z5, z6⟩ := (zbox HB.out).facts
  obtain ⟨r0, r1, r2, r3, r4, r5, r6⟩ := (zbox HB.out).free
  simp only [rc0] at z0 z1 z2 z3 z4 z5 z6
  go_enter Tryz.func34, Tryz.ntmps34
  go_wp2_with fail
  refine bodyPost_ret (v := .tuple #[.agg #[.int .i64 0, .int .i64 0, .int .i64 0, .int .i64 0, .int .i64 0, .string ⟨#[]⟩, .string ⟨#[]⟩], .int .i64 0, .int .i64 40]) (by simp [results, Tryz.results34, go_sem, z0, z1, z2, z3, z4, z5, z6]) rfl (decpost_no (k := 40) hq ?_)
  exact zend0 w
set_option maxRecDepth 100000 in
theorem recdec_mark (g off n x : Nat) (hq : q = (rc0, 0, 41)) (h0 : 0 < n) (hn : n ≤ c) (hg : g < w.heap.size) (hc : w.cell? ⟨g, off, none⟩ = some (.int .u8 (x : Int))) (hx : x ≠ 169) : Calls Tryz.prog 34 #[.slice (some ⟨g, off, none⟩) n c] w (DecPost w q) := by
  have HB := Lib.hid (zrefl w)
  obtain ⟨z0, z1, z2, z3, z4, z5, z6⟩ := (zbox HB.out).facts
  obtain ⟨r0, r1, r2, r3, r4, r5, r6⟩ := (zbox HB.out).free
  simp only [rc0] at z0 z1 z2 z3 z4 z5 z6
  have hx' : ((x : Int) != 169) = true := by rw [bne_iff_ne]; omega
  have hn0 : ((n : Int) == 0) = false := by rw [beq_eq_false_iff_ne]; omega
  have hn1 : (0 : Int) < (n : Int) := by omega
  have hc' : (w.alloc zrc).cell? ⟨g, off, none⟩ = some (.int .u8 (x : Int)) := ((zend0 w).cell (p := ⟨g, off, none⟩) hg).trans hc
  clear hx
  go_enter Tryz.func34, Tryz.ntmps34
  go_wp2_with fail
  refine bodyPost_ret (v := .tuple #[.agg #[.int .i64 0, .int .i64 0, .int .i64 0, .int .i64 0, .int .i64 0, .string ⟨#[]⟩, .string ⟨#[]⟩], .int .i64 0, .int .i64 41]) (by simp [results, Tryz.results34, go_sem, z0, z1, z2, z3, z4, z5, z6]) rfl (decpost_no (k := 41) hq ?_)
  exact zend0 w
set_option maxRecDepth 100000 in
theorem recdec_four (g off n : Nat) (hq : q = (rc0, 0, 40)) (h0 : 0 < n) (hn5 : n < 5) (hn : n ≤ c) (hg : g < w.heap.size) (hc : w.cell? ⟨g, off, none⟩ = some (.int .u8 169)) : Calls Tryz.prog 34 #[.slice (some ⟨g, off, none⟩) n c] w (DecPost w q) := by
  have HB := Lib.hid (zrefl w)
  obtain ⟨z0, z1, z2, z3, z4, z5, z6⟩ := (zbox HB.out).facts
  obtain ⟨r0, r1, r2, r3, r4, r5, r6⟩ := (zbox HB.out).free
  simp only [rc0] at z0 z1 z2 z3 z4 z5 z6
  have hn0 : ((n : Int) == 0) = false := by rw [beq_eq_false_iff_ne]; omega
  have hn1 : (0 : Int) < (n : Int) := by omega
  have hn5' : (n : Int) < 5 := by omega
  have hc' : (w.alloc zrc).cell? ⟨g, off, none⟩ = some (.int .u8 169) := ((zend0 w).cell (p := ⟨g, off, none⟩) hg).trans hc
  go_enter Tryz.func34, Tryz.ntmps34
  go_wp2_with fail
  refine bodyPost_ret (v := .tuple #[.agg #[.int .i64 0, .int .i64 0, .int .i64 0, .int .i64 0, .int .i64 0, .string ⟨#[]⟩, .string ⟨#[]⟩], .int .i64 0, .int .i64 40]) (by simp [results, Tryz.results34, go_sem, z0, z1, z2, z3, z4, z5, z6]) rfl (decpost_no (k := 40) hq ?_)
  exact zend0 w
set_option maxHeartbeats 1000000 in
set_option maxRecDepth 100000 in
/-- The length can be read. -/
theorem recdec_five_lt (g off n m : Nat) (b : List Nat) (hn : b.length = n) (hnc : n ≤ c) (hr : Rd w (some ⟨g, off, none⟩) (b8 b)) (hby : By b) (h5 : 5 ≤ n) (hm : m = n - 1) (h9 : n ≤ 9)
    (hl : n ≤ 140737488355328) (hc : w.cell? ⟨g, off, none⟩ = some (.int .u8 169)) (hk : (val ((b.drop 1).take 4) < 5 ∨ 1115 < val ((b.drop 1).take 4)) ∧ q = (rc0, 0, 41) ∨ 5 ≤ val ((b.drop 1).take 4) ∧ val ((b.drop 1).take 4) ≤ 1115 ∧ n < 9 + val ((b.drop 1).take 4) ∧ q = (rc0, 0, 40)) :
    Calls Tryz.prog 34 #[.slice (some ⟨g, off, none⟩) n c] w (DecPost w q) := by
  have HB := Lib.hid (zrefl w)
  have hg := (by obtain ⟨g', off', e, hg', _⟩ := hr (by rintro e; have : b = [] := (by simpa [b8] using e); subst this; simp at hn; omega); injection e with e; injection e with e1; exact e1 ▸ hg' : g < w.heap.size)
  have hn0 : ((n : Int) == 0) = false := by rw [beq_eq_false_iff_ne]; omega
  have hn1 : (0 : Int) < (n : Int) := by omega
  have hn5' : ¬ (n : Int) < 5 := by omega
  have hc' : (w.alloc zrc).cell? ⟨g, off, none⟩ = some (.int .u8 169) := ((zend0 w).cell (p := ⟨g, off, none⟩) hg).trans hc
  have hsl : ((b.drop 1).take m).length = m := by simp only [List.length_take, List.length_drop]; omega
  have hsb : By ((b.drop 1).take m) := (hby.drop 1).take m
  have PN := Lib.hid (newReader_is (some ⟨g, off + 1, none⟩) m (c - 1) ((b.drop 1).take m) (w.alloc zrc) ((rd_seg (p := 1) (k := m) hr).below (zend0 w)) hsl hsb (by omega))
  unfold Newed at PN
  have PU := Lib.hid (fun B W g v (h : Rdr B W 88 Rs.cells g v ⟨(b.drop 1).take m, 0, 0, 0⟩) => u32_r B g v _ W h)
  rw [seg_take hn h5 (by omega)] at PU
  unfold Gave at PU
  simp only at PU
  have hz4 : val ((b.drop 1).take 4) < 4294967296 := by
    have := val_lt 4 _ ((hby.drop 1).take 4) (by simp only [List.length_take, List.length_drop]; omega)
    simpa using this
  subst hm
  obtain ⟨z, hz⟩ : ∃ z, z = val ((b.drop 1).take 4) := ⟨_, rfl⟩
  rw [← hz] at PU hk hz4
  obtain ⟨seg, hseg⟩ : ∃ seg, seg = (b.drop 1).take (n - 1) := ⟨_, rfl⟩
  rw [← hseg] at PN PU
  clear hz hseg hsl hsb hr hby hn
  have hmin : ¬ (9 : Int) < (n : Int) := by omega
  have hc1 : ¬ c = 1 := by omega
  rcases hk with ⟨hz, hq⟩ | ⟨hz5, hz1, hzn, hq⟩
  · by_cases hz5 : z < 5
    · have hz5' : (z : Int) < 5 := by omega
      go_enter Tryz.func34, Tryz.ntmps34
      go_wp2_with fail
      refine PN.out.mono ?_
      rintro e w1 ⟨g1, v1, rfl, hr1, hb1⟩
      have HR1 := Lib.hid hr1
      have B1 := Lib.hid hb1
      clear hr1 hb1
      go_wp2_with fail
      refine (PU.out _ w1 g1 v1 HR1.out).mono ?_
      rintro e w2 ⟨rfl, ht⟩
      have B2 := Lib.hid (B1.out.trans (ht.low B1.out.size))
      clear ht
      obtain ⟨z0, z1, z2, z3, z4, z5, z6⟩ := (zbox B2.out).facts
      obtain ⟨r0, r1, r2, r3, r4, r5, r6⟩ := (zbox B2.out).free
      simp only [rc0] at z0 z1 z2 z3 z4 z5 z6
      go_wp2_with fail
      refine bodyPost_ret (v := .tuple #[.agg #[.int .i64 0, .int .i64 0, .int .i64 0, .int .i64 0, .int .i64 0, .string ⟨#[]⟩, .string ⟨#[]⟩], .int .i64 0, .int .i64 41]) (by simp [results, Tryz.results34, go_sem, z0, z1, z2, z3, z4, z5, z6]) rfl (decpost_no (k := 41) hq ?_)
      exact zend B2.out rc0
    · have hz5' : ¬ (z : Int) < 5 := by omega
      have hz1' : (1115 : Int) < (z : Int) := by omega
      go_enter Tryz.func34, Tryz.ntmps34
      go_wp2_with fail
      refine PN.out.mono ?_
      rintro e w1 ⟨g1, v1, rfl, hr1, hb1⟩
      have HR1 := Lib.hid hr1
      have B1 := Lib.hid hb1
      clear hr1 hb1
      go_wp2_with fail
      refine (PU.out _ w1 g1 v1 HR1.out).mono ?_
      rintro e w2 ⟨rfl, ht⟩
      have B2 := Lib.hid (B1.out.trans (ht.low B1.out.size))
      clear ht
      obtain ⟨z0, z1, z2, z3, z4, z5, z6⟩ := (zbox B2.out).facts
      obtain ⟨r0, r1, r2, r3, r4, r5, r6⟩ := (zbox B2.out).free
      simp only [rc0] at z0 z1 z2 z3 z4 z5 z6
      go_wp2_with fail
      refine bodyPost_ret (v := .tuple #[.agg #[.int .i64 0, .int .i64 0, .int .i64 0, .int .i64 0, .int .i64 0, .string ⟨#[]⟩, .string ⟨#[]⟩], .int .i64 0, .int .i64 41]) (by simp [results, Tryz.results34, go_sem, z0, z1, z2, z3, z4, z5, z6]) rfl (decpost_no (k := 41) hq ?_)
      exact zend B2.out rc0
  · have hz5' : ¬ (z : Int) < 5 := by omega
    have hz1' : ¬ (1115 : Int) < (z : Int) := by omega
    have hzn' : (n : Int) < 9 + (z : Int) := by omega
    go_enter Tryz.func34, Tryz.ntmps34
    go_wp2_with fail
    refine PN.out.mono ?_
    rintro e w1 ⟨g1, v1, rfl, hr1, hb1⟩
    have HR1 := Lib.hid hr1
    have B1 := Lib.hid hb1
    clear hr1 hb1
    go_wp2_with fail
    refine (PU.out _ w1 g1 v1 HR1.out).mono ?_
    rintro e w2 ⟨rfl, ht⟩
    have B2 := Lib.hid (B1.out.trans (ht.low B1.out.size))
    clear ht
    obtain ⟨z0, z1, z2, z3, z4, z5, z6⟩ := (zbox B2.out).facts
    obtain ⟨r0, r1, r2, r3, r4, r5, r6⟩ := (zbox B2.out).free
    simp only [rc0] at z0 z1 z2 z3 z4 z5 z6
    go_wp2_with fail
    refine bodyPost_ret (v := .tuple #[.agg #[.int .i64 0, .int .i64 0, .int .i64 0, .int .i64 0, .int .i64 0, .string ⟨#[]⟩, .string ⟨#[]⟩], .int .i64 0, .int .i64 40]) (by simp [results, Tryz.results34, go_sem, z0, z1, z2, z3, z4, z5, z6]) rfl (decpost_no (k := 40) hq ?_)
    exact zend B2.out rc0
set_option maxHeartbeats 1000000 in
set_option maxRecDepth 100000 in
/-- The length can be read. -/
theorem recdec_five_ge (g off n m : Nat) (b : List Nat) (hn : b.length = n) (hnc : n ≤ c) (hr : Rd w (some ⟨g, off, none⟩) (b8 b)) (hby : By b) (h5 : 5 ≤ n) (hm : m = 8) (h9 : 9 < n)
    (hl : n ≤ 140737488355328) (hc : w.cell? ⟨g, off, none⟩ = some (.int .u8 169)) (hk : (val ((b.drop 1).take 4) < 5 ∨ 1115 < val ((b.drop 1).take 4)) ∧ q = (rc0, 0, 41) ∨ 5 ≤ val ((b.drop 1).take 4) ∧ val ((b.drop 1).take 4) ≤ 1115 ∧ n < 9 + val ((b.drop 1).take 4) ∧ q = (rc0, 0, 40)) :
    Calls Tryz.prog 34 #[.slice (some ⟨g, off, none⟩) n c] w (DecPost w q) := by
  have HB := Lib.hid (zrefl w)
  have hg := (by obtain ⟨g', off', e, hg', _⟩ := hr (by rintro e; have : b = [] := (by simpa [b8] using e); subst this; simp at hn; omega); injection e with e; injection e with e1; exact e1 ▸ hg' : g < w.heap.size)
  have hn0 : ((n : Int) == 0) = false := by rw [beq_eq_false_iff_ne]; omega
  have hn1 : (0 : Int) < (n : Int) := by omega
  have hn5' : ¬ (n : Int) < 5 := by omega
  have hc' : (w.alloc zrc).cell? ⟨g, off, none⟩ = some (.int .u8 169) := ((zend0 w).cell (p := ⟨g, off, none⟩) hg).trans hc
  have hsl : ((b.drop 1).take m).length = m := by simp only [List.length_take, List.length_drop]; omega
  have hsb : By ((b.drop 1).take m) := (hby.drop 1).take m
  have PN := Lib.hid (newReader_is (some ⟨g, off + 1, none⟩) m (c - 1) ((b.drop 1).take m) (w.alloc zrc) ((rd_seg (p := 1) (k := m) hr).below (zend0 w)) hsl hsb (by omega))
  unfold Newed at PN
  have PU := Lib.hid (fun B W g v (h : Rdr B W 88 Rs.cells g v ⟨(b.drop 1).take m, 0, 0, 0⟩) => u32_r B g v _ W h)
  rw [seg_take hn h5 (by omega)] at PU
  unfold Gave at PU
  simp only at PU
  have hz4 : val ((b.drop 1).take 4) < 4294967296 := by
    have := val_lt 4 _ ((hby.drop 1).take 4) (by simp only [List.length_take, List.length_drop]; omega)
    simpa using this
  subst hm
  obtain ⟨z, hz⟩ : ∃ z, z = val ((b.drop 1).take 4) := ⟨_, rfl⟩
  rw [← hz] at PU hk hz4
  obtain ⟨seg, hseg⟩ : ∃ seg, seg = (b.drop 1).take 8 := ⟨_, rfl⟩
  rw [← hseg] at PN PU
  clear hz hseg hsl hsb hr hby hn
  have hmin : (9 : Int) < (n : Int) := by omega
  have hc1 : ¬ c = 1 := by omega
  rcases hk with ⟨hz, hq⟩ | ⟨hz5, hz1, hzn, hq⟩
  · by_cases hz5 : z < 5
    · have hz5' : (z : Int) < 5 := by omega
      go_enter Tryz.func34, Tryz.ntmps34
      go_wp2_with fail
      refine PN.out.mono ?_
      rintro e w1 ⟨g1, v1, rfl, hr1, hb1⟩
      have HR1 := Lib.hid hr1
      have B1 := Lib.hid hb1
      clear hr1 hb1
      go_wp2_with fail
      refine (PU.out _ w1 g1 v1 HR1.out).mono ?_
      rintro e w2 ⟨rfl, ht⟩
      have B2 := Lib.hid (B1.out.trans (ht.low B1.out.size))
      clear ht
      obtain ⟨z0, z1, z2, z3, z4, z5, z6⟩ := (zbox B2.out).facts
      obtain ⟨r0, r1, r2, r3, r4, r5, r6⟩ := (zbox B2.out).free
      simp only [rc0] at z0 z1 z2 z3 z4 z5 z6
      go_wp2_with fail
      refine bodyPost_ret (v := .tuple #[.agg #[.int .i64 0, .int .i64 0, .int .i64 0, .int .i64 0, .int .i64 0, .string ⟨#[]⟩, .string ⟨#[]⟩], .int .i64 0, .int .i64 41]) (by simp [results, Tryz.results34, go_sem, z0, z1, z2, z3, z4, z5, z6]) rfl (decpost_no (k := 41) hq ?_)
      exact zend B2.out rc0
    · have hz5' : ¬ (z : Int) < 5 := by omega
      have hz1' : (1115 : Int) < (z : Int) := by omega
      go_enter Tryz.func34, Tryz.ntmps34
      go_wp2_with fail
      refine PN.out.mono ?_
      rintro e w1 ⟨g1, v1, rfl, hr1, hb1⟩
      have HR1 := Lib.hid hr1
      have B1 := Lib.hid hb1
      clear hr1 hb1
      go_wp2_with fail
      refine (PU.out _ w1 g1 v1 HR1.out).mono ?_
      rintro e w2 ⟨rfl, ht⟩
      have B2 := Lib.hid (B1.out.trans (ht.low B1.out.size))
      clear ht
      obtain ⟨z0, z1, z2, z3, z4, z5, z6⟩ := (zbox B2.out).facts
      obtain ⟨r0, r1, r2, r3, r4, r5, r6⟩ := (zbox B2.out).free
      simp only [rc0] at z0 z1 z2 z3 z4 z5 z6
      go_wp2_with fail
      refine bodyPost_ret (v := .tuple #[.agg #[.int .i64 0, .int .i64 0, .int .i64 0, .int .i64 0, .int .i64 0, .string ⟨#[]⟩, .string ⟨#[]⟩], .int .i64 0, .int .i64 41]) (by simp [results, Tryz.results34, go_sem, z0, z1, z2, z3, z4, z5, z6]) rfl (decpost_no (k := 41) hq ?_)
      exact zend B2.out rc0
  · have hz5' : ¬ (z : Int) < 5 := by omega
    have hz1' : ¬ (1115 : Int) < (z : Int) := by omega
    have hzn' : (n : Int) < 9 + (z : Int) := by omega
    go_enter Tryz.func34, Tryz.ntmps34
    go_wp2_with fail
    refine PN.out.mono ?_
    rintro e w1 ⟨g1, v1, rfl, hr1, hb1⟩
    have HR1 := Lib.hid hr1
    have B1 := Lib.hid hb1
    clear hr1 hb1
    go_wp2_with fail
    refine (PU.out _ w1 g1 v1 HR1.out).mono ?_
    rintro e w2 ⟨rfl, ht⟩
    have B2 := Lib.hid (B1.out.trans (ht.low B1.out.size))
    clear ht
    obtain ⟨z0, z1, z2, z3, z4, z5, z6⟩ := (zbox B2.out).facts
    obtain ⟨r0, r1, r2, r3, r4, r5, r6⟩ := (zbox B2.out).free
    simp only [rc0] at z0 z1 z2 z3 z4 z5 z6
    go_wp2_with fail
    refine bodyPost_ret (v := .tuple #[.agg #[.int .i64 0, .int .i64 0, .int .i64 0, .int .i64 0, .int .i64 0, .string ⟨#[]⟩, .string ⟨#[]⟩], .int .i64 0, .int .i64 40]) (by simp [results, Tryz.results34, go_sem, z0, z1, z2, z3, z4, z5, z6]) rfl (decpost_no (k := 40) hq ?_)
    exact zend B2.out rc0
end
end Go.Proofs.YtljfmcgeiceagaaGreat

/- record.Decode: whole. -/
namespace Go.Proofs.YtljfmcgeiceagaaGreat
open Go Go.RowKit
set_option linter.unusedVariables false
set_option linter.unusedSimpArgs false

theorem zend2 {w W : World} (h : Below (w.alloc zrc).heap.size (w.alloc zrc) W) (x : Rc) (o : Obj) : RBox ((W7 W w.heap.size x).alloc o) w.heap.size x ∧ Below w.heap.size w ((W7 W w.heap.size x).alloc o) :=
  ⟨((zbox h).w7 x).below ((Below.refl _ _).alloc (Nat.le_refl _) o) ((zbox h).w7 x).lt, (zend h x).alloc (zend h x).size o⟩
section
variable (c : Nat) (w : World) (q : Rc × Nat × Nat)
set_option maxHeartbeats 4000000 in
set_option maxRecDepth 100000 in
theorem recdec_long (g off n z : Nat) (b : List Nat) (hn : b.length = n) (hnc : n ≤ c) (hr : Rd w (some ⟨g, off, none⟩) (b8 b)) (hby : By b) (h5 : 14 ≤ n)
    (hl : n ≤ 140737488355328) (hc : w.cell? ⟨g, off, none⟩ = some (.int .u8 169)) (hz : z = val ((b.drop 1).take 4)) (hz5 : 5 ≤ z) (hz1 : z ≤ 1115) (hzn : 9 + z ≤ n)
    (hq : q = if val ((b.drop 5).take 4) = Crc.ext (Crc.ext 0 ((b.drop 1).take 4)) ((b.drop 9).take z) then (match prd ((b.drop 9).take z) with | some x => (x, 9 + z, 0) | none => (rc0, 0, 41)) else (rc0, 0, 41)) :
    Calls Tryz.prog 34 #[.slice (some ⟨g, off, none⟩) n c] w (DecPost w q) := by
  have HB := Lib.hid (zrefl w)
  have hg := (by obtain ⟨g', off', e, hg', _⟩ := hr (by rintro e; have : b = [] := (by simpa [b8] using e); subst this; simp at hn; omega); injection e with e; injection e with e1; exact e1 ▸ hg' : g < w.heap.size)
  have hn0 : ((n : Int) == 0) = false := by rw [beq_eq_false_iff_ne]; omega
  have hn1 : (0 : Int) < (n : Int) := by omega
  have hn5' : ¬ (n : Int) < 5 := by omega
  have hc' : (w.alloc zrc).cell? ⟨g, off, none⟩ = some (.int .u8 169) := ((zend0 w).cell (p := ⟨g, off, none⟩) hg).trans hc
  have hsl : ((b.drop 1).take 8).length = 8 := by simp only [List.length_take, List.length_drop]; omega
  have hsb : By ((b.drop 1).take 8) := (hby.drop 1).take 8
  have PN := Lib.hid (newReader_is (some ⟨g, off + 1, none⟩) 8 (c - 1) ((b.drop 1).take 8) (w.alloc zrc) ((rd_seg (p := 1) (k := 8) hr).below (zend0 w)) hsl hsb (by omega))
  unfold Newed at PN
  have PU := Lib.hid (fun B W g v (h : Rdr B W 88 Rs.cells g v ⟨(b.drop 1).take 8, 0, 0, 0⟩) => u32_r B g v _ W h)
  rw [seg_take hn (by omega) (by omega)] at PU
  have PU2 := Lib.hid (fun W g v (h : DcS (w.alloc zrc) W g v ⟨(b.drop 1).take 8, 4, 0, 0⟩) => u32_r (w.alloc zrc).heap.size g v _ W h.rd)
  rw [seg_take2 hn (by omega)] at PU2
  unfold Gave at PU PU2
  simp only at PU PU2
  have hl1 : ((b.drop 1).take 4).length = 4 := by simp only [List.length_take, List.length_drop]; omega
  have hb1 : By ((b.drop 1).take 4) := (hby.drop 1).take 4
  have hl9 : ((b.drop 9).take z).length = z := by simp only [List.length_take, List.length_drop]; omega
  have hb9 : By ((b.drop 9).take z) := (hby.drop 9).take z
  have hr1 := (rd_seg (p := 1) (k := 4) hr).below (zend0 w)
  have hr9 := (rd_seg (p := 9) (k := z) hr).below (zend0 w)
  have PS := Lib.hid (fun W (hW : Below (w.alloc zrc).heap.size (w.alloc zrc) W) => sum_any (some ⟨g, off + 1, none⟩) 4 (c - 1) ((b.drop 1).take 4) W (hr1.below hW) hb1 hl1 (by omega))
  have hel := ext0_lt hb1
  have PE := Lib.hid (fun W l (hll : l = z) (hW : Below (w.alloc zrc).heap.size (w.alloc zrc) W) => extend_any (Crc.ext 0 ((b.drop 1).take 4)) (some ⟨g, off + 9, none⟩) l (c - 9) ((b.drop 9).take z) W hel (hr9.below hW) hb9 (hl9.trans hll.symm) (by omega))
  have PR := Lib.hid (fun W (hW : Below (w.alloc zrc).heap.size (w.alloc zrc) W) => recread_is (some ⟨g, off + 9, none⟩) z (c - 9) ((b.drop 9).take z) W (hr9.below hW) hl9 hb9 hz1)
  unfold ReadPost at PR
  obtain ⟨S, hS⟩ : ∃ S, S = val ((b.drop 5).take 4) := ⟨_, rfl⟩
  obtain ⟨E, hE⟩ : ∃ E, E = Crc.ext (Crc.ext 0 ((b.drop 1).take 4)) ((b.drop 9).take z) := ⟨_, rfl⟩
  obtain ⟨Y, hY⟩ : ∃ Y, Y = Crc.ext 0 ((b.drop 1).take 4) := ⟨_, rfl⟩
  obtain ⟨pr, hpr⟩ : ∃ pr, pr = prd ((b.drop 9).take z) := ⟨_, rfl⟩
  rw [← hE] at PE
  rw [← hY] at PS PE
  rw [← hS] at PU2
  rw [← hz] at PU
  rw [← hpr] at PR
  have HQ : Hid (q = if S = E then (match pr with | some x => (x, 9 + z, 0) | none => (rc0, 0, 41)) else (rc0, 0, 41)) := Lib.hid (by rw [hq, ← hS, ← hE, ← hpr])
  obtain ⟨seg, hseg⟩ : ∃ seg, seg = (b.drop 1).take 8 := ⟨_, rfl⟩
  rw [← hseg] at PN PU PU2
  clear hz hseg hsl hsb hr hby hn hS hE hY hpr hq hl1 hb1 hl9 hb9 hr1 hr9 hel
  have hmin : (9 : Int) < (n : Int) := by omega
  have hc1 : ¬ c = 1 := by omega
  have hc9 : ¬ c = 9 := by omega
  have hz5' : ¬ (z : Int) < 5 := by omega
  have hz1' : ¬ (1115 : Int) < (z : Int) := by omega
  have hzn' : ¬ (n : Int) < 9 + (z : Int) := by omega
  have hz9 : (0 : Int) ≤ 9 + (z : Int) := by omega
  have hzc : 9 + (z : Int) ≤ (c : Int) := by omega
  have hz99 : (9 : Int) ≤ 9 + (z : Int) := by omega
  have hwz : IntKind.i64.wrap (9 + (z : Int)) = 9 + (z : Int) := by rw [IntKind.wrap_i64]; omega
  have hwz2 : wrap64 (9 + (z : Int)) = 9 + (z : Int) := by unfold wrap64; omega
  have h5c : (5 : Int) ≤ (c : Int) := by omega
  go_enter Tryz.func34, Tryz.ntmps34
  go_wp2_with fail
  refine PN.out.mono ?_
  rintro e w1 ⟨g1, v1, rfl, hr1, hb1⟩
  have HR1 := Lib.hid hr1
  have B1 := Lib.hid hb1
  clear hr1 hb1
  go_wp2_with fail
  refine (PU.out _ w1 g1 v1 HR1.out).mono ?_
  rintro e w2 ⟨rfl, ht⟩
  have D2 : Hid (DcS (w.alloc zrc) w2 g1 v1 ⟨seg, 4, 0, 0⟩) := Lib.hid ⟨ht.rd, B1.out.trans (ht.low B1.out.size)⟩
  clear ht HR1 B1
  go_upto_region 13 with (fail)
  go_cut [54] from 9 (fun s54 wx => s54 = .bool ((S : Int) != (E : Int)) ∧ Below (w.alloc zrc).heap.size (w.alloc zrc) wx)
  case first =>
    have D2' : Hid (DcS (w.alloc zrc) w2.drew g1 v1 ⟨seg, 4, 0, 0⟩) := Lib.hid (D2.out.more (below_drewN (Below.refl _ _) 1))
    go_region_with (first
      | (go_at_call 66; refine (PU2.out _ g1 v1 (by first | exact D2'.out | exact (by assumption : Hid (DcS (w.alloc zrc) _ g1 v1 ⟨seg, 4, 0, 0⟩)).out)).mono ?_; rintro e w3 ⟨rfl, ht3⟩; have D3 : Hid (DcS (w.alloc zrc) w3 g1 v1 ⟨seg, 8, 0, 0⟩) := (by first | exact Lib.hid (D2'.out.turn ht3) | exact Lib.hid ((by assumption : Hid (DcS (w.alloc zrc) _ g1 v1 ⟨seg, 4, 0, 0⟩)).out.turn ht3)))
      | (go_at_call 68; refine (PS.out _ (by first | exact D2'.out.be | exact (by assumption : Hid (DcS (w.alloc zrc) _ g1 v1 ⟨seg, 8, 0, 0⟩)).out.be)).mono ?_; rintro e w4 ⟨rfl, hb4⟩; first | (have D4 : Hid (DcS (w.alloc zrc) w4 g1 v1 ⟨seg, 4, 0, 0⟩) := Lib.hid (D2'.out.more hb4)) | (have D4 : Hid (DcS (w.alloc zrc) w4 g1 v1 ⟨seg, 8, 0, 0⟩) := Lib.hid ((by assumption : Hid (DcS (w.alloc zrc) _ g1 v1 ⟨seg, 8, 0, 0⟩)).out.more hb4)))
      | (go_at_call 67; refine (PE.out _ _ (by first | rfl | omega) (by first | exact (by assumption : Hid (DcS (w.alloc zrc) _ g1 v1 ⟨seg, 4, 0, 0⟩)).out.be | exact (by assumption : Hid (DcS (w.alloc zrc) _ g1 v1 ⟨seg, 8, 0, 0⟩)).out.be)).mono ?_; rintro e w5 ⟨rfl, hb5⟩; first | (have D5 : Hid (DcS (w.alloc zrc) w5 g1 v1 ⟨seg, 4, 0, 0⟩) := Lib.hid ((by assumption : Hid (DcS (w.alloc zrc) _ g1 v1 ⟨seg, 4, 0, 0⟩)).out.more hb5)) | (have D5 : Hid (DcS (w.alloc zrc) w5 g1 v1 ⟨seg, 8, 0, 0⟩) := Lib.hid ((by assumption : Hid (DcS (w.alloc zrc) _ g1 v1 ⟨seg, 8, 0, 0⟩)).out.more hb5))))
    all_goals
      go_wp2_with fail
      go_meet
      case rel => exact ⟨rfl, (by assumption : Hid (DcS (w.alloc zrc) _ g1 v1 ⟨seg, 8, 0, 0⟩)).out.be⟩
  case' rest => obtain ⟨rfl, hbe⟩ := hcut; have BE := Lib.hid hbe; clear hbe D2 PN PU PU2 PS PE
  by_cases hSE : S = E
  · have e1 : ((S : Int) != (E : Int)) = false := by rw [hSE]; simp
    have HQ2 := Lib.hid (HQ.out.trans (if_pos hSE))
    clear HQ hSE
    go_wp2_with fail
    refine (PR.out wc BE.out).mono ?_
    rintro e w7 ⟨⟨k, o, t, p, s, key, val⟩, bb, rfl, hpr, hb7⟩
    have B7 := Lib.hid (BE.out.trans (hb7.mono BE.out.size))
    have HB8 := Lib.hid (B7.out.alloc B7.out.size (rcObj ⟨k, o, t, p, s, key, val⟩))
    have hlt7 : w.heap.size < w7.heap.size := by have := B7.out.size; simp at this; omega
    clear hb7
    unfold Rc.v
    simp only
    obtain ⟨z0, z1, z2, z3, z4, z5, z6⟩ := (zbox B7.out).facts
    obtain ⟨r0, r1, r2, r3, r4, r5, r6⟩ := (zbox B7.out).free
    simp only [rc0] at z0 z1 z2 z3 z4 z5 z6
    cases bb with
    | true =>
      have HQ3 : Hid (q = (⟨k, o, t, p, s, key, val⟩, 9 + z, 0)) := Lib.hid (by rw [HQ2.out, hpr]; rfl)
      clear HQ2 hpr
      obtain ⟨HR8, HE8⟩ := zend2 B7.out ⟨k, o, t, p, s, key, val⟩ (rcObj ⟨k, o, t, p, s, key, val⟩)
      obtain ⟨d0, d1, d2, d3, d4, d5, d6⟩ := HR8.facts
      simp only [rcObj] at d0 d1 d2 d3 d4 d5 d6
      have HE9 := Lib.hid HE8
      clear HR8 HE8
      go_wp2_with fail
      refine bodyPost_ret (v := .tuple #[.agg #[.int .i64 k, .int .i64 o, .int .i64 t, .int .i64 p, .int .i64 s, .string key, .string val], .int .i64 (9 + (z : Int)), .int .i64 0]) (by simp [results, Tryz.results34, go_sem, d0, d1, d2, d3, d4, d5, d6]) rfl ⟨?_, HE9.out⟩
      rw [HQ3.out]
      simp only [Rc.v]
      rw [show ((9 + z : Nat) : Int) = 9 + (z : Int) by omega]
      rfl
    | false =>
      have HQ3 : Hid (q = (rc0, 0, 41)) := Lib.hid (by rw [HQ2.out, hpr]; rfl)
      clear HQ2 hpr
      obtain ⟨HR8, HE8⟩ := zend2 B7.out rc0 (rcObj ⟨k, o, t, p, s, key, val⟩)
      obtain ⟨d0, d1, d2, d3, d4, d5, d6⟩ := HR8.facts
      simp only [rcObj, rc0] at d0 d1 d2 d3 d4 d5 d6
      have HE9 := Lib.hid HE8
      clear HR8 HE8
      go_wp2_with fail
      refine bodyPost_ret (v := .tuple #[.agg #[.int .i64 0, .int .i64 0, .int .i64 0, .int .i64 0, .int .i64 0, .string ⟨#[]⟩, .string ⟨#[]⟩], .int .i64 0, .int .i64 41]) (by simp [results, Tryz.results34, go_sem, d0, d1, d2, d3, d4, d5, d6]) rfl (decpost_no (k := 41) HQ3.out ?_)
      exact HE9.out
  · have e1 : ((S : Int) != (E : Int)) = true := by rw [bne_iff_ne]; omega
    have HQ2 := Lib.hid (HQ.out.trans (if_neg hSE))
    clear HQ hSE
    obtain ⟨z0, z1, z2, z3, z4, z5, z6⟩ := (zbox BE.out).facts
    obtain ⟨r0, r1, r2, r3, r4, r5, r6⟩ := (zbox BE.out).free
    simp only [rc0] at z0 z1 z2 z3 z4 z5 z6
    go_wp2_with fail
    refine bodyPost_ret (v := .tuple #[.agg #[.int .i64 0, .int .i64 0, .int .i64 0, .int .i64 0, .int .i64 0, .string ⟨#[]⟩, .string ⟨#[]⟩], .int .i64 0, .int .i64 41]) (by simp [results, Tryz.results34, go_sem, z0, z1, z2, z3, z4, z5, z6]) rfl (decpost_no (k := 41) HQ2.out ?_)
    exact zend BE.out rc0
end
theorem recdecode_is (A : Option Addr) (n c : Nat) (b : List Nat) (w : World) (hr : Rd w A (b8 b)) (hn : b.length = n) (hnc : n ≤ c) (hby : By b) (hl : n ≤ 140737488355328) :
    Calls Tryz.prog 34 #[.slice A n c] w (DecPost w (rdec b)) := by
  by_cases h0 : n = 0
  · subst h0
    exact recdec_empty c w _ A (by unfold rdec; rw [if_pos hn])
  · obtain ⟨g, off, rfl, hg, hc⟩ := hr.some_ (by omega)
    have h0' : ¬ b.length = 0 := by omega
    by_cases h169 : b.headD 0 = 169
    · rw [h169] at hc
      by_cases h5 : n < 5
      · exact recdec_four c w _ g off n (by unfold rdec; rw [if_neg h0', if_neg (by simpa using h169), if_pos (by omega)]) (by omega) h5 hnc hg hc
      · obtain ⟨z, hz⟩ : ∃ z, z = val ((b.drop 1).take 4) := ⟨_, rfl⟩
        by_cases hr5 : z < 5 ∨ 1115 < z
        · have hq : rdec b = (rc0, 0, 41) := by unfold rdec; rw [if_neg h0', if_neg (by simpa using h169), if_neg (by omega), ← hz, if_pos hr5]
          by_cases h9 : n ≤ 9
          · exact recdec_five_lt c w _ g off n (n - 1) b hn hnc hr hby (by omega) rfl h9 hl hc (.inl ⟨by rw [← hz]; exact hr5, hq⟩)
          · exact recdec_five_ge c w _ g off n 8 b hn hnc hr hby (by omega) rfl (by omega) hl hc (.inl ⟨by rw [← hz]; exact hr5, hq⟩)
        · by_cases hzn : n < 9 + z
          · have hq : rdec b = (rc0, 0, 40) := by unfold rdec; rw [if_neg h0', if_neg (by simpa using h169), if_neg (by omega), ← hz, if_neg hr5, if_pos (by omega)]
            by_cases h9 : n ≤ 9
            · exact recdec_five_lt c w _ g off n (n - 1) b hn hnc hr hby (by omega) rfl h9 hl hc (.inr (by rw [← hz]; exact ⟨by omega, by omega, hzn, hq⟩))
            · exact recdec_five_ge c w _ g off n 8 b hn hnc hr hby (by omega) rfl (by omega) hl hc (.inr (by rw [← hz]; exact ⟨by omega, by omega, hzn, hq⟩))
          · exact recdec_long c w _ g off n z b hn hnc hr hby (by omega) hl hc hz (by omega) (by omega) (by omega) (rdec_prog hby h0' h169 (by omega) hz.symm hr5 (by omega))
    · exact recdec_mark c w _ g off n (b.headD 0) (by unfold rdec; rw [if_neg h0', if_pos h169]) (by omega) hnc hg hc h169
end Go.Proofs.YtljfmcgeiceagaaGreat

/- The document's Decode. -/
namespace Go.Proofs.YtljfmcgeiceagaaGreat
open Go Go.RowKit
set_option linter.unusedVariables false
set_option linter.unusedSimpArgs false

section
variable (c : Nat) (w : World) (q : Rc × Nat × Nat)
set_option maxRecDepth 100000 in
theorem rrecdec_empty (A : Option Addr) (hq : q = (rc0, 0, 40)) : Calls Tryz.prog 43 #[.slice A 0 c] w (DecPost w q) := by
  have HB := Lib.hid (zrefl w)
  obtain ⟨z0, z1, z2, z3, z4, z5, z6⟩ := (zbox HB.out).facts
  obtain ⟨r0, r1, r2, r3, r4, r5, r6⟩ := (zbox HB.out).free
  simp only [rc0] at z0 z1 z2 z3 z4 z5 z6
  go_enter Tryz.func43, Tryz.ntmps43
  go_wp2_with fail
  refine bodyPost_ret (v := .tuple #[.agg #[.int .i64 0, .int .i64 0, .int .i64 0, .int .i64 0, .int .i64 0, .string ⟨#[]⟩, .string ⟨#[]⟩], .int .i64 0, .int .i64 40]) (by simp [results, Tryz.results43, go_sem, z0, z1, z2, z3, z4, z5, z6]) rfl (decpost_no (k := 40) hq ?_)
  exact zend0 w
set_option maxRecDepth 100000 in
theorem rrecdec_mark (g off n x : Nat) (hq : q = (rc0, 0, 41)) (h0 : 0 < n) (hn : n ≤ c) (hg : g < w.heap.size) (hc : w.cell? ⟨g, off, none⟩ = some (.int .u8 (x : Int))) (hx : x ≠ 169) : Calls Tryz.prog 43 #[.slice (some ⟨g, off, none⟩) n c] w (DecPost w q) := by
  have HB := Lib.hid (zrefl w)
  obtain ⟨z0, z1, z2, z3, z4, z5, z6⟩ := (zbox HB.out).facts
  obtain ⟨r0, r1, r2, r3, r4, r5, r6⟩ := (zbox HB.out).free
  simp only [rc0] at z0 z1 z2 z3 z4 z5 z6
  have hx' : ((x : Int) != 169) = true := by rw [bne_iff_ne]; omega
  have hn0 : ((n : Int) == 0) = false := by rw [beq_eq_false_iff_ne]; omega
  have hn1 : (0 : Int) < (n : Int) := by omega
  have hc' : (w.alloc zrc).cell? ⟨g, off, none⟩ = some (.int .u8 (x : Int)) := ((zend0 w).cell (p := ⟨g, off, none⟩) hg).trans hc
  clear hx
  go_enter Tryz.func43, Tryz.ntmps43
  go_wp2_with fail
  refine bodyPost_ret (v := .tuple #[.agg #[.int .i64 0, .int .i64 0, .int .i64 0, .int .i64 0, .int .i64 0, .string ⟨#[]⟩, .string ⟨#[]⟩], .int .i64 0, .int .i64 41]) (by simp [results, Tryz.results43, go_sem, z0, z1, z2, z3, z4, z5, z6]) rfl (decpost_no (k := 41) hq ?_)
  exact zend0 w
set_option maxRecDepth 100000 in
theorem rrecdec_four (g off n : Nat) (hq : q = (rc0, 0, 40)) (h0 : 0 < n) (hn5 : n < 5) (hn : n ≤ c) (hg : g < w.heap.size) (hc : w.cell? ⟨g, off, none⟩ = some (.int .u8 169)) : Calls Tryz.prog 43 #[.slice (some ⟨g, off, none⟩) n c] w (DecPost w q) := by
  have HB := Lib.hid (zrefl w)
  obtain ⟨z0, z1, z2, z3, z4, z5, z6⟩ := (zbox HB.out).facts
  obtain ⟨r0, r1, r2, r3, r4, r5, r6⟩ := (zbox HB.out).free
  simp only [rc0] at z0 z1 z2 z3 z4 z5 z6
  have hn0 : ((n : Int) == 0) = false := by rw [beq_eq_false_iff_ne]; omega
  have hn1 : (0 : Int) < (n : Int) := by omega
  have hn5' : (n : Int) < 5 := by omega
  have hc' : (w.alloc zrc).cell? ⟨g, off, none⟩ = some (.int .u8 169) := ((zend0 w).cell (p := ⟨g, off, none⟩) hg).trans hc
  go_enter Tryz.func43, Tryz.ntmps43
  go_wp2_with fail
  refine bodyPost_ret (v := .tuple #[.agg #[.int .i64 0, .int .i64 0, .int .i64 0, .int .i64 0, .int .i64 0, .string ⟨#[]⟩, .string ⟨#[]⟩], .int .i64 0, .int .i64 40]) (by simp [results, Tryz.results43, go_sem, z0, z1, z2, z3, z4, z5, z6]) rfl (decpost_no (k := 40) hq ?_)
  exact zend0 w
set_option maxHeartbeats 4000000 in
set_option maxRecDepth 100000 in
theorem rrecdec_five (g off n Z : Nat) (b : List Nat) (hn : b.length = n) (hnc : n ≤ c) (hr : Rd w (some ⟨g, off, none⟩) (b8 b)) (hby : By b) (h5 : 5 ≤ n)
    (hl : n ≤ 140737488355328) (hc : w.cell? ⟨g, off, none⟩ = some (.int .u8 169)) (hZ : val ((b.drop 1).take 4) = Z)
    (hq : q = if Z < 5 ∨ 1115 < Z then (rc0, 0, 41) else if n < 9 + Z then (rc0, 0, 40) else if chk (rdm ((b.drop 9).take Z)) = 0 ∧ wrap 169 (bdy (rdm ((b.drop 9).take Z))) = b.take (9 + Z) then (rdm ((b.drop 9).take Z), 9 + Z, 0) else (rc0, 0, 41)) :
    Calls Tryz.prog 43 #[.slice (some ⟨g, off, none⟩) n c] w (DecPost w q) := by
  have HB := Lib.hid (zrefl w)
  have hg := (by obtain ⟨g', off', e, hg', _⟩ := hr (by rintro e; have : b = [] := (by simpa [b8] using e); subst this; simp at hn; omega); injection e with e; injection e with e1; exact e1 ▸ hg' : g < w.heap.size)
  have hn0 : ((n : Int) == 0) = false := by rw [beq_eq_false_iff_ne]; omega
  have hn1 : (0 : Int) < (n : Int) := by omega
  have hn5' : ¬ (n : Int) < 5 := by omega
  have hc' : (w.alloc zrc).cell? ⟨g, off, none⟩ = some (.int .u8 169) := ((zend0 w).cell (p := ⟨g, off, none⟩) hg).trans hc
  have hseg : ((b.drop 1).take 4).length = 4 := by simp only [List.length_take, List.length_drop]; omega
  have hsby : By ((b.drop 1).take 4) := (hby.drop 1).take 4
  have hsr := (rd_seg (p := 1) (k := 4) hr).below (zend0 w)
  have HN := Lib.hid hn
  have HBY := Lib.hid hby
  have HR0 := Lib.hid (hr.below (zend0 w))
  obtain ⟨seg, hsg⟩ : ∃ seg, seg = (b.drop 1).take 4 := ⟨_, rfl⟩
  rw [← hsg] at hseg hsby hsr hZ
  have HS := Lib.hid hseg
  have HY := Lib.hid hsby
  have HR := Lib.hid hsr
  have HQ := Lib.hid hq
  have HZ := Lib.hid hZ
  clear hr hn hby hseg hsby hsr hsg hq hZ
  go_enter Tryz.func43, Tryz.ntmps43
  go_wp2
  go_loop [5, 6] (fun x i => ∃ k : Nat, k ≤ 4 ∧ i = .int .i64 ((k : Int) + 1) ∧ x = .int .i64 (val (seg.take k) : Nat)) (fun _ i => 5 - (intOf i).toNat)
  case atStart => exact ⟨0, Nat.zero_le _, rfl, rfl⟩
  case round =>
    obtain ⟨k, hk, rfl, rfl⟩ := hrel
    by_cases hlt : k < 4
    · obtain ⟨x, hx⟩ : ∃ x, seg[k]? = some x := ⟨_, List.getElem?_eq_getElem (by rw [HS.out]; exact hlt)⟩
      have hxl := HY.out x (List.mem_of_getElem? hx)
      obtain ⟨gA, offA, e, hgA, hcell⟩ := HR.out (by rintro e; have : seg = [] := (by simpa [b8] using e); subst this; simp at hx)
      injection e with e
      injection e with e1 e2 _
      subst e1 e2
      have d0 := hcell k (.int .u8 (x : Int)) (by rw [b8_get, hx]; rfl)
      rw [show off + 1 + k = off + (k + 1) by omega] at d0
      have d1 : w.cell? ⟨g, off + (k + 1), none⟩ = some (.int .u8 (x : Int)) := ((zend0 w).cell (p := ⟨g, off + (k + 1), none⟩) hg).symm.trans d0
      have hv := val_lt k (seg.take k) (fun b hb => HY.out b (List.mem_of_mem_take hb)) (by simp; have := HS.out; omega)
      have hv2 : val (seg.take k) < 16777216 := by
        have h2 : (256 : Nat) ^ k ≤ 256 ^ 3 := Nat.pow_le_pow_right (by omega) (by omega)
        have h3 : (256 : Nat) ^ 3 = 16777216 := by decide
        omega
      have HV := Lib.hid (val_take hx)
      obtain ⟨z, hz⟩ : ∃ z, z = val (seg.take k) := ⟨_, rfl⟩
      rw [← hz] at HV hv2 ⊢
      have i2 : (0 : Int) ≤ (k : Int) + 1 := by omega
      have i3 : (k : Int) + 1 < (n : Int) := by omega
      have i4 : ((k : Int) + 1).toNat = k + 1 := by omega
      clear hcell hx hv hz
      go_wp2
      go_round
      case rel => exact ⟨k + 1, by omega, by go_num, by rw [HV.out]; go_num⟩
      case measure => simp [intOf]; omega
    · have e0 : seg.take k = seg := List.take_of_length_le (by rw [HS.out]; omega)
      have hzl := val_lt 4 seg HY.out HS.out
      rw [e0]
      rw [HZ.out] at hzl ⊢
      have hz4 : Z < 4294967296 := by simpa using hzl
      have hk4 : k = 4 := by omega
      subst hk4
      clear e0 HR HY HS hzl HZ
      obtain ⟨z0, z1, z2, z3, z4, z5, z6⟩ := (zbox HB.out).facts
      obtain ⟨r0, r1, r2, r3, r4, r5, r6⟩ := (zbox HB.out).free
      simp only [rc0] at z0 z1 z2 z3 z4 z5 z6
      by_cases hz5 : Z < 5
      · have HQ2 := Lib.hid (HQ.out.trans (if_pos (.inl hz5)))
        have hz5' : (Z : Int) < 5 := by omega
        go_wp2
        refine bodyPost_ret (v := .tuple #[.agg #[.int .i64 0, .int .i64 0, .int .i64 0, .int .i64 0, .int .i64 0, .string ⟨#[]⟩, .string ⟨#[]⟩], .int .i64 0, .int .i64 41]) (by simp [results, Tryz.results43, go_sem, z0, z1, z2, z3, z4, z5, z6]) rfl (decpost_no (k := 41) HQ2.out ?_)
        exact zend0 w
      have hz5' : ¬ (Z : Int) < 5 := by omega
      by_cases hz1 : 1115 < Z
      · have HQ2 := Lib.hid (HQ.out.trans (if_pos (.inr hz1)))
        have hz1' : (1115 : Int) < (Z : Int) := by omega
        go_wp2
        refine bodyPost_ret (v := .tuple #[.agg #[.int .i64 0, .int .i64 0, .int .i64 0, .int .i64 0, .int .i64 0, .string ⟨#[]⟩, .string ⟨#[]⟩], .int .i64 0, .int .i64 41]) (by simp [results, Tryz.results43, go_sem, z0, z1, z2, z3, z4, z5, z6]) rfl (decpost_no (k := 41) HQ2.out ?_)
        exact zend0 w
      have hz1' : ¬ (1115 : Int) < (Z : Int) := by omega
      have HQ3 := Lib.hid (HQ.out.trans (if_neg (fun h => h.elim hz5 hz1)))
      clear HQ
      by_cases hzn : n < 9 + Z
      · have HQ2 := Lib.hid (HQ3.out.trans (if_pos hzn))
        have hzn' : (n : Int) < 9 + (Z : Int) := by omega
        go_wp2
        refine bodyPost_ret (v := .tuple #[.agg #[.int .i64 0, .int .i64 0, .int .i64 0, .int .i64 0, .int .i64 0, .string ⟨#[]⟩, .string ⟨#[]⟩], .int .i64 0, .int .i64 40]) (by simp [results, Tryz.results43, go_sem, z0, z1, z2, z3, z4, z5, z6]) rfl (decpost_no (k := 40) HQ2.out ?_)
        exact zend0 w
      have hzn' : ¬ (n : Int) < 9 + (Z : Int) := by omega
      have HQ4 := Lib.hid (HQ3.out.trans (if_neg hzn))
      clear HQ3
      have hl9 : ((b.drop 9).take Z).length = Z := by have := HN.out; simp only [List.length_take, List.length_drop]; omega
      have hb9 : By ((b.drop 9).take Z) := (HBY.out.drop 9).take Z
      have PR := Lib.hid (rrecread_is (some ⟨g, off + 9, none⟩) Z (c - 9) ((b.drop 9).take Z) (w.alloc zrc) (rd_seg (p := 9) (k := Z) HR0.out) hl9 hb9 (by omega))
      have hlt9 : (b.take (9 + Z)).length = 9 + Z := by have := HN.out; rw [List.length_take]; omega
      have PE := Lib.hid (fun W => rcencode4_is (rdm ((b.drop 9).take Z)) W)
      have HT9 : Hid (Rd (w.alloc zrc) (some ⟨g, off, none⟩) (b8 (b.take (9 + Z)))) := Lib.hid (by
        have := HR0.out.take_ (9 + Z)
        rw [← b8_take] at this
        exact this)
      obtain ⟨Y, hY⟩ : ∃ Y, Y = b.take (9 + Z) := ⟨_, rfl⟩
      rw [← hY] at HT9 hlt9 HQ4
      obtain ⟨X, hX⟩ : ∃ X, X = rdm ((b.drop 9).take Z) := ⟨_, rfl⟩
      rw [← hX] at PR PE HQ4
      clear hX hY hl9 hb9 HR0 HBY HN HB z0 z1 z2 z3 z4 z5 z6 r0 r1 r2 r3 r4 r5 r6
      have hz9 : (0 : Int) ≤ 9 + (Z : Int) := by omega
      have hzc : 9 + (Z : Int) ≤ (c : Int) := by omega
      have hz99 : (9 : Int) ≤ 9 + (Z : Int) := by omega
      have hc9 : ¬ c = 9 := by omega
      by_cases hck : chk X = 0
      · rw [renc_ok hck] at PE
        have hlY := wrap_length 169 (bdy X)
        have hbl := (bdy_len (chk_may hck)).2
        obtain ⟨V, hV⟩ : ∃ V, V = wrap 169 (bdy X) := ⟨_, rfl⟩
        rw [← hV] at PE HQ4 hlY
        obtain ⟨k, o, t, p, s, key, vl⟩ := X
        unfold Rc.v at PR PE
        simp only at PR PE
        clear hV
        go_wp2_with fail
        refine PR.out.mono ?_
        rintro e w1 ⟨rfl, hb1⟩
        have B1 := Lib.hid hb1
        have BX1 := Lib.hid (RBox.new w1 ⟨k, o, t, p, s, key, vl⟩)
        obtain ⟨x0, x1, x2, x3, x4, x5, x6⟩ := BX1.out.facts
        simp only at x0 x1 x2 x3 x4 x5 x6
        clear hb1
        go_wp2_with fail
        refine (PE.out _).mono ?_
        rintro e w2 ⟨A2, c2, rfl, ho2, hb2⟩
        simp only at ho2 ⊢
        have BX2 := Lib.hid (BX1.out.below hb2 (by simp))
        have B2 := Lib.hid ((B1.out.alloc B1.out.size (rcObj ⟨k, o, t, p, s, key, vl⟩)).trans (hb2.mono (by have := B1.out.size; simp at this ⊢; omega)))
        have R2 := Lib.hid (rd_own ho2)
        clear ho2 hb2 x0 x1 x2 x3 x4 x5 x6 BX1 B1
        by_cases hVY : V = Y
        · have HQ5 : Hid (q = (⟨k, o, t, p, s, key, vl⟩, 9 + Z, 0)) := Lib.hid (HQ4.out.trans (if_pos ⟨hck, hVY⟩))
          go_wp2_with fail
          refine (r4same_yes A2 (some ⟨g, off, none⟩) _ _ c2 c V Y _ R2.out (HT9.out.below B2.out) (by first | with_reducible rfl | exact hlY | (rw [hVY]; exact hlt9)) (by first | exact hlt9 | omega) (by omega) (by omega) hVY).mono ?_
          rintro e w3 ⟨rfl, d3, rfl⟩
          have B3 := Lib.hid (below_drewN B2.out d3)
          have BX3 : Hid (RBox (w2.drewN d3) w1.heap.size ⟨k, o, t, p, s, key, vl⟩) := Lib.hid BX2.out
          obtain ⟨x0, x1, x2, x3, x4, x5, x6⟩ := BX3.out.facts
          simp only at x0 x1 x2 x3 x4 x5 x6
          obtain ⟨z0, z1, z2, z3, z4, z5, z6⟩ := (zbox B3.out).facts
          obtain ⟨r0, r1, r2, r3, r4, r5, r6⟩ := (zbox B3.out).free
          simp only [rc0] at z0 z1 z2 z3 z4 z5 z6
          go_wp2_with fail
          refine bodyPost_ret (v := .tuple #[.agg #[.int .i64 k, .int .i64 o, .int .i64 t, .int .i64 p, .int .i64 s, .string key, .string vl], .int .i64 (9 + (Z : Int)), .int .i64 0]) (by simp [results, Tryz.results43, go_sem, z0, z1, z2, z3, z4, z5, z6]) rfl ⟨?_, zend B3.out ⟨k, o, t, p, s, key, vl⟩⟩
          rw [HQ5.out]
          simp only [Rc.v]
          rw [show ((9 + Z : Nat) : Int) = 9 + (Z : Int) by omega]
          rfl
        · have HQ5 : Hid (q = (rc0, 0, 41)) := Lib.hid (HQ4.out.trans (if_neg (fun h => hVY h.2)))
          go_wp2_with fail
          refine (r4same_no A2 (some ⟨g, off, none⟩) _ _ c2 c V Y _ R2.out (HT9.out.below B2.out) (by first | with_reducible rfl | exact hlY | (rw [hVY]; exact hlt9)) (by first | exact hlt9 | omega) (by omega) (by omega) hVY).mono ?_
          rintro e w3 ⟨rfl, d3, rfl⟩
          have B3 := Lib.hid (below_drewN B2.out d3)
          obtain ⟨z0, z1, z2, z3, z4, z5, z6⟩ := (zbox B3.out).facts
          obtain ⟨r0, r1, r2, r3, r4, r5, r6⟩ := (zbox B3.out).free
          simp only [rc0] at z0 z1 z2 z3 z4 z5 z6
          go_wp2_with fail
          refine bodyPost_ret (v := .tuple #[.agg #[.int .i64 0, .int .i64 0, .int .i64 0, .int .i64 0, .int .i64 0, .string ⟨#[]⟩, .string ⟨#[]⟩], .int .i64 0, .int .i64 41]) (by simp [results, Tryz.results43, go_sem, z0, z1, z2, z3, z4, z5, z6]) rfl (decpost_no (k := 41) HQ5.out ?_)
          exact zend B3.out rc0
      · have HQ5 : Hid (q = (rc0, 0, 41)) := Lib.hid (HQ4.out.trans (if_neg (fun h => hck h.1)))
        rw [renc_bad hck] at PE
        have hck2 : (((chk X : Nat) : Int) != 0) = true := by rw [bne_iff_ne]; omega
        obtain ⟨cz, hcz⟩ : ∃ cz : Int, cz = ((chk X : Nat) : Int) := ⟨_, rfl⟩
        rw [← hcz] at PE hck2
        clear HQ4 hck hcz
        obtain ⟨k, o, t, p, s, key, vl⟩ := X
        unfold Rc.v at PR PE
        simp only at PR PE
        go_wp2_with fail
        refine PR.out.mono ?_
        rintro e w1 ⟨rfl, hb1⟩
        have B1 := Lib.hid hb1
        have BX1 := Lib.hid (RBox.new w1 ⟨k, o, t, p, s, key, vl⟩)
        obtain ⟨x0, x1, x2, x3, x4, x5, x6⟩ := BX1.out.facts
        simp only at x0 x1 x2 x3 x4 x5 x6
        clear hb1
        go_wp2_with fail
        refine (PE.out _).mono ?_
        rintro e w2 ⟨A2, c2, rfl, ho2, hb2⟩
        simp only at ho2 ⊢
        have B3 := Lib.hid ((B1.out.alloc B1.out.size (rcObj ⟨k, o, t, p, s, key, vl⟩)).trans (hb2.mono (by have := B1.out.size; simp at this ⊢; omega)))
        clear ho2 hb2 x0 x1 x2 x3 x4 x5 x6 BX1 B1
        obtain ⟨z0, z1, z2, z3, z4, z5, z6⟩ := (zbox B3.out).facts
        obtain ⟨r0, r1, r2, r3, r4, r5, r6⟩ := (zbox B3.out).free
        simp only [rc0] at z0 z1 z2 z3 z4 z5 z6
        go_wp2_with fail
        refine bodyPost_ret (v := .tuple #[.agg #[.int .i64 0, .int .i64 0, .int .i64 0, .int .i64 0, .int .i64 0, .string ⟨#[]⟩, .string ⟨#[]⟩], .int .i64 0, .int .i64 41]) (by simp [results, Tryz.results43, go_sem, z0, z1, z2, z3, z4, z5, z6]) rfl (decpost_no (k := 41) HQ5.out ?_)
        exact zend B3.out rc0
end
theorem rrecdecode_is (A : Option Addr) (n c : Nat) (b : List Nat) (w : World) (hr : Rd w A (b8 b)) (hn : b.length = n) (hnc : n ≤ c) (hby : By b) (hl : n ≤ 140737488355328) :
    Calls Tryz.prog 43 #[.slice A n c] w (DecPost w (rdec b)) := by
  by_cases h0 : n = 0
  · subst h0
    exact rrecdec_empty c w _ A (by unfold rdec; rw [if_pos hn])
  · obtain ⟨g, off, rfl, hg, hc⟩ := hr.some_ (by omega)
    have h0' : ¬ b.length = 0 := by omega
    by_cases h169 : b.headD 0 = 169
    · rw [h169] at hc
      by_cases h5 : n < 5
      · exact rrecdec_four c w _ g off n (by unfold rdec; rw [if_neg h0', if_neg (by simpa using h169), if_pos (by omega)]) (by omega) h5 hnc hg hc
      · exact rrecdec_five c w _ g off n (val ((b.drop 1).take 4)) b hn hnc hr hby (by omega) hl hc rfl (by unfold rdec; rw [if_neg h0', if_neg (by simpa using h169), if_neg (by omega), hn])
    · exact rrecdec_mark c w _ g off n (b.headD 0) (by unfold rdec; rw [if_neg h0', if_pos h169]) (by omega) hnc hg hc h169
end Go.Proofs.YtljfmcgeiceagaaGreat
