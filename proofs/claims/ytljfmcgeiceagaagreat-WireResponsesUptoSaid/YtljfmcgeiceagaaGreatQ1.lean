/- Several texts in one: RqP, WiTab, RqChk, RqEnc, RqRd, RqDec, RqRef1. -/
import Derived.Test.YtljfmcgeiceagaaGreatX6
import Derived.Test.YtljfmcgeiceagaaGreatW1
import Derived.Test.YtljfmcgeiceagaaGreatF1
import Derived.LaidMore
import Derived.OpenShut
import Derived.Deep.CutRange
import Derived.Test.YtljfmcgeiceagaaGreatD1
import Derived.Deep.RegionWith
import Derived.Deep.RegionHeld3
/- Requests: in plain words. -/
namespace Go.Proofs.YtljfmcgeiceagaaGreat
open Go Go.RowKit
set_option linter.unusedVariables false
set_option linter.unusedSimpArgs false

structure Rq where
  id : Nat
  op : Int
  t : ByteArray
  k : ByteArray
  v : ByteArray
  o : Int
  n : Int
  p : Int
  s : Int
def Rq.V (x : Rq) : Value := .agg #[.int .u32 (x.id : Int), .int .i64 x.op, .string x.t, .string x.k, .string x.v, .int .i64 x.o, .int .i64 x.n, .int .i64 x.p, .int .i64 x.s]
/-- What can come in. -/
structure Rq.Ok (x : Rq) : Prop where
  id : x.id < 4294967296
  op : r64 x.op
  t : x.t.size ≤ 140737488351232
  k : x.k.size ≤ 140737488351232
  v : x.v.size ≤ 140737488351232
  o : r64 x.o
  n : r64 x.n
  p : r64 x.p
  s : r64 x.s
/-- What an operation uses. -/
def useB (k : Nat) : Nat := [0, 0, 17, 1, 2, 103, 99, 3, 9, 3, 9, 16, 2, 27, 3, 1].getD k 0
def hasb (b m : Nat) : Bool := decide (b / m % 2 = 1)
def gdT (b m most : Nat) (s : ByteArray) : Bool := decide (s.size ≤ most) && (hasb b m || decide (s.size = 0))
def gdN (b m : Nat) (n : Int) : Bool := decide (0 ≤ n) && (hasb b m || decide (n = 0))
structure MayQ (x : Rq) : Prop where
  op : 1 ≤ x.op ∧ x.op < 16
  t : gdT (useB x.op.toNat) 1 24 x.t = true
  k : gdT (useB x.op.toNat) 2 64 x.k = true
  v : gdT (useB x.op.toNat) 4 1024 x.v = true
  o : gdN (useB x.op.toNat) 8 x.o = true
  n : gdN (useB x.op.toNat) 16 x.n = true
  p : gdN (useB x.op.toNat) 32 x.p = true
  s : gdN (useB x.op.toNat) 64 x.s = true
theorem gdT_le {b m most : Nat} {s : ByteArray} (h : gdT b m most s = true) : s.size ≤ most ∧ (hasb b m = false → s = ⟨#[]⟩) := by
  unfold gdT at h
  simp only [Bool.and_eq_true, Bool.or_eq_true, decide_eq_true_eq] at h
  exact ⟨h.1, fun e => by rw [e] at h; exact (empty_iff s).1 (by simpa using h.2)⟩
/-- Numbers below a bound; the readers of a request's fields. -/
def q63 (s : Rs) : Int × Rs := (sg s.num.1, if 9223372036854775808 ≤ s.num.1 then s.num.2.fail 4 else s.num.2)
def q32 (s : Rs) : Nat × Rs := (s.num.1 % 4294967296, if 4294967296 ≤ s.num.1 then s.num.2.fail 4 else s.num.2)
def nr (b m : Nat) (s : Rs) : Int × Rs := if hasb b m = true then q63 s else (0, s)
theorem q32_fw {bs pre post : List Nat} {v : Nat} (h : bs = pre ++ (Uv.uv v ++ post)) (hv : v < 4294967296) : q32 (⟨bs, pre.length, 0, 0⟩ : Rs) = (v, ⟨bs, (pre ++ Uv.uv v).length, 0, 0⟩) := by
  unfold q32
  rw [num_fw h (by omega), if_neg (by simp only; omega), Nat.mod_eq_of_lt hv]
/-- Back. -/
theorem At.textm {bs pre : List Nat} {s : Rs} {most : Int} (h : At bs s pre) (he : (s.text most).2.err = 0) : At bs (s.text most).2 (pre ++ (Uv.uv (s.text most).1.length ++ (s.text most).1)) := by
  have hn := text_err h.ok he
  have ha := h.num hn
  by_cases hm : max most 0 < (s.num.1 : Int)
  · rw [Rs.text_long h.ok most hn hm, Rs.failAt_yes _ hn (by decide)] at he
    simp at he
  · by_cases hr : s.num.2.rest < s.num.1
    · rw [Rs.text_short h.ok most hn (by omega) hr, Rs.failAt_yes _ hn (by decide)] at he
      simp at he
    · have hy := Rs.text_yes h.ok most hn (by omega) (by omega)
      have hok := (h.ok.text most).1
      rw [hy] at hok ⊢
      have hl : ((s.bs.drop s.num.2.p).take s.num.1).length = s.num.1 := by
        unfold Rs.rest at hr
        have := ha.same
        rw [List.length_take, List.length_drop]
        rw [this] at hr
        rw [h.same]
        omega
      refine ⟨hok, hn, ha.same, ?_⟩
      rw [hl]
      simp only [Rs.go]
      rw [take_join, ha.pre, h.same, List.append_assoc]
theorem q32_back {s : Rs} (hok : s.Ok) (he : (q32 s).2.err = 0) : s.num.2.err = 0 ∧ s.num.1 < 4294967296 ∧ (q32 s).2 = s.num.2 ∧ (q32 s).1 = s.num.1 := by
  unfold q32 at he ⊢
  simp only at he ⊢
  by_cases h : 4294967296 ≤ s.num.1
  · rw [if_pos h] at he
    by_cases h0 : s.num.2.err = 0
    · rw [Rs.fail, Rs.failAt_yes _ h0 (by decide)] at he
      simp at he
    · rw [Rs.fail, Rs.failAt_bad _ h0] at he
      exact absurd he h0
  · rw [if_neg h] at he ⊢
    exact ⟨he, by omega, rfl, Nat.mod_eq_of_lt (by omega)⟩
theorem q32_ok {s : Rs} (hok : s.Ok) : (q32 s).2.Ok := by
  unfold q32
  simp only
  split
  · exact hok.num.1.fail (by omega)
  · exact hok.num.1
theorem MayQ.ok {x : Rq} (h : MayQ x) (hid : x.id < 4294967296) (ho : r64 x.o) (hn : r64 x.n) (hp : r64 x.p) (hs : r64 x.s) : x.Ok :=
  ⟨hid, by have := h.op; unfold r64; omega, by have := (gdT_le h.t).1; omega, by have := (gdT_le h.k).1; omega, by have := (gdT_le h.v).1; omega, ho, hn, hp, hs⟩
/-- A frame's body tells the frame. -/
theorem bd_wrapped {b : List Nat} (hb : By b) (h : (bd b).2 = 0) : b = wrap 197 (bd b).1 ∧ 9 < b.length ∧ (bd b).1 = b.drop 9 := by
  by_cases hl : 9 < b.length
  · rw [bd_frame hb hl] at h ⊢
    by_cases hf : frm (b.drop 9) = (b, 0)
    · rw [if_pos hf]
      refine ⟨?_, hl, rfl⟩
      unfold frm at hf
      split at hf
      · injection hf with _ e; cases e
      · split at hf
        · injection hf with _ e; cases e
        · injection hf with e _; exact e.symm
    · rw [if_neg hf] at h
      cases h
  · rw [bd_short (by omega)] at h
    cases h
end Go.Proofs.YtljfmcgeiceagaaGreat

/- The table of what an operation uses, as it lies. -/
namespace Go.Proofs.YtljfmcgeiceagaaGreat
open Go Go.RowKit Go.ChangeShapes Go.WideShapes Go.ChangeAt
set_option linter.unusedVariables false

/-- The table lies in block 0. -/
structure Tab (W : World) : Prop where
  lt : 0 < W.heap.size
  c : ∀ k, k < 16 → W.cell? ⟨0, k, none⟩ = some (.int .i64 ((useB k : Nat) : Int))
theorem Tab.below {W W' : World} {B : Nat} (h : Tab W) (hb : Below B W W') (hB : 0 < B) : Tab W' :=
  ⟨Nat.lt_of_lt_of_le h.lt hb.size, fun k hk => (hb.cell (p := ⟨0, k, none⟩) hB).trans (h.c k hk)⟩
theorem Tab.bel {W W' : World} (h : Tab W) (hb : Below W.heap.size W W') : Tab W' := h.below hb h.lt
end Go.Proofs.YtljfmcgeiceagaaGreat

/- wire.CheckRequest (printed by gen_rqchk.py). -/
namespace Go.Proofs.YtljfmcgeiceagaaGreat
open Go Go.RowKit
set_option linter.unusedVariables false
set_option linter.unusedSimpArgs false

set_option maxRecDepth 100000 in
theorem isOp_is (op : Int) (w : World) : Calls Tryz.prog 45 #[.int .i64 op] w fun e w' => e = .returned (.bool (decide (1 ≤ op ∧ op < 16))) ∧ w = w' := by
  by_cases h1 : 1 ≤ op
  · by_cases h2 : op < 16
    · rw [decide_eq_true (show 1 ≤ op ∧ op < 16 from ⟨h1, h2⟩)]
      have d1 : decide ((1 : Int) ≤ op) = true := decide_eq_true h1
      have d2 : decide (op < 16) = true := decide_eq_true h2
      go_enter Tryz.func45, Tryz.ntmps45
      go_wp2
      go_ret
      exact ⟨rfl, rfl⟩
    · rw [decide_eq_false (show ¬ (1 ≤ op ∧ op < 16) from fun h => h2 h.2)]
      have d1 : decide ((1 : Int) ≤ op) = true := decide_eq_true h1
      have d2 : decide (op < 16) = false := decide_eq_false h2
      go_enter Tryz.func45, Tryz.ntmps45
      go_wp2
      go_ret
      exact ⟨rfl, rfl⟩
  · rw [decide_eq_false (show ¬ (1 ≤ op ∧ op < 16) from fun h => h1 h.1)]
    have d1 : decide ((1 : Int) ≤ op) = false := decide_eq_false h1
    go_enter Tryz.func45, Tryz.ntmps45
    go_wp2
    go_ret
    exact ⟨rfl, rfl⟩
/-- A row of cells in block g. -/
def RowA (W : World) (g : Nat) (cs : Array Value) (T : TypeId) : Prop := W.heap[g]? = some (.cells cs T (0, 0))
theorem RowA.below {W W' : World} {g B : Nat} {cs : Array Value} {T : TypeId} (h : RowA W g cs T) (hb : Below B W W') (hg : g < B) : RowA W' g cs T := (hb.block g hg).trans h
theorem RowA.cell {W : World} {g : Nat} {cs : Array Value} {T : TypeId} (h : RowA W g cs T) (k : Nat) : W.cell? ⟨g, k, none⟩ = cs[k]? := by
  unfold RowA at h
  simp [World.cell?, h]
end Go.Proofs.YtljfmcgeiceagaaGreat

/- wire.EncodeRequest (printed by gen_rqenc.py). -/
namespace Go.Proofs.YtljfmcgeiceagaaGreat
open Go Go.RowKit
set_option linter.unusedVariables false
set_option linter.unusedSimpArgs false

/-- A request's box and the box of what it uses. -/
structure QB (W : World) (gr gl : Nat) (id op : Nat) (t k v : ByteArray) (o n p s b : Nat) : Prop where
  lt1 : gr < W.heap.size
  lt2 : gl < W.heap.size
  c0 : W.cell? ⟨gr, 0, none⟩ = some (.int .u32 (id : Int))
  c1 : W.cell? ⟨gr, 1, none⟩ = some (.int .i64 (op : Int))
  c2 : W.cell? ⟨gr, 2, none⟩ = some (.string t)
  c3 : W.cell? ⟨gr, 3, none⟩ = some (.string k)
  c4 : W.cell? ⟨gr, 4, none⟩ = some (.string v)
  c5 : W.cell? ⟨gr, 5, none⟩ = some (.int .i64 (o : Int))
  c6 : W.cell? ⟨gr, 6, none⟩ = some (.int .i64 (n : Int))
  c7 : W.cell? ⟨gr, 7, none⟩ = some (.int .i64 (p : Int))
  c8 : W.cell? ⟨gr, 8, none⟩ = some (.int .i64 (s : Int))
  cl : W.cell? ⟨gl, 0, none⟩ = some (.int .i64 (b : Int))
theorem QB.below {W W' : World} {gr gl id op : Nat} {t k v : ByteArray} {o n p s b B : Nat} (h : QB W gr gl id op t k v o n p s b) (hb : Below B W W') (h1 : gr < B) (h2 : gl < B) : QB W' gr gl id op t k v o n p s b :=
  ⟨Nat.lt_of_lt_of_le h.lt1 hb.size, Nat.lt_of_lt_of_le h.lt2 hb.size, (hb.cell (p := ⟨gr, 0, none⟩) h1).trans h.c0, (hb.cell (p := ⟨gr, 1, none⟩) h1).trans h.c1, (hb.cell (p := ⟨gr, 2, none⟩) h1).trans h.c2, (hb.cell (p := ⟨gr, 3, none⟩) h1).trans h.c3, (hb.cell (p := ⟨gr, 4, none⟩) h1).trans h.c4, (hb.cell (p := ⟨gr, 5, none⟩) h1).trans h.c5, (hb.cell (p := ⟨gr, 6, none⟩) h1).trans h.c6, (hb.cell (p := ⟨gr, 7, none⟩) h1).trans h.c7, (hb.cell (p := ⟨gr, 8, none⟩) h1).trans h.c8, (hb.cell (p := ⟨gl, 0, none⟩) h2).trans h.cl⟩
end Go.Proofs.YtljfmcgeiceagaaGreat

/- Reading a request's body: what is carried; wire.reader's id and number. -/
namespace Go.Proofs.YtljfmcgeiceagaaGreat
open Go Go.RowKit
set_option linter.unusedVariables false
set_option linter.unusedSimpArgs false

theorem q32_hi {s : Rs} (h : 4294967296 ≤ s.num.1) : q32 s = (s.num.1 % 4294967296, s.num.2.fail 4) := by unfold q32; rw [if_pos h]
theorem q32_lo {s : Rs} (h : ¬ 4294967296 ≤ s.num.1) : q32 s = (s.num.1 % 4294967296, s.num.2) := by unfold q32; rw [if_neg h]
theorem Turned.behind {base g : Nat} {w w1 w2 : World} {T : TypeId} {cf : Rs → Value → Array Value} {v : Value} {s : Rs} (hb : Below w.heap.size w w1) (ht : Turned base w1 T cf g v s w2) : Turned base w T cf g v s w2 :=
  ⟨ht.rd, (KeptS.of_below hb _).trans ht.kept (fun q hq => .inl hq)⟩
theorem ret_u {k : IntKind} {a b : Int} (h : a = b) : Ending.returned (.int k a) = .returned (.int k b) := by rw [h]
set_option maxRecDepth 100000 in
theorem id16_is (base g : Nat) (v : Value) (s : Rs) (w : World) (h : Rdr base w 88 Rs.cells g v s) :
    Calls Tryz.prog 27 #[.agg #[.pointer (some ⟨g, 0, none⟩)]] w (Gave base w 88 Rs.cells g v (.int .u32 ((q32 s).1 : Nat)) (q32 s).2) := by
  have HA := Lib.hid ((Below.refl w.heap.size w).alloc (Nat.le_refl _) (.cells #[.pointer (some ⟨g, 0, none⟩)] 50))
  have P1 := Lib.hid (uv_r base g v s _ (h.below HA.out))
  have hz := h.ok.num.2.1
  have HG := Lib.hid h.lt
  have HW : Hid (IntKind.u32.wrap (s.num.1 : Int) = ((s.num.1 % 4294967296 : Nat) : Int)) := Lib.hid (by rw [IntKind.wrap_u32]; omega)
  by_cases hb : 4294967296 ≤ s.num.1
  · rw [q32_hi hb]
    have PF := Lib.hid (fun W (h : Rdr base W 88 Rs.cells g v s.num.2) => fail_is base g v s.num.2 4 W h (by omega))
    obtain ⟨z, hzz⟩ : ∃ z, z = s.num.1 := ⟨_, rfl⟩
    obtain ⟨s2, hs2⟩ : ∃ s2, s2 = s.num.2 := ⟨_, rfl⟩
    rw [← hzz, ← hs2] at P1
    rw [← hs2] at PF ⊢
    rw [← hzz] at HW hb hz ⊢
    unfold Gave at P1 ⊢
    unfold Step0 at PF
    clear hzz hs2 h
    have hb2 : decide ((4294967295 : Int) < (z : Int)) = true := by rw [decide_eq_true_eq]; omega
    clear hb hz
    obtain ⟨u, hu⟩ : ∃ u, u = z % 4294967296 := ⟨_, rfl⟩
    rw [← hu] at HW ⊢
    clear hu
    go_enter Tryz.func27, Tryz.ntmps27
    go_wp2_with fail
    refine P1.out.mono ?_
    rintro e w1 ⟨rfl, ht1⟩
    have HT1 := Lib.hid ht1
    have HC : Hid (w1.heap[w.heap.size]? = some (.cells #[.pointer (some ⟨g, 0, none⟩)] 50 (0, 0))) := Lib.hid ((ht1.kept.block w.heap.size (by simp) (fun e => by have := HG.out; omega)).trans (heap_alloc_new w _))
    have hc := cell_of_row w1 w.heap.size 0 _ _ _ HC.out
    clear ht1
    go_wp2_with fail
    refine (PF.out w1 HT1.out.rd).mono ?_
    rintro e w2 ⟨rfl, ht2⟩
    have HT2 := Lib.hid (Turned.behind HA.out (HT1.out.then ht2))
    clear ht2
    go_wp2_with fail
    go_ret
    exact ⟨ret_u HW.out, HT2.out⟩
  · rw [q32_lo hb]
    obtain ⟨z, hzz⟩ : ∃ z, z = s.num.1 := ⟨_, rfl⟩
    obtain ⟨s2, hs2⟩ : ∃ s2, s2 = s.num.2 := ⟨_, rfl⟩
    rw [← hzz, ← hs2] at P1
    rw [← hs2]
    rw [← hzz] at HW hb hz ⊢
    unfold Gave at P1 ⊢
    clear hzz hs2 h
    have hb2 : decide ((4294967295 : Int) < (z : Int)) = false := by rw [decide_eq_false_iff_not]; omega
    clear hb hz
    obtain ⟨u, hu⟩ : ∃ u, u = z % 4294967296 := ⟨_, rfl⟩
    rw [← hu] at HW ⊢
    clear hu
    go_enter Tryz.func27, Tryz.ntmps27
    go_wp2_with fail
    refine P1.out.mono ?_
    rintro e w1 ⟨rfl, ht1⟩
    have HT1 := Lib.hid (Turned.behind HA.out ht1)
    clear ht1
    go_wp2_with fail
    go_ret
    exact ⟨ret_u HW.out, HT1.out⟩

/-- A reader, and the box that holds it. -/
structure RdI (w0 W : World) (g : Nat) (v : Value) (s : Rs) (gi : Nat) : Prop where
  rd : Rdr w0.heap.size W 88 Rs.cells g v s
  ci : W.heap[gi]? = some (.cells #[.pointer (some ⟨g, 0, none⟩)] 50 (0, 0))
  n1 : gi ≠ g
  nv : ∀ q, v.ownBlock = some q → q ≠ gi
  b0 : w0.heap.size ≤ gi
  be : Below w0.heap.size w0 W
section
variable {w0 W W' : World} {g : Nat} {v : Value} {s s' : Rs} {gi b : Nat} {x x' : Rq}
theorem RdI.lt (h : RdI w0 W g v s gi) : gi < W.heap.size := lt_of_block h.ci
theorem RdI.cell (h : RdI w0 W g v s gi) : W.cell? ⟨gi, 0, none⟩ = some (.pointer (some ⟨g, 0, none⟩)) := cell_of_row W gi 0 _ _ _ h.ci
theorem RdI.new (h : Rdr w0.heap.size W 88 Rs.cells g v s) (hb : Below w0.heap.size w0 W) : RdI w0 (W.alloc (.cells #[.pointer (some ⟨g, 0, none⟩)] 50)) g v s W.heap.size :=
  ⟨h.below ((Below.refl _ _).alloc (Nat.le_refl _) _), heap_alloc_new W _, fun e => by have := h.lt; omega, fun q hq e => by have := (h.own.lt q hq).2; omega, hb.size, hb.alloc hb.size _⟩
theorem RdI.turn (h : RdI w0 W g v s gi) (ht : Turned w0.heap.size W 88 Rs.cells g v s' W') : RdI w0 W' g v s' gi :=
  ⟨ht.rd, (ht.kept.block gi h.lt h.n1).trans h.ci, h.n1, h.nv, h.b0, h.be.trans (ht.low h.be.size)⟩
theorem RdI.below (h : RdI w0 W g v s gi) (hb : Below W.heap.size W W') : RdI w0 W' g v s gi :=
  ⟨h.rd.below hb, (hb.block gi h.lt).trans h.ci, h.n1, h.nv, h.b0, h.be.trans (hb.mono h.be.size)⟩
end
/-- A request stored into block r. -/
abbrev W9 (W : World) (r : Nat) (x : Rq) : World := ((((((((W.setCell ⟨r, 0, none⟩ (.int .u32 (x.id : Int))).setCell ⟨r, 1, none⟩ (.int .i64 x.op)).setCell ⟨r, 2, none⟩ (.string x.t)).setCell ⟨r, 3, none⟩ (.string x.k)).setCell ⟨r, 4, none⟩ (.string x.v)).setCell ⟨r, 5, none⟩ (.int .i64 x.o)).setCell ⟨r, 6, none⟩ (.int .i64 x.n)).setCell ⟨r, 7, none⟩ (.int .i64 x.p)).setCell ⟨r, 8, none⟩ (.int .i64 x.s)
end Go.Proofs.YtljfmcgeiceagaaGreat

/- wire.DecodeRequest (printed by gen_rqdec.py). -/
namespace Go.Proofs.YtljfmcgeiceagaaGreat
open Go Go.RowKit
set_option linter.unusedVariables false
set_option linter.unusedSimpArgs false

end Go.Proofs.YtljfmcgeiceagaaGreat

/- The document's uses, has and CheckRequest (printed by gen_rqref.py). -/
namespace Go.Proofs.YtljfmcgeiceagaaGreat
open Go Go.RowKit
set_option linter.unusedVariables false
set_option linter.unusedSimpArgs false

/-- The letters of what an operation uses. -/
def usL (op : Int) : List Nat :=
  if op = 1 then [] else if op = 2 then [84, 78] else if op = 3 ∨ op = 15 then [84] else if op = 4 ∨ op = 12 then [75] else if op = 5 then [84, 75, 86, 80, 83] else if op = 6 then [84, 75, 80, 83]
  else if op = 7 ∨ op = 9 ∨ op = 14 then [84, 75] else if op = 8 ∨ op = 10 then [84, 79] else if op = 11 then [78] else if op = 13 then [84, 75, 79, 78] else [63]
def usS (op : Int) : ByteArray := strOf (usL op)
/-- The letters are the bits. -/
theorem usL_bits : ∀ k : Fin 16, 1 ≤ k.val → (decide (84 ∈ usL (k.val : Nat)) = hasb (useB k.val) 1 ∧ decide (75 ∈ usL (k.val : Nat)) = hasb (useB k.val) 2 ∧ decide (86 ∈ usL (k.val : Nat)) = hasb (useB k.val) 4 ∧ decide (79 ∈ usL (k.val : Nat)) = hasb (useB k.val) 8 ∧ decide (78 ∈ usL (k.val : Nat)) = hasb (useB k.val) 16 ∧ decide (80 ∈ usL (k.val : Nat)) = hasb (useB k.val) 32 ∧ decide (83 ∈ usL (k.val : Nat)) = hasb (useB k.val) 64) ∧ (usS (k.val : Nat)).toList ≠ [63] := by decide +kernel
theorem usL_none {op : Int} (h : ¬ (1 ≤ op ∧ op < 16)) : usL op = [63] := by
  unfold usL
  rw [if_neg (by omega), if_neg (by omega), if_neg (by omega), if_neg (by omega), if_neg (by omega), if_neg (by omega), if_neg (by omega), if_neg (by omega), if_neg (by omega), if_neg (by omega)]

set_option maxHeartbeats 2000000 in
set_option maxRecDepth 100000 in
theorem uses16_is (op : Int) (w : World) : Calls Tryz.prog 54 #[.int .i64 op] w fun e w' => e = .returned (.string (usS op)) ∧ w = w' := by
  by_cases h1 : op = 1
  · subst h1
    go_enter Tryz.func54, Tryz.ntmps54
    go_wp2
    go_ret
    exact ⟨rfl, rfl⟩
  have e1 : (op == 1) = false := beq_false_of_ne h1
  by_cases h2 : op = 2
  · subst h2
    go_enter Tryz.func54, Tryz.ntmps54
    go_wp2
    go_ret
    exact ⟨rfl, rfl⟩
  have e2 : (op == 2) = false := beq_false_of_ne h2
  by_cases h3 : op = 3
  · subst h3
    go_enter Tryz.func54, Tryz.ntmps54
    go_wp2
    go_ret
    exact ⟨rfl, rfl⟩
  have e3 : (op == 3) = false := beq_false_of_ne h3
  by_cases h15 : op = 15
  · subst h15
    go_enter Tryz.func54, Tryz.ntmps54
    go_wp2
    go_ret
    exact ⟨rfl, rfl⟩
  have e15 : (op == 15) = false := beq_false_of_ne h15
  by_cases h4 : op = 4
  · subst h4
    go_enter Tryz.func54, Tryz.ntmps54
    go_wp2
    go_ret
    exact ⟨rfl, rfl⟩
  have e4 : (op == 4) = false := beq_false_of_ne h4
  by_cases h12 : op = 12
  · subst h12
    go_enter Tryz.func54, Tryz.ntmps54
    go_wp2
    go_ret
    exact ⟨rfl, rfl⟩
  have e12 : (op == 12) = false := beq_false_of_ne h12
  by_cases h5 : op = 5
  · subst h5
    go_enter Tryz.func54, Tryz.ntmps54
    go_wp2
    go_ret
    exact ⟨rfl, rfl⟩
  have e5 : (op == 5) = false := beq_false_of_ne h5
  by_cases h6 : op = 6
  · subst h6
    go_enter Tryz.func54, Tryz.ntmps54
    go_wp2
    go_ret
    exact ⟨rfl, rfl⟩
  have e6 : (op == 6) = false := beq_false_of_ne h6
  by_cases h7 : op = 7
  · subst h7
    go_enter Tryz.func54, Tryz.ntmps54
    go_wp2
    go_ret
    exact ⟨rfl, rfl⟩
  have e7 : (op == 7) = false := beq_false_of_ne h7
  by_cases h9 : op = 9
  · subst h9
    go_enter Tryz.func54, Tryz.ntmps54
    go_wp2
    go_ret
    exact ⟨rfl, rfl⟩
  have e9 : (op == 9) = false := beq_false_of_ne h9
  by_cases h14 : op = 14
  · subst h14
    go_enter Tryz.func54, Tryz.ntmps54
    go_wp2
    go_ret
    exact ⟨rfl, rfl⟩
  have e14 : (op == 14) = false := beq_false_of_ne h14
  by_cases h8 : op = 8
  · subst h8
    go_enter Tryz.func54, Tryz.ntmps54
    go_wp2
    go_ret
    exact ⟨rfl, rfl⟩
  have e8 : (op == 8) = false := beq_false_of_ne h8
  by_cases h10 : op = 10
  · subst h10
    go_enter Tryz.func54, Tryz.ntmps54
    go_wp2
    go_ret
    exact ⟨rfl, rfl⟩
  have e10 : (op == 10) = false := beq_false_of_ne h10
  by_cases h11 : op = 11
  · subst h11
    go_enter Tryz.func54, Tryz.ntmps54
    go_wp2
    go_ret
    exact ⟨rfl, rfl⟩
  have e11 : (op == 11) = false := beq_false_of_ne h11
  by_cases h13 : op = 13
  · subst h13
    go_enter Tryz.func54, Tryz.ntmps54
    go_wp2
    go_ret
    exact ⟨rfl, rfl⟩
  have e13 : (op == 13) = false := beq_false_of_ne h13
  have hu : usS op = ⟨#[63]⟩ := by unfold usS; rw [usL_none (by omega)]; rfl
  rw [hu]
  clear h1 h2 h3 h15 h4 h12 h5 h6 h7 h9 h14 h8 h10 h11 h13 hu
  go_enter Tryz.func54, Tryz.ntmps54
  go_wp2
  go_ret
  exact ⟨rfl, rfl⟩
end Go.Proofs.YtljfmcgeiceagaaGreat
