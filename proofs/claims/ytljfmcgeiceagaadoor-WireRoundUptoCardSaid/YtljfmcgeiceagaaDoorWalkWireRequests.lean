/- The walk of WireRequests (printed by gen_wireq.py). -/
import Derived.Test.YtljfmcgeiceagaaDoorRqRef4
import Derived.Test.YtljfmcgeiceagaaDoorOpenRq
import Derived.Test.YtljfmcgeiceagaaDoorF1
import Derived.Deep.RegionHeld3
namespace Go.Proofs.YtljfmcgeiceagaaDoor
open Go Go.RowKit
set_option linter.unusedVariables false
set_option linter.unusedSimpArgs false

set_option maxRecDepth 100000 in
theorem encodeq_any (x : Rq) (w : World) (ht : Tab w) (hk : x.Nm) :
    Calls Tryd.prog 8 #[x.V] w (FramePost w (renq x)) := by
  by_cases hm : MayQ x
  · exact encodeq_is x w ht (hk.ok hm)
  · have PC := Lib.hid (fun W (h : Tab W) => checkq_is x W h)
    have HQ : Hid (renq x = ([], 161)) := Lib.hid (if_neg (fun e => hm (okq_may.1 e)))
    rw [chkq_no hm] at PC
    rw [HQ.out]
    have HT := Lib.hid ht
    obtain ⟨id, op, t, k, v, o, n, p, s⟩ := x
    unfold Rq.V at PC ⊢
    simp only at PC ⊢
    clear hm hk HQ ht
    have HB0 := Lib.hid ((Below.refl w.heap.size w).alloc (Nat.le_refl _) (.cells #[.int .u32 (id : Int), .int .i64 op, .string t, .string k, .string v, .int .i64 o, .int .i64 n, .int .i64 p, .int .i64 s] 24))
    go_enter Tryd.func8, Tryd.ntmps8
    go_wp2_with fail
    refine (PC.out _ (HT.out.bel HB0.out)).mono ?_
    rintro e w1 ⟨rfl, hb1⟩
    have HB1 := Lib.hid (HB0.out.trans (hb1.mono (by simp)))
    clear hb1
    go_wp2_with fail
    go_ret2
    exact ⟨none, 0, rfl, World.ownsRow_nil _ _ _ _, HB1.out⟩
set_option maxRecDepth 100000 in
theorem rencodeq_any (x : Rq) (w : World) (hk : x.Nm) :
    Calls Tryd.prog 10 #[x.V] w (FramePost w (renq x)) := by
  by_cases hm : MayQ x
  · exact rencodeq_is x w (hk.ok hm)
  · have PC := Lib.hid (fun W => rcheckq_is x W)
    have HQ : Hid (renq x = ([], 161)) := Lib.hid (if_neg (fun e => hm (okq_may.1 e)))
    rw [chkq_no hm] at PC
    rw [HQ.out]
    obtain ⟨id, op, t, k, v, o, n, p, s⟩ := x
    unfold Rq.V at PC ⊢
    simp only at PC ⊢
    clear hm hk HQ
    have HB0 := Lib.hid ((Below.refl w.heap.size w).alloc (Nat.le_refl _) (.cells #[.int .u32 (id : Int), .int .i64 op, .string t, .string k, .string v, .int .i64 o, .int .i64 n, .int .i64 p, .int .i64 s] 24))
    go_enter Tryd.func10, Tryd.ntmps10
    go_wp2_with fail
    refine (PC.out _).mono ?_
    rintro e w1 ⟨rfl, hb1⟩
    have HB1 := Lib.hid (HB0.out.trans (hb1.mono (by simp)))
    clear hb1
    go_wp2_with fail
    go_ret2
    exact ⟨none, 0, rfl, World.ownsRow_nil _ _ _ _, HB1.out⟩
theorem renq_len {x : Rq} (hk : x.Nm) : (renq x).1.length ≤ 1180 := by
  unfold renq
  split
  · rename_i h
    have := (bdyq_len (okq_may.1 h) (hk.ok (okq_may.1 h))).2
    simp only
    rw [wrap_length]
    omega
  · simp
/-- What is known while the law's last line is worked out. -/
structure ReqS (w W : World) (x q : Rq) (gp gq : Nat) (A5 A10 F A1 : Option Addr) (X Z b1 : List Nat) : Prop where
  below : Below w.heap.size w W
  bx : QBox W w.heap.size x
  bp : QBox W gp q
  bq : QBox W gq q
  r5 : Rd W A5 (b8 X)
  r10 : Rd W A10 (b8 X)
  rf : Rd W F (b8 Z)
  r1 : Rd W A1 (b8 b1)
theorem ReqS.more {w W W' : World} {x q : Rq} {gp gq : Nat} {A5 A10 F A1 : Option Addr} {X Z b1 : List Nat} (h : ReqS w W x q gp gq A5 A10 F A1 X Z b1) (hb : Below W.heap.size W W') : ReqS w W' x q gp gq A5 A10 F A1 X Z b1 :=
  ⟨h.below.trans (hb.mono h.below.size), h.bx.below hb h.bx.lt, h.bp.below hb h.bp.lt, h.bq.below hb h.bq.lt, h.r5.below hb, h.r10.below hb, h.rf.below hb, h.r1.below hb⟩
theorem ReqS.drew {w W : World} {x q : Rq} {gp gq : Nat} {A5 A10 F A1 : Option Addr} {X Z b1 : List Nat} (h : ReqS w W x q gp gq A5 A10 F A1 X Z b1) : ReqS w W.drew x q gp gq A5 A10 F A1 X Z b1 := h.more (below_drewN (Below.refl _ _) 1)
def ReqC (w W : World) (x q : Rq) (gp gq : Nat) (A5 A10 F A1 : Option Addr) (X Z b1 : List Nat) : Prop := ReqS w W x q gp gq A5 A10 F A1 X Z b1
theorem ReqS.s {w W : World} {ai qi : Nat} {aop ao an ap as_ qop qo qn qp qs_ : Int} {at_ ak av qt_ qk qv : ByteArray} {gp gq : Nat} {A5 A10 F A1 : Option Addr} {X Z b1 : List Nat} (h : ReqS w W ⟨ai, aop, at_, ak, av, ao, an, ap, as_⟩ ⟨qi, qop, qt_, qk, qv, qo, qn, qp, qs_⟩ gp gq A5 A10 F A1 X Z b1) : W.cell? ⟨w.heap.size, 0, none⟩ = some (.int .u32 (ai : Int)) ∧ W.cell? ⟨w.heap.size, 1, none⟩ = some (.int .i64 aop) ∧ W.cell? ⟨w.heap.size, 2, none⟩ = some (.string at_) ∧ W.cell? ⟨w.heap.size, 3, none⟩ = some (.string ak) ∧ W.cell? ⟨w.heap.size, 4, none⟩ = some (.string av) ∧ W.cell? ⟨w.heap.size, 5, none⟩ = some (.int .i64 ao) ∧ W.cell? ⟨w.heap.size, 6, none⟩ = some (.int .i64 an) ∧ W.cell? ⟨w.heap.size, 7, none⟩ = some (.int .i64 ap) ∧ W.cell? ⟨w.heap.size, 8, none⟩ = some (.int .i64 as_) ∧ W.cell? ⟨gp, 0, none⟩ = some (.int .u32 (qi : Int)) ∧ W.cell? ⟨gp, 1, none⟩ = some (.int .i64 qop) ∧ W.cell? ⟨gp, 2, none⟩ = some (.string qt_) ∧ W.cell? ⟨gp, 3, none⟩ = some (.string qk) ∧ W.cell? ⟨gp, 4, none⟩ = some (.string qv) ∧ W.cell? ⟨gp, 5, none⟩ = some (.int .i64 qo) ∧ W.cell? ⟨gp, 6, none⟩ = some (.int .i64 qn) ∧ W.cell? ⟨gp, 7, none⟩ = some (.int .i64 qp) ∧ W.cell? ⟨gp, 8, none⟩ = some (.int .i64 qs_) ∧ W.cell? ⟨gq, 0, none⟩ = some (.int .u32 (qi : Int)) ∧ W.cell? ⟨gq, 1, none⟩ = some (.int .i64 qop) ∧ W.cell? ⟨gq, 2, none⟩ = some (.string qt_) ∧ W.cell? ⟨gq, 3, none⟩ = some (.string qk) ∧ W.cell? ⟨gq, 4, none⟩ = some (.string qv) ∧ W.cell? ⟨gq, 5, none⟩ = some (.int .i64 qo) ∧ W.cell? ⟨gq, 6, none⟩ = some (.int .i64 qn) ∧ W.cell? ⟨gq, 7, none⟩ = some (.int .i64 qp) ∧ W.cell? ⟨gq, 8, none⟩ = some (.int .i64 qs_) ∧ ReqC w W ⟨ai, aop, at_, ak, av, ao, an, ap, as_⟩ ⟨qi, qop, qt_, qk, qv, qo, qn, qp, qs_⟩ gp gq A5 A10 F A1 X Z b1 := by
  obtain ⟨x0, x1, x2, x3, x4, x5, x6, x7, x8⟩ := h.bx.facts
  obtain ⟨y0, y1, y2, y3, y4, y5, y6, y7, y8⟩ := h.bp.facts
  obtain ⟨z0, z1, z2, z3, z4, z5, z6, z7, z8⟩ := h.bq.facts
  exact ⟨x0, x1, x2, x3, x4, x5, x6, x7, x8, y0, y1, y2, y3, y4, y5, y6, y7, y8, z0, z1, z2, z3, z4, z5, z6, z7, z8, h⟩
theorem ReqS.ofS {w W : World} {ai qi : Nat} {aop ao an ap as_ qop qo qn qp qs_ : Int} {at_ ak av qt_ qk qv : ByteArray} {gp gq : Nat} {A5 A10 F A1 : Option Addr} {X Z b1 : List Nat} (h : W.cell? ⟨w.heap.size, 0, none⟩ = some (.int .u32 (ai : Int)) ∧ W.cell? ⟨w.heap.size, 1, none⟩ = some (.int .i64 aop) ∧ W.cell? ⟨w.heap.size, 2, none⟩ = some (.string at_) ∧ W.cell? ⟨w.heap.size, 3, none⟩ = some (.string ak) ∧ W.cell? ⟨w.heap.size, 4, none⟩ = some (.string av) ∧ W.cell? ⟨w.heap.size, 5, none⟩ = some (.int .i64 ao) ∧ W.cell? ⟨w.heap.size, 6, none⟩ = some (.int .i64 an) ∧ W.cell? ⟨w.heap.size, 7, none⟩ = some (.int .i64 ap) ∧ W.cell? ⟨w.heap.size, 8, none⟩ = some (.int .i64 as_) ∧ W.cell? ⟨gp, 0, none⟩ = some (.int .u32 (qi : Int)) ∧ W.cell? ⟨gp, 1, none⟩ = some (.int .i64 qop) ∧ W.cell? ⟨gp, 2, none⟩ = some (.string qt_) ∧ W.cell? ⟨gp, 3, none⟩ = some (.string qk) ∧ W.cell? ⟨gp, 4, none⟩ = some (.string qv) ∧ W.cell? ⟨gp, 5, none⟩ = some (.int .i64 qo) ∧ W.cell? ⟨gp, 6, none⟩ = some (.int .i64 qn) ∧ W.cell? ⟨gp, 7, none⟩ = some (.int .i64 qp) ∧ W.cell? ⟨gp, 8, none⟩ = some (.int .i64 qs_) ∧ W.cell? ⟨gq, 0, none⟩ = some (.int .u32 (qi : Int)) ∧ W.cell? ⟨gq, 1, none⟩ = some (.int .i64 qop) ∧ W.cell? ⟨gq, 2, none⟩ = some (.string qt_) ∧ W.cell? ⟨gq, 3, none⟩ = some (.string qk) ∧ W.cell? ⟨gq, 4, none⟩ = some (.string qv) ∧ W.cell? ⟨gq, 5, none⟩ = some (.int .i64 qo) ∧ W.cell? ⟨gq, 6, none⟩ = some (.int .i64 qn) ∧ W.cell? ⟨gq, 7, none⟩ = some (.int .i64 qp) ∧ W.cell? ⟨gq, 8, none⟩ = some (.int .i64 qs_) ∧ ReqC w W ⟨ai, aop, at_, ak, av, ao, an, ap, as_⟩ ⟨qi, qop, qt_, qk, qv, qo, qn, qp, qs_⟩ gp gq A5 A10 F A1 X Z b1) : ReqS w W ⟨ai, aop, at_, ak, av, ao, an, ap, as_⟩ ⟨qi, qop, qt_, qk, qv, qo, qn, qp, qs_⟩ gp gq A5 A10 F A1 X Z b1 := h.2.2.2.2.2.2.2.2.2.2.2.2.2.2.2.2.2.2.2.2.2.2.2.2.2.2.2

set_option maxHeartbeats 8000000 in
set_option maxRecDepth 100000 in
theorem wireRequests_walk (x0 : Rq) (A1 : Option Addr) (c1 : Nat) (b1 : List Nat) (w : World) (ht : Tab w) (k0 : x0.Nm) (c1l : b1.length ≤ c1) (r1 : Rd w A1 (b8 b1)) (y1 : By b1) (l1 : b1.length ≤ 140737488351232) :
    Calls Tryd.prog 3 #[x0.V, .slice A1 b1.length c1] w fun e w' => e = .returned (.bool true) ∧ Below w.heap.size w w' := by
  have PE := Lib.hid (fun W (h : Tab W) => encodeq_any x0 W h k0)
  have PR := Lib.hid (fun W => rencodeq_any x0 W k0)
  have PC := Lib.hid (fun W (h : Tab W) => checkq_is x0 W h)
  have PD := Lib.hid (fun W => rcheckq_is x0 W)
  have hl := renq_len k0
  obtain ⟨m, hm⟩ : ∃ m, m = b1.length := ⟨_, rfl⟩
  have HM := Lib.hid hm
  rw [← hm] at c1l l1 ⊢
  have PDEC := Lib.hid (fun A c W (h : Rd W A (b8 b1)) (hc : m ≤ c) (ht : Tab W) => decodeq_is A m c b1 W h hm.symm hc y1 (by omega) ht)
  have PFLP := Lib.hid (fun A c W (h : Rd W A (b8 (b1.map fl))) (hc : m ≤ c) (ht : Tab W) => decodeq_is A m c (b1.map fl) W h (by simp [hm]) hc (by_fl _) (by omega) ht)
  have PRD := Lib.hid (fun A c W (h : Rd W A (b8 b1)) (hc : m ≤ c) => rdecodeq_is A m c b1 W h hm.symm hc y1 (by omega))
  obtain ⟨⟨X, y⟩, hq⟩ : ∃ q, q = renq x0 := ⟨_, rfl⟩
  rw [← hq] at PE PR hl
  obtain ⟨z, hz⟩ : ∃ z : Int, z = chkq x0 := ⟨_, rfl⟩
  rw [← hz] at PC PD
  obtain ⟨⟨⟨qi, qop, qt_, qk, qv, qo, qn, qp, qs_⟩, zz⟩, hd⟩ : ∃ q, q = decq b1 := ⟨_, rfl⟩
  rw [← hd] at PDEC PRD
  obtain ⟨⟨⟨fi, fop, ft_, fk, fv, fo, fn_, fp, fs_⟩, fz⟩, hfl⟩ : ∃ q, q = decq (b1.map fl) := ⟨_, rfl⟩
  rw [← hfl] at PFLP
  unfold FramePost at PE PR
  unfold DecQ at PDEC PFLP PRD
  unfold Rq.V at PDEC PFLP PRD
  simp only at PE PR PDEC PFLP PRD hl
  clear hq hz hd hfl
  obtain ⟨ai, aop, at_, ak, av, ao, an, ap, as_⟩ := x0
  unfold Rq.V at PE PR PC PD ⊢
  simp only at PE PR PC PD ⊢
  obtain ⟨n, hn⟩ : ∃ n, X.length = n := ⟨_, rfl⟩
  have HN := Lib.hid hn
  rw [hn] at hl
  have HT := Lib.hid ht
  have HR1 := Lib.hid r1
  have HY1 := Lib.hid y1
  have T0 := Lib.hid ((Below.refl w.heap.size w).alloc (Nat.le_refl _) (.cells #[.int .u32 (ai : Int), .int .i64 aop, .string at_, .string ak, .string av, .int .i64 ao, .int .i64 an, .int .i64 ap, .int .i64 as_] 24))
  have BX0 := Lib.hid (show QBox _ w.heap.size ⟨ai, aop, at_, ak, av, ao, an, ap, as_⟩ from heap_alloc_new w _)
  have bz : (z == z) = true := by simp
  have by_ : (y == y) = true := by simp
  have bzz : (zz == zz) = true := by simp
  have bn : ((n : Int) == (n : Int)) = true := by simp
  have bm : ((n : Int) + 64 == IntKind.i64.wrap ((n : Int) + 64)) = true := by rw [IntKind.wrap_i64, beq_iff_eq]; omega
  clear k0 r1 y1 ht hm
  obtain ⟨x0, x1, x2, x3, x4, x5, x6, x7, x8⟩ := BX0.out.facts
  simp only at x0 x1 x2 x3 x4 x5 x6 x7 x8
  go_enter Tryd.func3, Tryd.ntmps3
  go_wp2_with fail
  refine (PE.out _ (HT.out.bel T0.out)).mono ?_
  rintro e w1 ⟨A5, c5, rfl, ho1, hb1⟩
  rw [hn] at ho1 ⊢
  have HO1 := Lib.hid ho1
  have BX1 := Lib.hid (BX0.out.below hb1 (by simp))
  have T1 := Lib.hid (T0.out.trans (hb1.mono (by simp)))
  clear ho1 hb1 x0 x1 x2 x3 x4 x5 x6 x7 x8
  obtain ⟨x0, x1, x2, x3, x4, x5, x6, x7, x8⟩ := BX1.out.facts
  simp only at x0 x1 x2 x3 x4 x5 x6 x7 x8
  go_wp2_with fail
  refine (PE.out _ (HT.out.bel T1.out)).mono ?_
  rintro e w2 ⟨A7, c7, rfl, ho2, hb2⟩
  rw [hn] at ho2 ⊢
  have HO2 := Lib.hid ho2
  have HB2 := Lib.hid hb2
  clear ho2 hb2 x0 x1 x2 x3 x4 x5 x6 x7 x8
  go_wp2_with fail
  refine (marked_len w1.heap.size n _ X 3 w2 HO2.out (by omega) HB2.out.size).mono ?_
  rintro e w3 ⟨rfl, hb3⟩
  have BX3 := Lib.hid (BX1.out.below (HB2.out.trans hb3) BX1.out.lt)
  have T3 := Lib.hid (T1.out.trans ((HB2.out.trans hb3).mono T1.out.size))
  have R3 := Lib.hid ((rd_own HO1.out).below (HB2.out.trans hb3))
  clear hb3 HB2 HO2 HO1 T1 BX1
  obtain ⟨x0, x1, x2, x3, x4, x5, x6, x7, x8⟩ := BX3.out.facts
  simp only at x0 x1 x2 x3 x4 x5 x6 x7 x8
  go_wp2_with fail
  refine (PR.out _).mono ?_
  rintro e w4 ⟨A10, c10, rfl, ho4, hb4⟩
  rw [hn] at ho4 ⊢
  have BX4 := Lib.hid (BX3.out.below hb4 BX3.out.lt)
  have T4 := Lib.hid (T3.out.trans (hb4.mono T3.out.size))
  have R4 := Lib.hid (R3.out.below hb4)
  have S4 := Lib.hid (rd_own ho4)
  clear ho4 hb4 x0 x1 x2 x3 x4 x5 x6 x7 x8 BX3 T3 R3 BX0 T0 PE PR
  go_wp2_with fail
  refine (roomy_any A1 m c1 b1 w4 (HR1.out.below T4.out) HM.out.symm l1).mono ?_
  rintro e w5 ⟨F, cf, rfl, hf, hb5⟩
  simp only [List.length_append, List.length_cons, List.length_nil, ← HM.out] at hf ⊢
  obtain ⟨g, rfl, hg0, hg1, hgc, _⟩ := own_pos hf (by omega)
  have s0 : (0 : Int) ≤ (m : Int) := by omega
  have s1 : (m : Int) ≤ (cf : Int) := by omega
  have HF5 := Lib.hid hf
  have B5 := Lib.hid hb5
  clear hf hb5
  go_wp2_with fail
  refine (flipped_own w4.heap.size g _ cf m cf b1 [165, 90, 167, 91] w5 HF5.out HY1.out HM.out.symm (by omega)).mono ?_
  rintro e w6 ⟨rfl, hf6, hg6⟩
  have HF6 := Lib.hid hf6
  have B6 := Lib.hid (B5.out.trans (below_of_grown hg6 B5.out.size (fun k hk => by injection hk with hk; omega)))
  clear hf6 hg6 B5 HF5
  have T6 := Lib.hid (T4.out.trans (B6.out.mono T4.out.size))
  go_wp2_with fail
  refine (PFLP.out (some ⟨g, 0, none⟩) cf w6 (rd_pre HF6.out) (by omega) (HT.out.bel T6.out)).mono ?_
  rintro e w7 ⟨rfl, hb7⟩
  have HF7 := Lib.hid (own_below HF6.out hb7)
  have B7 := Lib.hid (B6.out.trans (hb7.mono B6.out.size))
  clear hb7 HF6 B6 T6 PFLP
  go_wp2_with fail
  refine (flipped_own w4.heap.size g _ cf m cf (b1.map fl) [165, 90, 167, 91] w7 HF7.out (by_fl _) (by simp [HM.out]) (by omega)).mono ?_
  rintro e w8 ⟨rfl, hf8, hg8⟩
  rw [map_fl_fl HY1.out] at hf8
  have HF8 := Lib.hid hf8
  have B8 := Lib.hid (B7.out.trans (below_of_grown hg8 B7.out.size (fun k hk => by injection hk with hk; omega)))
  clear hf8 hg8 B7 HF7
  have T8 := Lib.hid (T4.out.trans (B8.out.mono T4.out.size))
  go_wp2_with fail
  refine (PDEC.out (some ⟨g, 0, none⟩) cf w8 (rd_pre HF8.out) (by omega) (HT.out.bel T8.out)).mono ?_
  rintro e w9 ⟨rfl, hb9⟩
  have HF9 := Lib.hid (own_below HF8.out hb9)
  have B9 := Lib.hid (B8.out.trans (hb9.mono B8.out.size))
  clear hb9 HF8 B8 T8 PDEC
  have B9a := Lib.hid (B9.out.alloc B9.out.size (.cells #[.int .u32 (qi : Int), .int .i64 qop, .string qt_, .string qk, .string qv, .int .i64 qo, .int .i64 qn, .int .i64 qp, .int .i64 qs_] 24))
  have T9a := Lib.hid (T4.out.trans (B9a.out.mono T4.out.size))
  go_wp2_with fail
  refine (PRD.out A1 c1 _ (HR1.out.below T9a.out) c1l).mono ?_
  rintro e w10 ⟨rfl, hb10⟩
  have HP10 : Hid (QBox w10 w9.heap.size ⟨qi, qop, qt_, qk, qv, qo, qn, qp, qs_⟩) := Lib.hid ((show QBox _ w9.heap.size ⟨qi, qop, qt_, qk, qv, qo, qn, qp, qs_⟩ from heap_alloc_new w9 _).below hb10 (by simp))
  have B10 := Lib.hid (B9a.out.trans (hb10.mono (by have := B9.out.size; simp; omega)))
  have HF10 := Lib.hid ((rd_own (own_below HF9.out ((Below.refl w9.heap.size w9).alloc (Nat.le_refl _) (.cells #[.int .u32 (qi : Int), .int .i64 qop, .string qt_, .string qk, .string qv, .int .i64 qo, .int .i64 qn, .int .i64 qp, .int .i64 qs_] 24)))).below hb10)
  clear hb10 B9 B9a T9a HF9 PRD
  have B10a := Lib.hid ((Below.refl w10.heap.size w10).alloc (Nat.le_refl _) (.cells #[.int .u32 (qi : Int), .int .i64 qop, .string qt_, .string qk, .string qv, .int .i64 qo, .int .i64 qn, .int .i64 qp, .int .i64 qs_] 24))
  have T10 := Lib.hid (T4.out.trans (B10.out.mono T4.out.size))
  have ES : Hid (ReqS w (w10.alloc (.cells #[.int .u32 (qi : Int), .int .i64 qop, .string qt_, .string qk, .string qv, .int .i64 qo, .int .i64 qn, .int .i64 qp, .int .i64 qs_] 24)) ⟨ai, aop, at_, ak, av, ao, an, ap, as_⟩ ⟨qi, qop, qt_, qk, qv, qo, qn, qp, qs_⟩ w9.heap.size w10.heap.size A5 A10 (some ⟨g, 0, none⟩) A1 X (b1 ++ [165, 90, 167, 91]) b1) := Lib.hid ⟨T10.out.trans (B10a.out.mono T10.out.size), (BX4.out.below B10.out BX4.out.lt).below B10a.out (Nat.lt_of_lt_of_le BX4.out.lt B10.out.size), HP10.out.below B10a.out HP10.out.lt, heap_alloc_new w10 _, (R4.out.below B10.out).below B10a.out, (S4.out.below B10.out).below B10a.out, HF10.out.below B10a.out, (HR1.out.below T10.out).below B10a.out⟩
  have HP10L := HP10.out.lt
  have BX10L := Nat.lt_of_lt_of_le BX4.out.lt B10.out.size
  have hzl : (b1 ++ [165, 90, 167, 91]).length = m + 4 := by rw [List.length_append, ← HM.out]; rfl
  have HZL := Lib.hid hzl
  clear hzl T10 B10a B10 HP10 HF10 BX4 T4 R4 S4 HR1 HY1
  have hl1 : w9.heap.size < w10.heap.size := HP10L
  have hl2 : w.heap.size < w10.heap.size := BX10L
  go_wp2_with fail
  obtain ⟨wq, hwq⟩ : ∃ W, W = w10.alloc (.cells #[.int .u32 (qi : Int), .int .i64 qop, .string qt_, .string qk, .string qv, .int .i64 qo, .int .i64 qn, .int .i64 qp, .int .i64 qs_] 24) := ⟨_, rfl⟩
  rw [← hwq] at ES ⊢
  clear hwq
  go_region_held3 (fun W => W.cell? ⟨w.heap.size, 0, none⟩ = some (.int .u32 (ai : Int)) ∧ W.cell? ⟨w.heap.size, 1, none⟩ = some (.int .i64 aop) ∧ W.cell? ⟨w.heap.size, 2, none⟩ = some (.string at_) ∧ W.cell? ⟨w.heap.size, 3, none⟩ = some (.string ak) ∧ W.cell? ⟨w.heap.size, 4, none⟩ = some (.string av) ∧ W.cell? ⟨w.heap.size, 5, none⟩ = some (.int .i64 ao) ∧ W.cell? ⟨w.heap.size, 6, none⟩ = some (.int .i64 an) ∧ W.cell? ⟨w.heap.size, 7, none⟩ = some (.int .i64 ap) ∧ W.cell? ⟨w.heap.size, 8, none⟩ = some (.int .i64 as_) ∧ W.cell? ⟨w9.heap.size, 0, none⟩ = some (.int .u32 (qi : Int)) ∧ W.cell? ⟨w9.heap.size, 1, none⟩ = some (.int .i64 qop) ∧ W.cell? ⟨w9.heap.size, 2, none⟩ = some (.string qt_) ∧ W.cell? ⟨w9.heap.size, 3, none⟩ = some (.string qk) ∧ W.cell? ⟨w9.heap.size, 4, none⟩ = some (.string qv) ∧ W.cell? ⟨w9.heap.size, 5, none⟩ = some (.int .i64 qo) ∧ W.cell? ⟨w9.heap.size, 6, none⟩ = some (.int .i64 qn) ∧ W.cell? ⟨w9.heap.size, 7, none⟩ = some (.int .i64 qp) ∧ W.cell? ⟨w9.heap.size, 8, none⟩ = some (.int .i64 qs_) ∧ W.cell? ⟨w10.heap.size, 0, none⟩ = some (.int .u32 (qi : Int)) ∧ W.cell? ⟨w10.heap.size, 1, none⟩ = some (.int .i64 qop) ∧ W.cell? ⟨w10.heap.size, 2, none⟩ = some (.string qt_) ∧ W.cell? ⟨w10.heap.size, 3, none⟩ = some (.string qk) ∧ W.cell? ⟨w10.heap.size, 4, none⟩ = some (.string qv) ∧ W.cell? ⟨w10.heap.size, 5, none⟩ = some (.int .i64 qo) ∧ W.cell? ⟨w10.heap.size, 6, none⟩ = some (.int .i64 qn) ∧ W.cell? ⟨w10.heap.size, 7, none⟩ = some (.int .i64 qp) ∧ W.cell? ⟨w10.heap.size, 8, none⟩ = some (.int .i64 qs_) ∧ ReqC w W ⟨ai, aop, at_, ak, av, ao, an, ap, as_⟩ ⟨qi, qop, qt_, qk, qv, qo, qn, qp, qs_⟩ w9.heap.size w10.heap.size A5 A10 (some ⟨g, 0, none⟩) A1 X (b1 ++ [165, 90, 167, 91]) b1)
    (first | (with_reducible assumption) | (with_reducible exact ReqS.s (by with_reducible assumption)) | (with_reducible exact ReqS.s (ReqS.drew (by with_reducible assumption))) | (with_reducible exact ReqS.s ES.out) | (with_reducible exact ReqS.s ES.out.drew))
    (first
      | (go_at_call 15; refine (PC.out _ (HT.out.bel (ReqS.below (ReqS.ofS (by with_reducible assumption))))).mono ?_; rintro e w11 ⟨rfl, hb11⟩; have hS1 : ReqS w w11 ⟨ai, aop, at_, ak, av, ao, an, ap, as_⟩ ⟨qi, qop, qt_, qk, qv, qo, qn, qp, qs_⟩ w9.heap.size w10.heap.size A5 A10 (some ⟨g, 0, none⟩) A1 X (b1 ++ [165, 90, 167, 91]) b1 := ReqS.more (ReqS.ofS (by with_reducible assumption)) hb11)
      | (go_at_call 16; refine (PD.out _).mono ?_; rintro e w12 ⟨rfl, hb12⟩; have hS2 : ReqS w w12 ⟨ai, aop, at_, ak, av, ao, an, ap, as_⟩ ⟨qi, qop, qt_, qk, qv, qo, qn, qp, qs_⟩ w9.heap.size w10.heap.size A5 A10 (some ⟨g, 0, none⟩) A1 X (b1 ++ [165, 90, 167, 91]) b1 := ReqS.more (ReqS.ofS (by with_reducible assumption)) hb12)
      | (go_at_call 11; refine (roomy_any A1 m c1 b1 _ (ReqS.r1 (ReqS.ofS (by with_reducible assumption))) HM.out.symm l1).mono ?_; rintro e w13 ⟨FF, cff, rfl, hff, hb13⟩; have HRO := Lib.hid (rd_own hff); have hS3 : ReqS w w13 ⟨ai, aop, at_, ak, av, ao, an, ap, as_⟩ ⟨qi, qop, qt_, qk, qv, qo, qn, qp, qs_⟩ w9.heap.size w10.heap.size A5 A10 (some ⟨g, 0, none⟩) A1 X (b1 ++ [165, 90, 167, 91]) b1 := ReqS.more (ReqS.ofS (by with_reducible assumption)) hb13; rw [HZL.out])
      | (go_at_call 17; refine (same_yes (some ⟨g, 0, none⟩) FF (m + 4) (m + 4) cf cff (b1 ++ [165, 90, 167, 91]) (b1 ++ [165, 90, 167, 91]) _ (ReqS.rf (ReqS.ofS (by with_reducible assumption))) (by exact HRO.out) HZL.out HZL.out (by omega) (by omega) rfl).mono ?_; rintro e w15 ⟨rfl, d15, rfl⟩; have hS5 : ReqS w _ ⟨ai, aop, at_, ak, av, ao, an, ap, as_⟩ ⟨qi, qop, qt_, qk, qv, qo, qn, qp, qs_⟩ w9.heap.size w10.heap.size A5 A10 (some ⟨g, 0, none⟩) A1 X (b1 ++ [165, 90, 167, 91]) b1 := ReqS.more (ReqS.ofS (by with_reducible assumption)) (below_drewN (Below.refl _ _) d15))
      | (go_at_call 17; refine (same_yes A5 A10 n n c5 c10 X X _ (ReqS.r5 (ReqS.ofS (by with_reducible assumption))) (ReqS.r10 (ReqS.ofS (by with_reducible assumption))) HN.out HN.out (by omega) (by omega) rfl).mono ?_; rintro e w14 ⟨rfl, d14, rfl⟩; have hS4 : ReqS w _ ⟨ai, aop, at_, ak, av, ao, an, ap, as_⟩ ⟨qi, qop, qt_, qk, qv, qo, qn, qp, qs_⟩ w9.heap.size w10.heap.size A5 A10 (some ⟨g, 0, none⟩) A1 X (b1 ++ [165, 90, 167, 91]) b1 := ReqS.more (ReqS.ofS (by with_reducible assumption)) (below_drewN (Below.refl _ _) d14)))
  go_wp2_with fail
  go_ret
  exact ⟨by first | rfl | simp, (ReqS.ofS (by with_reducible assumption)).below⟩
end Go.Proofs.YtljfmcgeiceagaaDoor
