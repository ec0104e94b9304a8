/- The walk of WireRound, in its second form. -/
import Derived.Test.YtljfmcgeiceagaaDoorWorks
import Derived.Test.YtljfmcgeiceagaaDoorRsDec
import Derived.Test.YtljfmcgeiceagaaDoorRndP
import Derived.Test.YtljfmcgeiceagaaDoorAlikep
import Derived.Test.YtljfmcgeiceagaaDoorWalkWireRequests
import Derived.Test.YtljfmcgeiceagaaDoorF1
import Derived.Deep.CutRange
namespace Go.Proofs.YtljfmcgeiceagaaDoor
open Go Go.RowKit
set_option linter.unusedVariables false
set_option linter.unusedSimpArgs false

/-- Under way: what came in lies in its two boxes. -/
structure RndS (w W : World) (x0 : Rq) (x1 : Rp) (vr vn : Value) : Prop where
  bq : QBox W w.heap.size x0
  bp : B8 W (w.heap.size + 1) (.int .u32 (x1.id : Int)) (.int .i64 x1.op) (.int .i64 x1.code) (.int .i64 x1.off) (.int .i64 x1.num) (.bool x1.more) vr vn
  be : Below w.heap.size w W
  lt : w.heap.size + 2 ≤ W.heap.size
theorem RndS.below {w W W' : World} {x0 : Rq} {x1 : Rp} {vr vn : Value} (h : RndS w W x0 x1 vr vn) {w1 : World} (hb : Below W.heap.size w1 W') (he : w1 = W) : RndS w W' x0 x1 vr vn := by
  subst he
  have := h.lt
  exact ⟨h.bq.below hb (by omega), h.bp.below hb (by omega), h.be.trans (hb.mono h.be.size), Nat.le_trans h.lt hb.size⟩
theorem RndS.bel {w W W' : World} {x0 : Rq} {x1 : Rp} {vr vn : Value} (h : RndS w W x0 x1 vr vn) (hb : Below W.heap.size W W') : RndS w W' x0 x1 vr vn := h.below hb rfl
theorem RndS.new (w : World) (x0 : Rq) (x1 : Rp) (vr vn : Value) : RndS w ((w.alloc (.cells #[.int .u32 (x0.id : Int), .int .i64 x0.op, .string x0.t, .string x0.k, .string x0.v, .int .i64 x0.o, .int .i64 x0.n, .int .i64 x0.p, .int .i64 x0.s] 24)).alloc (.cells #[.int .u32 (x1.id : Int), .int .i64 x1.op, .int .i64 x1.code, .int .i64 x1.off, .int .i64 x1.num, .bool x1.more, vr, vn] 39)) x0 x1 vr vn := by
  have h1 : QBox _ w.heap.size x0 := heap_alloc_new w _
  have h2 := h1.below ((Below.refl _ _).alloc (Nat.le_refl _) (.cells #[.int .u32 (x1.id : Int), .int .i64 x1.op, .int .i64 x1.code, .int .i64 x1.off, .int .i64 x1.num, .bool x1.more, vr, vn] 39)) h1.lt
  have h3 := heap_alloc_new (w.alloc (.cells #[.int .u32 (x0.id : Int), .int .i64 x0.op, .string x0.t, .string x0.k, .string x0.v, .int .i64 x0.o, .int .i64 x0.n, .int .i64 x0.p, .int .i64 x0.s] 24)) (.cells #[.int .u32 (x1.id : Int), .int .i64 x1.op, .int .i64 x1.code, .int .i64 x1.off, .int .i64 x1.num, .bool x1.more, vr, vn] 39)
  simp only [World.size_alloc] at h3
  refine ⟨h2, h3, ((Below.refl _ _).alloc (Nat.le_refl _) _).alloc (by simp) _, by simp⟩
theorem renq_facts {x : Rq} {X m : List Nat} (hk : x.Nm) (h : renq x = (X, 0)) : decq X = (x, 0) ∧ decp X = (rp0, 162) ∧ hd (X ++ m) = ((X.length : Int), 0) ∧ 10 ≤ X.length ∧ X.length ≤ 1180 ∧ By X := by
  have hm : MayQ x := Classical.byContradiction fun e => by
    unfold renq at h
    rw [if_neg (fun e' => e (okq_may.1 e'))] at h
    cases h
  have hx : X = wrap 197 (bdyq x) := by
    unfold renq at h
    rw [if_pos (okq_may.2 hm)] at h
    injection h with h _
    exact h.symm
  subst hx
  have ho := hk.ok hm
  obtain ⟨l1, l2⟩ := bdyq_len hm ho
  have hl := wrap_length 197 (bdyq x)
  exact ⟨decq_wrap hm ho, decp_req hm ho, hd_more (by omega) (by omega), by omega, by omega, wrap_by (by omega) (bdyq_by hm)⟩
theorem renp_facts {x : Rp} {X m : List Nat} (hk : x.Nm) (h : renp x = (X, 0)) : decp X = (x, 0) ∧ decq X = (rq0, 161) ∧ hd (X ++ m) = ((X.length : Int), 0) ∧ 10 ≤ X.length ∧ X.length ≤ 4096 ∧ By X := by
  obtain ⟨h1, hm, rfl, h2, h3⟩ := decp_fw hk h
  have hl := wrap_length 197 (bdyp x)
  exact ⟨h1, decq_resp hm h2 h3, hd_more h2 h3, by omega, by omega, wrap_by (by omega) (bdyp_by hm)⟩
theorem flat_ge {α : Type} {f : α → List Nat} : ∀ (l : List α), (∀ x ∈ l, 1 ≤ (f x).length) → l.length ≤ (l.flatMap f).length
  | [], _ => by simp
  | a :: l, h => by
    have h1 := h a (by simp)
    have h2 := flat_ge l (fun x hx => h x (by simp [hx]))
    simp only [List.flatMap_cons, List.length_append, List.length_cons]
    omega
theorem back_facts {x : Rp} {b : List Nat} (hb : By b) (hl : b.length ≤ 140737488351232) (h : decp b = (x, 0)) : renp x = (b, 0) ∧ x.Nm ∧ x.names.length ≤ 16 ∧ x.recs.length ≤ 4087 ∧ (x.recs.flatMap encs).length ≤ 4087 := by
  obtain ⟨h1, h2⟩ := decp_back hb hl h
  obtain ⟨_, hm, _, _, h3⟩ := decp_fw h2 h1
  have h4 : (x.recs.flatMap encs).length ≤ 4087 := by
    unfold bdyp at h3
    simp only [List.length_append] at h3
    omega
  have h5 := flat_ge (f := encs) x.recs (fun r hr => by
    unfold encs
    rw [renc_ok (hm.recs r hr), wrap_length]
    omega)
  exact ⟨h1, h2, hm.hd.2.2.2, by omega, h4⟩
set_option maxHeartbeats 8000000 in
set_option maxRecDepth 100000 in
theorem wireRoundU_walk (x0 : Rq) (x1 : Rp) (R1 S1 : Option Addr) (cr1 cn1 : Nat) (A2 : Option Addr) (c2 : Nat) (b2 : List Nat) (A3 : Option Addr) (c3 : Nat) (b3 : List Nat) (w : World) (ht : Tab w) (k0 : x0.Nm) (rn1 : Rd w S1 (strs x1.names)) (rr1 : Rd w R1 (rcCells x1.recs)) (k1 : x1.Nm) (c2l : b2.length ≤ c2) (r2 : Rd w A2 (b8 b2)) (y2 : By b2) (l2 : b2.length ≤ 140737488351232) (c3l : b3.length ≤ c3) (r3 : Rd w A3 (b8 b3)) (y3 : By b3) (l3 : b3.length ≤ 140737488351232) (ub : (x1.names.length + x1.recs.length) + b2.length + b3.length ≤ 1048576) :
    Calls Tryd.prog 4 #[x0.V, x1.V (.slice R1 x1.recs.length cr1) (.slice S1 x1.names.length cn1), .slice A2 b2.length c2, .slice A3 b3.length c3] w fun e w' => e = .returned (.bool true) ∧ Below w.heap.size w w' := by
  have HS0 := Lib.hid (RndS.new w x0 x1 (.slice R1 x1.recs.length cr1) (.slice S1 x1.names.length cn1))
  have HT := Lib.hid ht
  have PEQ := Lib.hid (fun W (h : Tab W) => encodeq_any x0 W h k0)
  obtain ⟨⟨X, z⟩, hX⟩ : ∃ q, renq x0 = q := ⟨_, rfl⟩
  have HXF : Hid (z = 0 → decq X = (x0, 0) ∧ decp X = (rp0, 162) ∧ hd (X ++ b3) = ((X.length : Int), 0) ∧ 10 ≤ X.length ∧ X.length ≤ 1180 ∧ By X) := Lib.hid (fun e => renq_facts k0 (by rw [hX, e]))
  rw [hX] at PEQ
  unfold FramePost at PEQ
  obtain ⟨lx, hlx⟩ : ∃ l, X.length = l := ⟨_, rfl⟩
  have HLX := Lib.hid hlx
  simp only [hlx] at PEQ HXF
  clear hX hlx
  have PEP := Lib.hid (fun W (hb : Below w.heap.size w W) => encodep_is x1 S1 R1 x1.names.length x1.recs.length cn1 cr1 W (rn1.below hb) rfl (rr1.below hb) rfl k1 (by omega) (by omega) (by have := encs_total x1.recs; omega))
  obtain ⟨⟨Y, zy⟩, hY⟩ : ∃ q, renp x1 = q := ⟨_, rfl⟩
  have HYF : Hid (zy = 0 → decp Y = (x1, 0) ∧ decq Y = (rq0, 161) ∧ hd (Y ++ b3) = ((Y.length : Int), 0) ∧ 10 ≤ Y.length ∧ Y.length ≤ 4096 ∧ By Y) := Lib.hid (fun e => renp_facts k1 (by rw [hY, e]))
  rw [hY] at PEP
  unfold FramePost at PEP
  obtain ⟨ly, hly⟩ : ∃ l, Y.length = l := ⟨_, rfl⟩
  have HLY := Lib.hid hly
  simp only [hly] at PEP HYF
  clear hY hly
  have PDC := Lib.hid (fun W (hb : Below w.heap.size w W) (ht : Tab W) => decodeq_is A2 b2.length c2 b2 W (r2.below hb) rfl c2l y2 l2 ht)
  obtain ⟨⟨⟨ai, aop, at_, ak, av, ao, an, ap, as_⟩, zq⟩, hdq⟩ : ∃ q, decq b2 = q := ⟨_, rfl⟩
  have HDQ : Hid (zq = 0 → renq ⟨ai, aop, at_, ak, av, ao, an, ap, as_⟩ = (b2, 0) ∧ Rq.Ok ⟨ai, aop, at_, ak, av, ao, an, ap, as_⟩) := Lib.hid (fun e => decq_back y2 l2 (by rw [hdq, e]))
  rw [hdq] at PDC
  unfold DecQ Rq.V at PDC
  simp only at PDC
  clear hdq
  obtain ⟨m2, hm2⟩ : ∃ m, b2.length = m := ⟨_, rfl⟩
  obtain ⟨m3, hm3⟩ : ∃ m, b3.length = m := ⟨_, rfl⟩
  obtain ⟨nn, hnn⟩ : ∃ m, x1.names.length = m := ⟨_, rfl⟩
  obtain ⟨nr, hnr⟩ : ∃ m, x1.recs.length = m := ⟨_, rfl⟩
  rw [hnn, hnr] at HS0 PEP
  rw [hm2, hm3, hnn, hnr] at ub
  rw [hm2] at PDC
  rw [hm2] at c2l
  rw [hm3] at c3l
  rw [hm2, hm3, hnn, hnr]
  have HM2 := Lib.hid hm2
  have HM3 := Lib.hid hm3
  have HNN := Lib.hid hnn
  have HNR := Lib.hid hnr
  have HR2 := Lib.hid r2
  have HR3 := Lib.hid r3
  have HY2 := Lib.hid y2
  have HY3 := Lib.hid y3
  have HK0 := Lib.hid k0
  have HK1 := Lib.hid k1
  have HRN := Lib.hid rn1
  have HRR := Lib.hid rr1
  obtain ⟨qi, qop, qt_, qk, qv, qo, qn, qp, qs_⟩ := x0
  obtain ⟨id, op, code, off, num, more, names, recs⟩ := x1
  unfold Rq.V at PEQ ⊢
  unfold Rp.V at PEP ⊢
  simp only at PEP HYF PEQ HXF HS0 HNN HNR HRN HRR ⊢
  clear ht k0 rn1 rr1 k1 r2 y2 l2 r3 y3 l3 hm2 hm3 hnn hnr
  go_enter Tryd.func4, Tryd.ntmps4
  go_wp2_with fail
  refine (works16_is _ (HT.out.bel HS0.out.be)).mono ?_
  rintro e w1 ⟨rfl, hb1⟩
  have HS1 := Lib.hid (HS0.out.bel hb1)
  clear hb1 HS0
  obtain ⟨y0, y1, y2, y3, y4, y5, y6, y7, y8⟩ := HS1.out.bq.facts
  simp only at y0 y1 y2 y3 y4 y5 y6 y7 y8
  go_wp2_with fail
  refine (PEQ.out _ (HT.out.bel HS1.out.be)).mono ?_
  rintro e w2 ⟨AX, cX, rfl, hoX, hb2⟩
  have HS2 := Lib.hid (HS1.out.bel hb2)
  have HOX := Lib.hid hoX
  clear hoX hb2 HS1 PEQ y0 y1 y2 y3 y4 y5 y6 y7 y8
  go_upto_if 39 with (fail)
  go_cut [] from 31 (fun wx => RndS w wx ⟨qi, qop, qt_, qk, qv, qo, qn, qp, qs_⟩ ⟨id, op, code, off, num, more, names, recs⟩ (.slice R1 nr cr1) (.slice S1 nn cn1))
  case first =>
    by_cases hz : z = 0
    · obtain ⟨f1, f2, f3, f4, f5, f6⟩ := HXF.out hz
      have PD := Lib.hid (fun A c W (h : Rd W A (b8 X)) (hc : lx ≤ c) (ht : Tab W) => decodeq_is A lx c X W h HLX.out hc f6 (by omega) ht)
      have PP := Lib.hid (fun A c W (h : Rd W A (b8 X)) (hc : lx ≤ c) => decodep_is A lx c X W h HLX.out hc f6 (by omega))
      rw [f1] at PD
      rw [f2] at PP
      unfold DecQ at PD
      unfold DecR at PP
      unfold Rq.V at PD
      unfold Rp.V rp0 at PP
      simp only at PD PP
      have hz0 : (z == 0) = true := by rw [hz]; rfl
      have HF3 := Lib.hid f3
      have HF6 := Lib.hid f6
      have hcX := (own_cap HOX.out).1
      clear f1 f2 f3 f6 HXF hz
      go_wp2_with fail
      refine (PD.out AX cX w2 (rd_own HOX.out) hcX (HT.out.bel HS2.out.be)).mono ?_
      rintro e w3 ⟨rfl, hb3⟩
      have HBA := (Below.refl w3.heap.size w3).alloc (Nat.le_refl _) (.cells #[.int .u32 (qi : Int), .int .i64 qop, .string qt_, .string qk, .string qv, .int .i64 qo, .int .i64 qn, .int .i64 qp, .int .i64 qs_] 24)
      have HQ := Lib.hid (show QBox _ w3.heap.size ⟨qi, qop, qt_, qk, qv, qo, qn, qp, qs_⟩ from heap_alloc_new w3 _)
      have HSA := Lib.hid ((HS2.out.bel hb3).bel HBA)
      have HRX := Lib.hid (((rd_own HOX.out).below hb3).below HBA)
      clear hb3 HBA PD
      go_wp2_with fail
      refine (PP.out AX cX _ HRX.out hcX).mono ?_
      rintro e w4 ⟨vr, vn, rfl, hon, hor, hb4⟩
      obtain ⟨A5, c5, rfl, -⟩ := own_shape hon
      obtain ⟨A6, c6, rfl, -⟩ := own_shape hor
      have HBB := (Below.refl w4.heap.size w4).alloc (Nat.le_refl _) (.cells #[.int .u32 0, .int .i64 0, .int .i64 0, .int .i64 0, .int .i64 0, .bool false, .slice A6 0 c6, .slice A5 0 c5] 39)
      have HQ5 := Lib.hid ((HQ.out.below hb4 (by simp)).below HBB (by have := hb4.size; simp at this; omega))
      have HS5 := Lib.hid ((HSA.out.bel hb4).bel HBB)
      have HR5 := Lib.hid ((HRX.out.below hb4).below HBB)
      clear hon hor hb4 HBB HQ HSA HRX PP
      go_upto_region 7 with (fail)
      generalize (w4.alloc (.cells #[.int .u32 0, .int .i64 0, .int .i64 0, .int .i64 0, .int .i64 0, .bool false, .slice A6 0 c6, .slice A5 0 c5] 39)) = w5 at HQ5 HS5 HR5 ⊢
      have h0 := own_lit w5 w5.heap.size [] 5 0 (Nat.le_refl _) (by decide) rfl
      have bA := (Below.refl w5.heap.size w5).alloc (Nat.le_refl _) (.cells [].toArray 5)
      have hr1 : Rd (w5.alloc (.cells [].toArray 5)) AX (b8 X) := HR5.out.below bA
      have HH0 := Lib.hid h0
      have HBA := Lib.hid bA
      have HR1 := Lib.hid hr1
      have HW3 := Lib.hid (HR3.out.below HS5.out.be)
      clear h0 bA hr1
      go_wp2_with (first
        | (at_builtin; (refine app8 _ rfl (.tmp 51) (.tmp 52) rfl w5.heap.size _ 0 [] rfl HH0.out AX lx cX X rfl HLX.out HR1.out (by omega) (by simp) ?_); intro v1 w6 hown1 hg1 _; rw [Nat.zero_add, List.nil_append] at hown1; have b6 := HBA.out.trans (below_of_grown hg1 (by simp) (fun k hk => (HH0.out.lt k hk).1)); have HB6 := Lib.hid b6; have HO6 := Lib.hid hown1; obtain ⟨A7, c7, rfl, -⟩ := own_shape hown1; clear hown1 hg1 b6)
        | (at_builtin; go_loud ((refine app8 w6 rfl (.tmp 53) (.tmp 54) rfl w5.heap.size (.slice A7 lx c7) lx X rfl HO6.out A3 m3 c3 b3 rfl HM3.out (HW3.out.below HB6.out) (by omega) HB6.out.size ?_); intro v2 w7 hown2 hg2 _; have b7 := HB6.out.trans (below_of_grown hg2 HB6.out.size (fun k hk => (HO6.out.lt k hk).1)); have HB7 := Lib.hid b7; have HO7 := Lib.hid hown2; obtain ⟨A8, c8, rfl, -⟩ := own_shape hown2; clear hown2 hg2 b7)))
      have PHD := head_is A8 (lx + m3) c8 (X ++ b3) w7 (rd_own HO7.out) (by rw [List.length_append, HLX.out, HM3.out]) (own_cap HO7.out).1 (HF6.out.append HY3.out) (by omega)
      unfold HeadPost at PHD
      rw [HF3.out] at PHD
      simp only at PHD
      refine PHD.mono ?_
      rintro e w8 ⟨rfl, hb8⟩
      have HS8 := Lib.hid ((HS5.out.bel HB7.out).bel hb8)
      have HQ8 := Lib.hid ((HQ5.out.below HB7.out HQ5.out.lt).below hb8 (Nat.lt_of_lt_of_le HQ5.out.lt HB7.out.size))
      clear hb8 PHD HS5 HQ5 HB6 HB7 HO6 HO7 HW3 HR1 HBA HH0 HR5
      obtain ⟨y0, y1, y2, y3, y4, y5, y6, y7, y8⟩ := HS8.out.bq.facts
      obtain ⟨z0, z1, z2, z3, z4, z5, z6, z7, z8⟩ := HQ8.out.facts
      simp only at y0 y1 y2 y3 y4 y5 y6 y7 y8 z0 z1 z2 z3 z4 z5 z6 z7 z8
      have hle : decide ((1180 : Int) < (lx : Int)) = false := decide_eq_false (by omega)
      have hle2 : decide (1180 < lx) = false := decide_eq_false (by omega)
      have hll : ((lx : Int) != (lx : Int)) = false := by simp
      go_wp2_with fail
      go_meet
      case rel => exact HS8.out
    · have hz0 : (z == 0) = false := beq_false_of_ne hz
      clear hz HXF
      go_wp2_with fail
      go_meet
      case rel => exact HS2.out
  case' rest =>
    have HS3 := Lib.hid hcut
    clear hcut
    clear HOX HS2
    obtain ⟨y0, y1, y2, y3, y4, y5, y6, y7⟩ := HS3.out.bp.facts
    simp only at y0 y1 y2 y3 y4 y5
    go_wp2_with fail
    refine (PEP.out _ HS3.out.be).mono ?_
    rintro e w2 ⟨AX, cX, rfl, hoX, hb2⟩
    have HS2 := Lib.hid (HS3.out.bel hb2)
    have HOX := Lib.hid hoX
    clear hoX hb2 HS3 PEP y0 y1 y2 y3 y4 y5 y6 y7
    go_upto_if 91 with (fail)
    go_cut [] from 31 (fun wx => RndS w wx ⟨qi, qop, qt_, qk, qv, qo, qn, qp, qs_⟩ ⟨id, op, code, off, num, more, names, recs⟩ (.slice R1 nr cr1) (.slice S1 nn cn1))
    case first =>
      by_cases hz : zy = 0
      · obtain ⟨f1, f2, f3, f4, f5, f6⟩ := HYF.out hz
        have PD := Lib.hid (fun A c W (h : Rd W A (b8 Y)) (hc : ly ≤ c) (ht : Tab W) => decodeq_is A ly c Y W h HLY.out hc f6 (by omega) ht)
        have PP := Lib.hid (fun A c W (h : Rd W A (b8 Y)) (hc : ly ≤ c) => decodep_is A ly c Y W h HLY.out hc f6 (by omega))
        rw [f2] at PD
        rw [f1] at PP
        unfold DecQ at PD
        unfold DecR at PP
        unfold Rq.V rq0 at PD
        unfold Rp.V at PP
        simp only [HNN.out, HNR.out] at PD PP
        have hz0 : (zy == 0) = true := by rw [hz]; rfl
        have HF3 := Lib.hid f3
        have HF6 := Lib.hid f6
        have hcX := (own_cap HOX.out).1
        clear f1 f2 f3 f6 HYF hz
        go_wp2_with fail
        refine (PP.out AX cX w2 (rd_own HOX.out) hcX).mono ?_
        rintro e w3 ⟨vr, vn, rfl, hon, hor, hb3⟩
        obtain ⟨A5, c5, rfl, -⟩ := own_shape hon
        obtain ⟨A6, c6, rfl, -⟩ := own_shape hor
        have HBA := (Below.refl w3.heap.size w3).alloc (Nat.le_refl _) (.cells #[.int .u32 (id : Int), .int .i64 op, .int .i64 code, .int .i64 off, .int .i64 num, .bool more, .slice A6 nr c6, .slice A5 nn c5] 39)
        have HPX := Lib.hid (show B8 _ w3.heap.size (.int .u32 (id : Int)) (.int .i64 op) (.int .i64 code) (.int .i64 off) (.int .i64 num) (.bool more) (.slice A6 nr c6) (.slice A5 nn c5) from heap_alloc_new w3 _)
        have HSA := Lib.hid ((HS2.out.bel hb3).bel HBA)
        have HRX := Lib.hid (((rd_own HOX.out).below hb3).below HBA)
        have HN5 := Lib.hid ((rd_own hon).below HBA)
        have HR6 := Lib.hid ((rd_own (n := nr) (by have := hor; exact this)).below HBA)
        clear hon hor hb3 HBA PP
        go_wp2_with fail
        refine (PD.out AX cX _ HRX.out hcX (HT.out.bel HSA.out.be)).mono ?_
        rintro e w4 ⟨rfl, hb4⟩
        have HBB := (Below.refl w4.heap.size w4).alloc (Nat.le_refl _) (.cells #[.int .u32 0, .int .i64 0, .string ⟨#[]⟩, .string ⟨#[]⟩, .string ⟨#[]⟩, .int .i64 0, .int .i64 0, .int .i64 0, .int .i64 0] 24)
        have HP5 := Lib.hid ((HPX.out.below hb4 HPX.out.lt).below HBB (Nat.lt_of_lt_of_le HPX.out.lt hb4.size))
        have HS5 := Lib.hid ((HSA.out.bel hb4).bel HBB)
        have HX5 := Lib.hid ((HRX.out.below hb4).below HBB)
        have HN6 := Lib.hid ((HN5.out.below hb4).below HBB)
        have HR7 := Lib.hid ((HR6.out.below hb4).below HBB)
        clear hb4 HBB HPX HSA HRX HN5 HR6 PD
        go_upto_region 14 with (fail)
        generalize (w4.alloc (.cells #[.int .u32 0, .int .i64 0, .string ⟨#[]⟩, .string ⟨#[]⟩, .string ⟨#[]⟩, .int .i64 0, .int .i64 0, .int .i64 0, .int .i64 0] 24)) = w5 at HP5 HS5 HX5 HN6 HR7 ⊢
        have h0 := own_lit w5 w5.heap.size [] 5 0 (Nat.le_refl _) (by decide) rfl
        have bA := (Below.refl w5.heap.size w5).alloc (Nat.le_refl _) (.cells [].toArray 5)
        have hr1 : Rd (w5.alloc (.cells [].toArray 5)) AX (b8 Y) := HX5.out.below bA
        have HH0 := Lib.hid h0
        have HBA := Lib.hid bA
        have HR1 := Lib.hid hr1
        have HW3 := Lib.hid (HR3.out.below HS5.out.be)
        clear h0 bA hr1
        go_wp2_with (first
          | (at_builtin; (refine app8 _ rfl (.tmp 103) (.tmp 104) rfl w5.heap.size _ 0 [] rfl HH0.out AX ly cX Y rfl HLY.out HR1.out (by omega) (by simp) ?_); intro v1 w6 hown1 hg1 _; rw [Nat.zero_add, List.nil_append] at hown1; have b6 := HBA.out.trans (below_of_grown hg1 (by simp) (fun k hk => (HH0.out.lt k hk).1)); have HB6 := Lib.hid b6; have HO6 := Lib.hid hown1; obtain ⟨A7, c7, rfl, -⟩ := own_shape hown1; clear hown1 hg1 b6)
          | (at_builtin; ((refine app8 w6 rfl (.tmp 105) (.tmp 106) rfl w5.heap.size (.slice A7 ly c7) ly Y rfl HO6.out A3 m3 c3 b3 rfl HM3.out (HW3.out.below HB6.out) (by omega) HB6.out.size ?_); intro v2 w7 hown2 hg2 _; have b7 := HB6.out.trans (below_of_grown hg2 HB6.out.size (fun k hk => (HO6.out.lt k hk).1)); have HB7 := Lib.hid b7; have HO7 := Lib.hid hown2; obtain ⟨A8, c8, rfl, -⟩ := own_shape hown2; clear hown2 hg2 b7)))
        have PHD := head_is A8 (ly + m3) c8 (Y ++ b3) w7 (rd_own HO7.out) (by rw [List.length_append, HLY.out, HM3.out]) (own_cap HO7.out).1 (HF6.out.append HY3.out) (by omega)
        unfold HeadPost at PHD
        rw [HF3.out] at PHD
        simp only at PHD
        refine PHD.mono ?_
        rintro e w8 ⟨rfl, hb8⟩
        have HS8 := Lib.hid ((HS5.out.bel HB7.out).bel hb8)
        have HP8 := Lib.hid ((HP5.out.below HB7.out HP5.out.lt).below hb8 (Nat.lt_of_lt_of_le HP5.out.lt HB7.out.size))
        have PAL := Lib.hid (alikep_is ⟨id, op, code, off, num, more, names, recs⟩ A5 S1 A6 R1 nn nr c5 cn1 c6 cr1 w8 ((HN6.out.below HB7.out).below hb8) (HRN.out.below HS8.out.be) ((HR7.out.below HB7.out).below hb8) (HRR.out.below HS8.out.be) HNN.out HNR.out (by omega) (by omega))
        unfold Rp.V at PAL
        clear hb8 PHD HS5 HP5 HB6 HB7 HO6 HO7 HW3 HR1 HBA HH0 HX5 HN6 HR7
        obtain ⟨y0, y1, y2, y3, y4, y5, y6, y7⟩ := HS8.out.bp.facts
        obtain ⟨z0, z1, z2, z3, z4, z5, z6, z7⟩ := HP8.out.facts
        simp only at y0 y1 y2 y3 y4 y5
        have hle : decide ((4096 : Int) < (ly : Int)) = false := decide_eq_false (by omega)
        have hle2 : decide (4096 < ly) = false := decide_eq_false (by omega)
        have hll : ((ly : Int) != (ly : Int)) = false := by simp
        go_wp2_with fail
        refine PAL.out.mono ?_
        rintro e w9 ⟨rfl, hb9⟩
        have HS9 := Lib.hid (HS8.out.bel hb9)
        clear hb9 PAL y0 y1 y2 y3 y4 y5 y6 y7 z0 z1 z2 z3 z4 z5 z6 z7
        go_wp2_with fail
        go_meet
        case rel => exact HS9.out
      · have hz0 : (zy == 0) = false := beq_false_of_ne hz
        clear hz HYF
        go_wp2_with fail
        go_meet
        case rel => exact HS2.out
    case' rest =>
      have HS4 := Lib.hid hcut
      clear hcut
      clear HOX HS2
      go_wp2_with fail
      refine (PDC.out _ HS4.out.be (HT.out.bel HS4.out.be)).mono ?_
      rintro e w2 ⟨rfl, hb2⟩
      have HBA := (Below.refl w2.heap.size w2).alloc (Nat.le_refl _) (.cells #[.int .u32 (ai : Int), .int .i64 aop, .string at_, .string ak, .string av, .int .i64 ao, .int .i64 an, .int .i64 ap, .int .i64 as_] 24)
      have HQ := Lib.hid (show QBox _ w2.heap.size ⟨ai, aop, at_, ak, av, ao, an, ap, as_⟩ from heap_alloc_new w2 _)
      have HSA := Lib.hid ((HS4.out.bel hb2).bel HBA)
      clear hb2 HBA HS4 PDC
      go_upto_if 144 with (fail)
      go_cut [] from 31 (fun wx => RndS w wx ⟨qi, qop, qt_, qk, qv, qo, qn, qp, qs_⟩ ⟨id, op, code, off, num, more, names, recs⟩ (.slice R1 nr cr1) (.slice S1 nn cn1))
      case first =>
        by_cases hz : zq = 0
        · obtain ⟨f1, f2⟩ := HDQ.out hz
          have PE := Lib.hid (fun W (h : Tab W) => encodeq_is ⟨ai, aop, at_, ak, av, ao, an, ap, as_⟩ W h f2)
          rw [f1] at PE
          unfold FramePost Rq.V at PE
          simp only [HM2.out] at PE
          have hz0 : (zq == 0) = true := by rw [hz]; rfl
          clear f1 f2 hz HDQ
          obtain ⟨z0, z1, z2, z3, z4, z5, z6, z7, z8⟩ := (HQ.out).facts
          simp only at z0 z1 z2 z3 z4 z5 z6 z7 z8
          go_wp2_with fail
          refine (PE.out _ (HT.out.bel HSA.out.be)).mono ?_
          rintro e w3 ⟨AZ, cZ, rfl, hoZ, hb3⟩
          have HS5 := Lib.hid (HSA.out.bel hb3)
          have HOZ := Lib.hid (rd_own hoZ)
          clear hoZ hb3 PE z0 z1 z2 z3 z4 z5 z6 z7 z8
          go_wp2_with fail
          refine (same_yes AZ A2 m2 m2 cZ c2 b2 b2 _ HOZ.out (HR2.out.below HS5.out.be) HM2.out HM2.out (by omega) (by omega) rfl).mono ?_
          rintro e w4 ⟨rfl, mm, rfl⟩
          have HS7 := Lib.hid (HS5.out.bel (below_drewN (Below.refl _ _) mm))
          go_wp2_with fail
          go_meet
          case rel => exact HS7.out
        · have hz0 : (zq == 0) = false := beq_false_of_ne hz
          clear hz HDQ
          go_wp2_with fail
          go_meet
          case rel => exact HSA.out
      case' rest =>
        have HS6 := Lib.hid hcut
        clear hcut
        have PDP := Lib.hid (fun W (hb : Below w.heap.size w W) => decodep_is A2 m2 c2 b2 W (HR2.out.below hb) HM2.out c2l HY2.out (by omega))
        obtain ⟨⟨⟨pi_, pop, pco, pof, pnu, pmo, pna, pre_⟩, zp⟩, hdp_⟩ : ∃ q, decp b2 = q := ⟨_, rfl⟩
        have HDP : Hid (zp = 0 → renp ⟨pi_, pop, pco, pof, pnu, pmo, pna, pre_⟩ = (b2, 0) ∧ Rp.Nm ⟨pi_, pop, pco, pof, pnu, pmo, pna, pre_⟩ ∧ pna.length ≤ 16 ∧ pre_.length ≤ 4087 ∧ (pre_.flatMap encs).length ≤ 4087) := Lib.hid (fun e => back_facts HY2.out (by rw [HM2.out]; omega) (by rw [hdp_, e]))
        rw [hdp_] at PDP
        unfold DecR Rp.V at PDP
        simp only at PDP
        clear hdp_
        obtain ⟨n5, hn5⟩ : ∃ m, pna.length = m := ⟨_, rfl⟩
        obtain ⟨n6, hn6⟩ : ∃ m, pre_.length = m := ⟨_, rfl⟩
        rw [hn5, hn6] at PDP HDP
        have HN5 := Lib.hid hn5
        have HN6 := Lib.hid hn6
        clear hn5 hn6
        go_wp2_with fail
        refine (PDP.out _ HS6.out.be).mono ?_
        rintro e w2 ⟨vr, vn, rfl, hon, hor, hb2⟩
        obtain ⟨A5, c5, rfl, -⟩ := own_shape hon
        obtain ⟨A6, c6, rfl, -⟩ := own_shape hor
        have HBA := (Below.refl w2.heap.size w2).alloc (Nat.le_refl _) (.cells #[.int .u32 (pi_ : Int), .int .i64 pop, .int .i64 pco, .int .i64 pof, .int .i64 pnu, .bool pmo, .slice A6 n6 c6, .slice A5 n5 c5] 39)
        have HPX := Lib.hid (show B8 _ w2.heap.size (.int .u32 (pi_ : Int)) (.int .i64 pop) (.int .i64 pco) (.int .i64 pof) (.int .i64 pnu) (.bool pmo) (.slice A6 n6 c6) (.slice A5 n5 c5) from heap_alloc_new w2 _)
        have HSA := Lib.hid ((HS6.out.bel hb2).bel HBA)
        have HR5 := Lib.hid ((rd_own hon).below HBA)
        have HR6 := Lib.hid ((rd_own (n := n6) (by have := hor; exact this)).below HBA)
        clear hon hor hb2 HBA PDP HS6
        by_cases hz : zp = 0
        · obtain ⟨f1, f2, f3, f4, f5⟩ := HDP.out hz
          have PE := Lib.hid (fun W (hn : Rd W A5 (strs pna)) (hr : Rd W A6 (rcCells pre_)) => encodep_is ⟨pi_, pop, pco, pof, pnu, pmo, pna, pre_⟩ A5 A6 n5 n6 c5 c6 W hn HN5.out hr HN6.out f2 (by omega) (by omega) (Nat.le_trans f5 (by omega)))
          rw [f1] at PE
          unfold FramePost Rp.V at PE
          simp only [HM2.out] at PE
          have hz0 : (zp == 0) = true := by rw [hz]; rfl
          clear f1 f2 f3 f4 f5 hz HDP
          obtain ⟨z0, z1, z2, z3, z4, z5, z6, z7⟩ := (HPX.out).facts
          go_wp2_with fail
          refine (PE.out _ HR5.out HR6.out).mono ?_
          rintro e w3 ⟨AZ, cZ, rfl, hoZ, hb3⟩
          have HS5 := Lib.hid (HSA.out.bel hb3)
          have HOZ := Lib.hid (rd_own hoZ)
          clear hoZ hb3 PE z0 z1 z2 z3 z4 z5 z6 z7
          go_wp2_with fail
          refine (same_yes AZ A2 m2 m2 cZ c2 b2 b2 _ HOZ.out (HR2.out.below HS5.out.be) HM2.out HM2.out (by omega) (by omega) rfl).mono ?_
          rintro e w4 ⟨rfl, mm, rfl⟩
          have HS7 := Lib.hid (HS5.out.bel (below_drewN (Below.refl _ _) mm))
          go_wp2_with fail
          go_ret
          exact ⟨rfl, HS7.out.be⟩
        · have hz0 : (zp == 0) = false := beq_false_of_ne hz
          clear hz HDP
          go_wp2_with fail
          go_ret
          exact ⟨rfl, HSA.out.be⟩
end Go.Proofs.YtljfmcgeiceagaaDoor
