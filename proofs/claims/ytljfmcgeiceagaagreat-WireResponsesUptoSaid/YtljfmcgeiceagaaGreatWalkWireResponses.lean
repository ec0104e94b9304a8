/- The walk of WireResponses (printed by gen_wiresp.py). -/
import Derived.Test.YtljfmcgeiceagaaGreatRsRef4
import Derived.Test.YtljfmcgeiceagaaGreatRpL5
import Derived.Test.YtljfmcgeiceagaaGreatF1
import Derived.Deep.RegionHeld3
namespace Go.Proofs.YtljfmcgeiceagaaGreat
open Go Go.RowKit
set_option linter.unusedVariables false
set_option linter.unusedSimpArgs false

theorem decp_small {b : List Nat} (hby : By b) (hl : b.length ≤ 140737488351232) : (decp b).1.names.length ≤ 16 ∧ (decp b).1.recs.length ≤ 4087 := by
  have hz : rp0.names.length ≤ 16 ∧ rp0.recs.length ≤ 4087 := by simp [rp0]
  have hgen : ∀ x, decp b = (x, 0) → x.names.length ≤ 16 ∧ x.recs.length ≤ 4087 := by
    intro x he
    obtain ⟨h1, h2⟩ := decp_back hby hl he
    obtain ⟨_, hm, hb, _, h5⟩ := decp_fw h2 h1
    have hr := recs_len x.recs hm.recs
    have hbl : (x.recs.flatMap encs).length ≤ (bdyp x).length := by
      unfold bdyp
      simp only [List.length_append]
      omega
    exact ⟨hm.hd.2.2.2, by omega⟩
  by_cases h : (bd b).2 = 0
  · have hp : decp b = outp (prs (bd b).1) := by unfold decp; rw [if_neg (by simpa using h)]
    cases hx : prs (bd b).1 with
    | some x =>
      have he : decp b = (x, 0) := by rw [hp, hx]; rfl
      rw [he]
      exact hgen x he
    | none =>
      have he : decp b = (rp0, 162) := by rw [hp, hx]; rfl
      rw [he]
      exact hz
  · have he : decp b = (rp0, 160) := by unfold decp; rw [if_pos h]
    rw [he]
    exact hz
theorem wrap_small {z : Int} (h : -9223372036854775808 ≤ z) (h2 : z ≤ 9223372036854775807) : IntKind.i64.wrap z = z := by rw [IntKind.wrap_i64]; omega
theorem sum_fact {a b : Nat} (ha : a ≤ 16) (hb : b ≤ 4087) : ((a : Int) + 64 + ((b : Int) + 64) == IntKind.i64.wrap (IntKind.i64.wrap ((a : Int) + (b : Int)) + 128)) = true := by
  rw [wrap_small (z := (a : Int) + (b : Int)) (by omega) (by omega), wrap_small (by omega) (by omega), beq_iff_eq]
  omega
/-- What is known while the law's last line is worked out. -/
structure RspS (w v0 W : World) (ai qi : Nat) (aop aco aof anu qop qco qof qnu : Int) (amo qmo : Bool) (AR AN A5 A11 F A1 PR PN QR QN : Option Addr) (cr cn dr dn gr gn nn nr gc gp gq qnn qnr pcr pcn qcr qcn : Nat) (ns qns : List ByteArray) (rs qrs : List Rc) (X Z b1 : List Nat) : Prop where
  below : Below w.heap.size w W
  br : B8 W w.heap.size (.int .u32 (ai : Int)) (.int .i64 aop) (.int .i64 aco) (.int .i64 aof) (.int .i64 anu) (.bool amo) (.slice AR nr cr) (.slice AN nn cn)
  bc : B8 W gc (.int .u32 (ai : Int)) (.int .i64 aop) (.int .i64 aco) (.int .i64 aof) (.int .i64 anu) (.bool amo) (.slice (some ⟨gr, 0, none⟩) nr dr) (.slice (some ⟨gn, 0, none⟩) nn dn)
  bp : B8 W gp (.int .u32 (qi : Int)) (.int .i64 qop) (.int .i64 qco) (.int .i64 qof) (.int .i64 qnu) (.bool qmo) (.slice PR qnr pcr) (.slice PN qnn pcn)
  bq : B8 W gq (.int .u32 (qi : Int)) (.int .i64 qop) (.int .i64 qco) (.int .i64 qof) (.int .i64 qnu) (.bool qmo) (.slice QR qnr qcr) (.slice QN qnn qcn)
  cp : Cp v0 W gn dn nn gr dr nr ns rs
  rn : Rd W AN (strs ns)
  rr : Rd W AR (rcCells rs)
  pn : Rd W PN (strs qns)
  pr : Rd W PR (rcCells qrs)
  qn : Rd W QN (strs qns)
  qr : Rd W QR (rcCells qrs)
  r5 : Rd W A5 (b8 X)
  r11 : Rd W A11 (b8 X)
  rf : Rd W F (b8 Z)
  r1 : Rd W A1 (b8 b1)
section
variable {w v0 W W' : World} {ai qi : Nat} {aop aco aof anu qop qco qof qnu : Int} {amo qmo : Bool} {AR AN A5 A11 F A1 PR PN QR QN : Option Addr} {cr cn dr dn gr gn nn nr gc gp gq qnn qnr pcr pcn qcr qcn : Nat} {ns qns : List ByteArray} {rs qrs : List Rc} {X Z b1 : List Nat}
theorem RspS.more (h : RspS w v0 W ai qi aop aco aof anu qop qco qof qnu amo qmo AR AN A5 A11 F A1 PR PN QR QN cr cn dr dn gr gn nn nr gc gp gq qnn qnr pcr pcn qcr qcn ns qns rs qrs X Z b1) (hb : Below W.heap.size W W') : RspS w v0 W' ai qi aop aco aof anu qop qco qof qnu amo qmo AR AN A5 A11 F A1 PR PN QR QN cr cn dr dn gr gn nn nr gc gp gq qnn qnr pcr pcn qcr qcn ns qns rs qrs X Z b1 :=
  ⟨h.below.trans (hb.mono h.below.size), h.br.below hb h.br.lt, h.bc.below hb h.bc.lt, h.bp.below hb h.bp.lt, h.bq.below hb h.bq.lt, h.cp.below hb, h.rn.below hb, h.rr.below hb, h.pn.below hb, h.pr.below hb, h.qn.below hb, h.qr.below hb, h.r5.below hb, h.r11.below hb, h.rf.below hb, h.r1.below hb⟩
theorem RspS.drew (h : RspS w v0 W ai qi aop aco aof anu qop qco qof qnu amo qmo AR AN A5 A11 F A1 PR PN QR QN cr cn dr dn gr gn nn nr gc gp gq qnn qnr pcr pcn qcr qcn ns qns rs qrs X Z b1) : RspS w v0 W.drew ai qi aop aco aof anu qop qco qof qnu amo qmo AR AN A5 A11 F A1 PR PN QR QN cr cn dr dn gr gn nn nr gc gp gq qnn qnr pcr pcn qcr qcn ns qns rs qrs X Z b1 := h.more (below_drewN (Below.refl _ _) 1)
end
def RspC (w v0 W : World) (ai qi : Nat) (aop aco aof anu qop qco qof qnu : Int) (amo qmo : Bool) (AR AN A5 A11 F A1 PR PN QR QN : Option Addr) (cr cn dr dn gr gn nn nr gc gp gq qnn qnr pcr pcn qcr qcn : Nat) (ns qns : List ByteArray) (rs qrs : List Rc) (X Z b1 : List Nat) : Prop := RspS w v0 W ai qi aop aco aof anu qop qco qof qnu amo qmo AR AN A5 A11 F A1 PR PN QR QN cr cn dr dn gr gn nn nr gc gp gq qnn qnr pcr pcn qcr qcn ns qns rs qrs X Z b1
section
variable {w v0 W W' : World} {ai qi : Nat} {aop aco aof anu qop qco qof qnu : Int} {amo qmo : Bool} {AR AN A5 A11 F A1 PR PN QR QN : Option Addr} {cr cn dr dn gr gn nn nr gc gp gq qnn qnr pcr pcn qcr qcn : Nat} {ns qns : List ByteArray} {rs qrs : List Rc} {X Z b1 : List Nat}
theorem RspS.s (h : RspS w v0 W ai qi aop aco aof anu qop qco qof qnu amo qmo AR AN A5 A11 F A1 PR PN QR QN cr cn dr dn gr gn nn nr gc gp gq qnn qnr pcr pcn qcr qcn ns qns rs qrs X Z b1) : W.cell? ⟨w.heap.size, 0, none⟩ = some (.int .u32 (ai : Int)) ∧ W.cell? ⟨w.heap.size, 1, none⟩ = some (.int .i64 aop) ∧ W.cell? ⟨w.heap.size, 2, none⟩ = some (.int .i64 aco) ∧ W.cell? ⟨w.heap.size, 3, none⟩ = some (.int .i64 aof) ∧ W.cell? ⟨w.heap.size, 4, none⟩ = some (.int .i64 anu) ∧ W.cell? ⟨w.heap.size, 5, none⟩ = some (.bool amo) ∧ W.cell? ⟨w.heap.size, 6, none⟩ = some (.slice AR nr cr) ∧ W.cell? ⟨w.heap.size, 7, none⟩ = some (.slice AN nn cn) ∧ W.cell? ⟨gc, 0, none⟩ = some (.int .u32 (ai : Int)) ∧ W.cell? ⟨gc, 1, none⟩ = some (.int .i64 aop) ∧ W.cell? ⟨gc, 2, none⟩ = some (.int .i64 aco) ∧ W.cell? ⟨gc, 3, none⟩ = some (.int .i64 aof) ∧ W.cell? ⟨gc, 4, none⟩ = some (.int .i64 anu) ∧ W.cell? ⟨gc, 5, none⟩ = some (.bool amo) ∧ W.cell? ⟨gc, 6, none⟩ = some (.slice (some ⟨gr, 0, none⟩) nr dr) ∧ W.cell? ⟨gc, 7, none⟩ = some (.slice (some ⟨gn, 0, none⟩) nn dn) ∧ W.cell? ⟨gp, 0, none⟩ = some (.int .u32 (qi : Int)) ∧ W.cell? ⟨gp, 1, none⟩ = some (.int .i64 qop) ∧ W.cell? ⟨gp, 2, none⟩ = some (.int .i64 qco) ∧ W.cell? ⟨gp, 3, none⟩ = some (.int .i64 qof) ∧ W.cell? ⟨gp, 4, none⟩ = some (.int .i64 qnu) ∧ W.cell? ⟨gp, 5, none⟩ = some (.bool qmo) ∧ W.cell? ⟨gp, 6, none⟩ = some (.slice PR qnr pcr) ∧ W.cell? ⟨gp, 7, none⟩ = some (.slice PN qnn pcn) ∧ W.cell? ⟨gq, 0, none⟩ = some (.int .u32 (qi : Int)) ∧ W.cell? ⟨gq, 1, none⟩ = some (.int .i64 qop) ∧ W.cell? ⟨gq, 2, none⟩ = some (.int .i64 qco) ∧ W.cell? ⟨gq, 3, none⟩ = some (.int .i64 qof) ∧ W.cell? ⟨gq, 4, none⟩ = some (.int .i64 qnu) ∧ W.cell? ⟨gq, 5, none⟩ = some (.bool qmo) ∧ W.cell? ⟨gq, 6, none⟩ = some (.slice QR qnr qcr) ∧ W.cell? ⟨gq, 7, none⟩ = some (.slice QN qnn qcn) ∧ RspC w v0 W ai qi aop aco aof anu qop qco qof qnu amo qmo AR AN A5 A11 F A1 PR PN QR QN cr cn dr dn gr gn nn nr gc gp gq qnn qnr pcr pcn qcr qcn ns qns rs qrs X Z b1 := by
  obtain ⟨r0, r1, r2, r3, r4, r5, r6, r7⟩ := h.br.facts
  obtain ⟨c0, c1, c2, c3, c4, c5, c6, c7⟩ := h.bc.facts
  obtain ⟨p0, p1, p2, p3, p4, p5, p6, p7⟩ := h.bp.facts
  obtain ⟨q0, q1, q2, q3, q4, q5, q6, q7⟩ := h.bq.facts
  exact ⟨r0, r1, r2, r3, r4, r5, r6, r7, c0, c1, c2, c3, c4, c5, c6, c7, p0, p1, p2, p3, p4, p5, p6, p7, q0, q1, q2, q3, q4, q5, q6, q7, h⟩
theorem RspS.ofS (h : W.cell? ⟨w.heap.size, 0, none⟩ = some (.int .u32 (ai : Int)) ∧ W.cell? ⟨w.heap.size, 1, none⟩ = some (.int .i64 aop) ∧ W.cell? ⟨w.heap.size, 2, none⟩ = some (.int .i64 aco) ∧ W.cell? ⟨w.heap.size, 3, none⟩ = some (.int .i64 aof) ∧ W.cell? ⟨w.heap.size, 4, none⟩ = some (.int .i64 anu) ∧ W.cell? ⟨w.heap.size, 5, none⟩ = some (.bool amo) ∧ W.cell? ⟨w.heap.size, 6, none⟩ = some (.slice AR nr cr) ∧ W.cell? ⟨w.heap.size, 7, none⟩ = some (.slice AN nn cn) ∧ W.cell? ⟨gc, 0, none⟩ = some (.int .u32 (ai : Int)) ∧ W.cell? ⟨gc, 1, none⟩ = some (.int .i64 aop) ∧ W.cell? ⟨gc, 2, none⟩ = some (.int .i64 aco) ∧ W.cell? ⟨gc, 3, none⟩ = some (.int .i64 aof) ∧ W.cell? ⟨gc, 4, none⟩ = some (.int .i64 anu) ∧ W.cell? ⟨gc, 5, none⟩ = some (.bool amo) ∧ W.cell? ⟨gc, 6, none⟩ = some (.slice (some ⟨gr, 0, none⟩) nr dr) ∧ W.cell? ⟨gc, 7, none⟩ = some (.slice (some ⟨gn, 0, none⟩) nn dn) ∧ W.cell? ⟨gp, 0, none⟩ = some (.int .u32 (qi : Int)) ∧ W.cell? ⟨gp, 1, none⟩ = some (.int .i64 qop) ∧ W.cell? ⟨gp, 2, none⟩ = some (.int .i64 qco) ∧ W.cell? ⟨gp, 3, none⟩ = some (.int .i64 qof) ∧ W.cell? ⟨gp, 4, none⟩ = some (.int .i64 qnu) ∧ W.cell? ⟨gp, 5, none⟩ = some (.bool qmo) ∧ W.cell? ⟨gp, 6, none⟩ = some (.slice PR qnr pcr) ∧ W.cell? ⟨gp, 7, none⟩ = some (.slice PN qnn pcn) ∧ W.cell? ⟨gq, 0, none⟩ = some (.int .u32 (qi : Int)) ∧ W.cell? ⟨gq, 1, none⟩ = some (.int .i64 qop) ∧ W.cell? ⟨gq, 2, none⟩ = some (.int .i64 qco) ∧ W.cell? ⟨gq, 3, none⟩ = some (.int .i64 qof) ∧ W.cell? ⟨gq, 4, none⟩ = some (.int .i64 qnu) ∧ W.cell? ⟨gq, 5, none⟩ = some (.bool qmo) ∧ W.cell? ⟨gq, 6, none⟩ = some (.slice QR qnr qcr) ∧ W.cell? ⟨gq, 7, none⟩ = some (.slice QN qnn qcn) ∧ RspC w v0 W ai qi aop aco aof anu qop qco qof qnu amo qmo AR AN A5 A11 F A1 PR PN QR QN cr cn dr dn gr gn nn nr gc gp gq qnn qnr pcr pcn qcr qcn ns qns rs qrs X Z b1) : RspS w v0 W ai qi aop aco aof anu qop qco qof qnu amo qmo AR AN A5 A11 F A1 PR PN QR QN cr cn dr dn gr gn nn nr gc gp gq qnn qnr pcr pcn qcr qcn ns qns rs qrs X Z b1 := h.2.2.2.2.2.2.2.2.2.2.2.2.2.2.2.2.2.2.2.2.2.2.2.2.2.2.2.2.2.2.2.2
end

set_option maxHeartbeats 8000000 in
set_option maxRecDepth 100000 in
theorem wireResponses_walk (x0 : Rp) (AR AN : Option Addr) (cr cn : Nat) (A1 : Option Addr) (c1 : Nat) (b1 : List Nat) (w : World) (rn : Rd w AN (strs x0.names)) (rr : Rd w AR (rcCells x0.recs)) (k0 : x0.Nm) (hl0 : x0.names.length + x0.recs.length ≤ 1048576) (hs : ∀ s ∈ x0.names, s.size ≤ 1048576) (hv : ∀ r ∈ x0.recs, r.val.size ≤ 1048576) (c1l : b1.length ≤ c1) (r1 : Rd w A1 (b8 b1)) (y1 : By b1) (l1 : b1.length ≤ 140737488351232) :
    Calls Tryz.prog 3 #[x0.V (.slice AR x0.recs.length cr) (.slice AN x0.names.length cn), .slice A1 b1.length c1] w fun e w' => e = .returned (.bool true) ∧ Below w.heap.size w w' := by
  obtain ⟨m, hm⟩ : ∃ m, m = b1.length := ⟨_, rfl⟩
  have HM := Lib.hid hm
  rw [← hm] at c1l l1 ⊢
  have PDEC := Lib.hid (fun A c W (h : Rd W A (b8 b1)) (hc : m ≤ c) => decodep_is A m c b1 W h hm.symm hc y1 (by omega))
  have PFLP := Lib.hid (fun A c W (h : Rd W A (b8 (b1.map fl))) (hc : m ≤ c) => decodep_is A m c (b1.map fl) W h (by simp [hm]) hc (by_fl _) (by omega))
  have PRD := Lib.hid (fun A c W (h : Rd W A (b8 b1)) (hc : m ≤ c) => rdecodep_is A m c b1 W h hm.symm hc y1 (by omega))
  have hds := decp_small y1 (by omega)
  obtain ⟨⟨⟨qi, qop, qco, qof, qnu, qmo, qns, qrs⟩, zz⟩, hd⟩ : ∃ q, q = decp b1 := ⟨_, rfl⟩
  rw [← hd] at PDEC PRD hds
  obtain ⟨⟨⟨fi, fop, fco, fof, fnu, fmo, fns, frs⟩, fz⟩, hfl⟩ : ∃ q, q = decp (b1.map fl) := ⟨_, rfl⟩
  rw [← hfl] at PFLP
  unfold DecR at PDEC PFLP PRD
  unfold Rp.V at PDEC PFLP PRD
  simp only at PDEC PFLP PRD hds
  obtain ⟨qnn, hqnn⟩ : ∃ n, qns.length = n := ⟨_, rfl⟩
  obtain ⟨qnr, hqnr⟩ : ∃ n, qrs.length = n := ⟨_, rfl⟩
  rw [hqnn, hqnr] at PDEC PRD hds
  have HQN := Lib.hid hqnn
  have HQR := Lib.hid hqnr
  have PSP := Lib.hid (fun base vn vr W (h1 : W.ownsRow base 9 1 vn qnn (strs qns)) (h2 : W.ownsRow base 43 7 vr qnr (rcCells qrs)) (h3 : base ≤ W.heap.size) => spoiltp_is base qnn qnr vn vr (strs qns) (rcCells qrs) ⟨qi, qop, qco, qof, qnu, qmo, qns, qrs⟩ W h1 h2 (by omega) (by omega) h3)
  have PAL := Lib.hid (fun A1 A2 B1 B2 ca cb da db W (h1 : Rd W A1 (strs qns)) (h2 : Rd W A2 (strs qns)) (h3 : Rd W B1 (rcCells qrs)) (h4 : Rd W B2 (rcCells qrs)) => alikep_is ⟨qi, qop, qco, qof, qnu, qmo, qns, qrs⟩ A1 A2 B1 B2 qnn qnr ca cb da db W h1 h2 h3 h4 hqnn hqnr (by omega) (by omega))
  unfold Rp.V at PSP PAL
  simp only at PSP PAL
  obtain ⟨ai, aop, aco, aof, anu, amo, ns, rs⟩ := x0
  simp only at rn rr hl0 hs hv
  obtain ⟨nn, hnn⟩ : ∃ n, ns.length = n := ⟨_, rfl⟩
  obtain ⟨nr, hnr⟩ : ∃ n, rs.length = n := ⟨_, rfl⟩
  rw [hnn, hnr] at hl0
  have htot : (rs.flatMap encs).length ≤ 140737488350000 := by have := encs_total rs; omega
  have htot2 : ((rs.map mvx).flatMap encs).length ≤ 140737488350000 := by have := encs_total (rs.map mvx); rw [List.length_map] at this; omega
  have k1 : Rp.Nm ⟨ai, aop, aco, aof, anu, amo, ns.map mvs, rs.map mvx⟩ := ⟨k0.1, k0.2, k0.3, k0.4, k0.5⟩
  have PE := Lib.hid (fun A B c d W (h1 : Rd W A (strs ns)) (h2 : Rd W B (rcCells rs)) => encodep_is ⟨ai, aop, aco, aof, anu, amo, ns, rs⟩ A B nn nr c d W h1 hnn h2 hnr k0 (by omega) (by omega) htot)
  have PR := Lib.hid (fun A B c d W (h1 : Rd W A (strs ns)) (h2 : Rd W B (rcCells rs)) => rencodep_is ⟨ai, aop, aco, aof, anu, amo, ns, rs⟩ A B nn nr c d W h1 hnn h2 hnr k0 (by omega) (by omega) htot)
  have PC := Lib.hid (fun A B c d W (h1 : Rd W A (strs ns)) (h2 : Rd W B (rcCells rs)) => checkp_is ⟨ai, aop, aco, aof, anu, amo, ns, rs⟩ A B nn nr c d W h1 hnn h2 hnr k0 (by omega) (by omega) htot)
  have PD := Lib.hid (fun A B c d W (h1 : Rd W A (strs ns)) (h2 : Rd W B (rcCells rs)) => rcheckp_is ⟨ai, aop, aco, aof, anu, amo, ns, rs⟩ A B nn nr c d W h1 hnn h2 hnr k0 (by omega) (by omega) htot)
  have PE1 := Lib.hid (fun A B c d W (h1 : Rd W A (strs (ns.map mvs))) (h2 : Rd W B (rcCells (rs.map mvx))) => encodep_is ⟨ai, aop, aco, aof, anu, amo, ns.map mvs, rs.map mvx⟩ A B nn nr c d W h1 (by simpa using hnn) h2 (by simpa using hnr) k1 (by omega) (by omega) htot2)
  have PC1 := Lib.hid (fun A B c d W (h1 : Rd W A (strs (ns.map mvs))) (h2 : Rd W B (rcCells (rs.map mvx))) => checkp_is ⟨ai, aop, aco, aof, anu, amo, ns.map mvs, rs.map mvx⟩ A B nn nr c d W h1 (by simpa using hnn) h2 (by simpa using hnr) k1 (by omega) (by omega) htot2)
  have PCO := Lib.hid (fun W (h1 : Rd W AN (strs ns)) (h2 : Rd W AR (rcCells rs)) => copiedp_is ⟨ai, aop, aco, aof, anu, amo, ns, rs⟩ AN AR nn nr cn cr W h1 h2 hnn hnr (by omega) (by omega))
  have PMV := Lib.hid (fun gn dn gr dr v0 W (h : Cp v0 W gn dn nn gr dr nr ns rs) => movedp_is gn dn nn gr dr nr ⟨ai, aop, aco, aof, anu, amo, ns, rs⟩ v0 W h hnn hnr (by omega) (by omega) hv hs)
  have PBK := Lib.hid (fun gn dn gr dr v0 W (h : Cp v0 W gn dn nn gr dr nr (ns.map mvs) (rs.map mvx)) (h1 : Rd v0 AN (strs ns)) (h2 : Rd v0 AR (rcCells rs)) => backp_is gn dn nn gr dr nr cn cr AN AR ⟨ai, aop, aco, aof, anu, amo, ns, rs⟩ (ns.map mvs) (rs.map mvx) v0 W h h1 h2 (by simpa using hnn) (by simpa using hnr) hnn hnr (by omega) (by omega))
  have PKP := Lib.hid (fun gn dn gr dr v0 W (h : Cp v0 W gn dn nn gr dr nr ns rs) (h1 : Rd W AN (strs ns)) (h2 : Rd W AR (rcCells rs)) => keptp_is gn dn nn gr dr nr cn cr AN AR ⟨ai, aop, aco, aof, anu, amo, ns, rs⟩ v0 W h h1 h2 hnn hnr (by omega) (by omega))
  have hl := renp_len9 ⟨ai, aop, aco, aof, anu, amo, ns, rs⟩
  obtain ⟨⟨X, y⟩, hq⟩ : ∃ q, q = renp ⟨ai, aop, aco, aof, anu, amo, ns, rs⟩ := ⟨_, rfl⟩
  rw [← hq] at PE PR PC PD hl
  obtain ⟨⟨X', y'⟩, hq'⟩ : ∃ q, q = renp ⟨ai, aop, aco, aof, anu, amo, ns.map mvs, rs.map mvx⟩ := ⟨_, rfl⟩
  rw [← hq'] at PE1 PC1
  unfold FramePost at PE PR PE1
  unfold Rp.V at PE PR PC PD PE1 PC1 PCO PMV PBK PKP ⊢
  simp only at PE PR PC PD PE1 PC1 PCO PMV PBK PKP hl ⊢
  rw [hnn, hnr]
  clear hq hq' hd hfl hqnn hqnr htot htot2 k0 k1
  obtain ⟨n, hn⟩ : ∃ n, X.length = n := ⟨_, rfl⟩
  have HN := Lib.hid hn
  rw [hn] at hl
  have HNN := Lib.hid hnn
  have HNR := Lib.hid hnr
  have HRN := Lib.hid rn
  have HRR := Lib.hid rr
  have HR1 := Lib.hid r1
  have HY1 := Lib.hid y1
  have T0 := Lib.hid ((Below.refl w.heap.size w).alloc (Nat.le_refl _) (.cells #[.int .u32 (ai : Int), .int .i64 aop, .int .i64 aco, .int .i64 aof, .int .i64 anu, .bool amo, .slice AR nr cr, .slice AN nn cn] 26))
  have BX0 : Hid (B8 (w.alloc (.cells #[.int .u32 (ai : Int), .int .i64 aop, .int .i64 aco, .int .i64 aof, .int .i64 anu, .bool amo, .slice AR nr cr, .slice AN nn cn] 26)) w.heap.size (.int .u32 (ai : Int)) (.int .i64 aop) (.int .i64 aco) (.int .i64 aof) (.int .i64 anu) (.bool amo) (.slice AR nr cr) (.slice AN nn cn)) := Lib.hid (heap_alloc_new w _)
  have hv0s : w.heap.size < (w.alloc (.cells #[.int .u32 (ai : Int), .int .i64 aop, .int .i64 aco, .int .i64 aof, .int .i64 anu, .bool amo, .slice AR nr cr, .slice AN nn cn] 26)).heap.size := by simp
  have bz : (y == y) = true := by simp
  have bzz : (zz == zz) = true := by simp
  have bn : ((n : Int) == (n : Int)) = true := by simp
  have bm : ((n : Int) + 64 == IntKind.i64.wrap ((n : Int) + 64)) = true := by rw [IntKind.wrap_i64, beq_iff_eq]; omega
  have bk : ((qnn : Int) + 64 + ((qnr : Int) + 64) == IntKind.i64.wrap (IntKind.i64.wrap ((qnn : Int) + (qnr : Int)) + 128)) = true := sum_fact (by omega) (by omega)
  clear r1 y1 hm rn rr hs hv hnn hnr
  obtain ⟨x0, x1, x2, x3, x4, x5, x6, x7⟩ := BX0.out.facts
  go_enter Tryz.func3, Tryz.ntmps3
  go_upto_region 1 with (fail)
  clear x0 x1 x2 x3 x4 x5 x6 x7
  obtain ⟨v0, hv0⟩ : ∃ v0, v0 = w.alloc (.cells #[.int .u32 (ai : Int), .int .i64 aop, .int .i64 aco, .int .i64 aof, .int .i64 anu, .bool amo, .slice AR nr cr, .slice AN nn cn] 26) := ⟨_, rfl⟩
  rw [← hv0] at T0 BX0 hv0s ⊢
  clear hv0
  obtain ⟨x0, x1, x2, x3, x4, x5, x6, x7⟩ := BX0.out.facts
  go_wp2_with fail
  refine (PCO.out v0 (HRN.out.below T0.out) (HRR.out.below T0.out)).mono ?_
  rintro e v1 ⟨gn, dn, gr, dr, rfl, hc1⟩
  have hgn := hc1.ltN
  have hgr := hc1.ltR
  have hne := hc1.ne
  have B01 := hc1.be
  have BA1 := (Below.refl v1.heap.size v1).alloc (Nat.le_refl _) (.cells #[.int .u32 (ai : Int), .int .i64 aop, .int .i64 aco, .int .i64 aof, .int .i64 anu, .bool amo, .slice (some ⟨gr, 0, none⟩) nr dr, .slice (some ⟨gn, 0, none⟩) nn dn] 26)
  have HC1 := Lib.hid (hc1.below BA1)
  have BX1 := Lib.hid ((BX0.out.below B01 hv0s).below BA1 (by have := B01.size; omega))
  have BC1 : Hid (B8 (v1.alloc (.cells #[.int .u32 (ai : Int), .int .i64 aop, .int .i64 aco, .int .i64 aof, .int .i64 anu, .bool amo, .slice (some ⟨gr, 0, none⟩) nr dr, .slice (some ⟨gn, 0, none⟩) nn dn] 26)) v1.heap.size (.int .u32 (ai : Int)) (.int .i64 aop) (.int .i64 aco) (.int .i64 aof) (.int .i64 anu) (.bool amo) (.slice (some ⟨gr, 0, none⟩) nr dr) (.slice (some ⟨gn, 0, none⟩) nn dn)) := Lib.hid (heap_alloc_new v1 _)
  clear hc1 BA1 x0 x1 x2 x3 x4 x5 x6 x7
  go_upto_region 2 with (fail)
  generalize (v1.alloc (.cells #[.int .u32 (ai : Int), .int .i64 aop, .int .i64 aco, .int .i64 aof, .int .i64 anu, .bool amo, .slice (some ⟨gr, 0, none⟩) nr dr, .slice (some ⟨gn, 0, none⟩) nn dn] 26)) = w1 at HC1 BX1 BC1 ⊢
  have hs01 := B01.size
  have hcn1 : v1.heap.size ≠ gn := by omega
  have hcn2 : v1.heap.size ≠ gr := by omega
  have hrn1 : w.heap.size ≠ gn := by omega
  have hrn2 : w.heap.size ≠ gr := by omega
  clear B01
  obtain ⟨c_0, c_1, c_2, c_3, c_4, c_5, c_6, c_7⟩ := BC1.out.facts
  go_wp2_with fail
  refine (PMV.out gn dn gr dr v0 w1 HC1.out).mono ?_
  rintro e w2 ⟨rfl, hc2, hg2⟩
  have HC2 := Lib.hid hc2
  have BX2 := Lib.hid (hg2.b8 BX1.out hrn1 hrn2)
  have BC2 := Lib.hid (hg2.b8 BC1.out hcn1 hcn2)
  clear hc2 hg2 c_0 c_1 c_2 c_3 c_4 c_5 c_6 c_7 HC1 BX1 BC1
  go_wp2_with fail
  refine (PE1.out _ _ _ _ w2 (HC2.out.rdN (by rw [List.length_map]; exact HNN.out)) (HC2.out.rdR (by rw [List.length_map]; exact HNR.out))).mono ?_
  rintro e w3 ⟨A3, c3, rfl, -, hb3⟩
  have HC3 := Lib.hid (HC2.out.below hb3)
  have BX3 := Lib.hid (BX2.out.below hb3 BX2.out.lt)
  have BC3 := Lib.hid (BC2.out.below hb3 BC2.out.lt)
  clear hb3 HC2 BX2 BC2
  obtain ⟨c_0, c_1, c_2, c_3, c_4, c_5, c_6, c_7⟩ := BC3.out.facts
  go_wp2_with fail
  refine (PC1.out _ _ _ _ w3 (HC3.out.rdN (by rw [List.length_map]; exact HNN.out)) (HC3.out.rdR (by rw [List.length_map]; exact HNR.out))).mono ?_
  rintro e w4 ⟨rfl, hb4⟩
  have HC4 := Lib.hid (HC3.out.below hb4)
  have BX4 := Lib.hid (BX3.out.below hb4 BX3.out.lt)
  have BC4 := Lib.hid (BC3.out.below hb4 BC3.out.lt)
  clear hb4 HC3 BX3 BC3 c_0 c_1 c_2 c_3 c_4 c_5 c_6 c_7
  obtain ⟨c_0, c_1, c_2, c_3, c_4, c_5, c_6, c_7⟩ := BC4.out.facts
  obtain ⟨x0, x1, x2, x3, x4, x5, x6, x7⟩ := BX4.out.facts
  go_wp2_with fail
  refine (PBK.out gn dn gr dr v0 w4 HC4.out (HRN.out.below T0.out) (HRR.out.below T0.out)).mono ?_
  rintro e w5 ⟨rfl, hc5, hg5⟩
  have HC5 := Lib.hid hc5
  have BX5 := Lib.hid (hg5.b8 BX4.out hrn1 hrn2)
  have BC5 := Lib.hid (hg5.b8 BC4.out hcn1 hcn2)
  clear hc5 hg5 HC4 BX4 BC4 c_0 c_1 c_2 c_3 c_4 c_5 c_6 c_7 x0 x1 x2 x3 x4 x5 x6 x7 PE1 PC1 PBK PMV PCO
  obtain ⟨c_0, c_1, c_2, c_3, c_4, c_5, c_6, c_7⟩ := BC5.out.facts
  go_wp2_with fail
  refine (PE.out _ _ _ _ w5 (HC5.out.rdN HNN.out) (HC5.out.rdR HNR.out)).mono ?_
  rintro e w6 ⟨A5, c5, rfl, ho6, hb6⟩
  rw [hn] at ho6 ⊢
  have HO6 := Lib.hid ho6
  have HC6 := Lib.hid (HC5.out.below hb6)
  have BX6 := Lib.hid (BX5.out.below hb6 BX5.out.lt)
  have BC6 := Lib.hid (BC5.out.below hb6 BC5.out.lt)
  clear ho6 hb6 c_0 c_1 c_2 c_3 c_4 c_5 c_6 c_7 HC5 BX5 BC5
  obtain ⟨c_0, c_1, c_2, c_3, c_4, c_5, c_6, c_7⟩ := BC6.out.facts
  go_wp2_with fail
  refine (PE.out _ _ _ _ w6 (HC6.out.rdN HNN.out) (HC6.out.rdR HNR.out)).mono ?_
  rintro e w7 ⟨A8, c8, rfl, ho7, hb7⟩
  rw [hn] at ho7 ⊢
  have HO7 := Lib.hid ho7
  have HB7 := Lib.hid hb7
  clear ho7 hb7 c_0 c_1 c_2 c_3 c_4 c_5 c_6 c_7
  go_wp2_with fail
  refine (marked_len w6.heap.size n _ X 3 w7 HO7.out (by omega) HB7.out.size).mono ?_
  rintro e w8 ⟨rfl, hb8⟩
  have B68 := HB7.out.trans hb8
  have HC8 := Lib.hid (HC6.out.below B68)
  have BX8 := Lib.hid (BX6.out.below B68 BX6.out.lt)
  have BC8 := Lib.hid (BC6.out.below B68 BC6.out.lt)
  have R8 := Lib.hid ((rd_own HO6.out).below B68)
  clear hb8 B68 HB7 HO7 HO6 HC6 BX6 BC6
  have T8 := Lib.hid (T0.out.trans (HC8.out.be.mono (by omega)))
  obtain ⟨x0, x1, x2, x3, x4, x5, x6, x7⟩ := BX8.out.facts
  go_wp2_with fail
  refine (PR.out _ _ _ _ w8 (HRN.out.below T8.out) (HRR.out.below T8.out)).mono ?_
  rintro e w9 ⟨A11, c11, rfl, ho9, hb9⟩
  rw [hn] at ho9 ⊢
  have HC9 := Lib.hid (HC8.out.below hb9)
  have BX9 := Lib.hid (BX8.out.below hb9 BX8.out.lt)
  have BC9 := Lib.hid (BC8.out.below hb9 BC8.out.lt)
  have R9 := Lib.hid (R8.out.below hb9)
  have S9 := Lib.hid (rd_own ho9)
  have T9 := Lib.hid (T8.out.trans (hb9.mono T8.out.size))
  clear ho9 hb9 x0 x1 x2 x3 x4 x5 x6 x7 HC8 BX8 BC8 R8 T8 BX0 PE PR
  go_wp2_with fail
  refine (roomy_any A1 m c1 b1 w9 (HR1.out.below T9.out) HM.out.symm l1).mono ?_
  rintro e w10 ⟨F, cf, rfl, hf, hb10⟩
  simp only [List.length_append, List.length_cons, List.length_nil, ← HM.out] at hf ⊢
  obtain ⟨g, rfl, hg0, hg1, hgc, _⟩ := own_pos hf (by omega)
  have s0 : (0 : Int) ≤ (m : Int) := by omega
  have s1 : (m : Int) ≤ (cf : Int) := by omega
  have HF10 := Lib.hid hf
  have B10 := Lib.hid hb10
  clear hf hb10
  go_wp2_with fail
  refine (flipped_own w9.heap.size g _ cf m cf b1 [165, 90, 167, 91] w10 HF10.out HY1.out HM.out.symm (by omega)).mono ?_
  rintro e w11 ⟨rfl, hf11, hg11⟩
  have HF11 := Lib.hid hf11
  have B11 := Lib.hid (B10.out.trans (below_of_grown hg11 B10.out.size (fun k hk => by injection hk with hk; omega)))
  clear hf11 hg11 B10 HF10
  go_wp2_with fail
  refine (PFLP.out (some ⟨g, 0, none⟩) cf w11 (rd_pre HF11.out) (by omega)).mono ?_
  rintro e w12 ⟨fvr, fvn, rfl, -, -, hb12⟩
  have HF12 := Lib.hid (own_below HF11.out hb12)
  have B12 := Lib.hid (B11.out.trans (hb12.mono B11.out.size))
  clear hb12 HF11 B11 PFLP
  go_wp2_with fail
  refine (flipped_own w9.heap.size g _ cf m cf (b1.map fl) [165, 90, 167, 91] w12 HF12.out (by_fl _) (by simp [HM.out]) (by omega)).mono ?_
  rintro e w13 ⟨rfl, hf13, hg13⟩
  rw [map_fl_fl HY1.out] at hf13
  have HF13 := Lib.hid hf13
  have B13 := Lib.hid (B12.out.trans (below_of_grown hg13 B12.out.size (fun k hk => by injection hk with hk; omega)))
  clear hf13 hg13 B12 HF12
  go_wp2_with fail
  refine (PDEC.out (some ⟨g, 0, none⟩) cf w13 (rd_pre HF13.out) (by omega)).mono ?_
  rintro e v13 ⟨vpr, vpn, rfl, hpn, hpr, hb14⟩
  obtain ⟨PN, pcn, hvn, -⟩ := own_shape hpn
  obtain ⟨PR, pcr, hvr, -⟩ := own_shape hpr
  subst hvn hvr
  have BA := (Below.refl v13.heap.size v13).alloc (Nat.le_refl _) (.cells #[.int .u32 (qi : Int), .int .i64 qop, .int .i64 qco, .int .i64 qof, .int .i64 qnu, .bool qmo, .slice PR qnr pcr, .slice PN qnn pcn] 26)
  have HPN := Lib.hid ((rd_own hpn).below BA)
  have HPR := Lib.hid ((rd_own hpr).below BA)
  have HF14 := Lib.hid (own_below (own_below HF13.out hb14) BA)
  have B14 := Lib.hid (B13.out.trans ((hb14.trans (BA.mono hb14.size)).mono B13.out.size))
  have BP14 : Hid (B8 (v13.alloc (.cells #[.int .u32 (qi : Int), .int .i64 qop, .int .i64 qco, .int .i64 qof, .int .i64 qnu, .bool qmo, .slice PR qnr pcr, .slice PN qnn pcn] 26)) v13.heap.size (.int .u32 (qi : Int)) (.int .i64 qop) (.int .i64 qco) (.int .i64 qof) (.int .i64 qnu) (.bool qmo) (.slice PR qnr pcr) (.slice PN qnn pcn)) := Lib.hid (heap_alloc_new v13 _)
  clear hb14 BA HF13 B13 hpn hpr
  go_upto_region 13 with (fail)
  generalize (v13.alloc (.cells #[.int .u32 (qi : Int), .int .i64 qop, .int .i64 qco, .int .i64 qof, .int .i64 qnu, .bool qmo, .slice PR qnr pcr, .slice PN qnn pcn] 26)) = w14 at HPN HPR HF14 B14 BP14 ⊢
  go_wp2_with fail
  refine (PDEC.out (some ⟨g, 0, none⟩) cf w14 (rd_pre HF14.out) (by omega)).mono ?_
  rintro e v15 ⟨vor, von, rfl, hon, hor, hb15⟩
  obtain ⟨ON, ocn, hvn, -⟩ := own_shape hon
  obtain ⟨OR, ocr, hvr, -⟩ := own_shape hor
  subst hvn hvr
  have BA := hb15.alloc hb15.size (.cells #[.int .u32 (qi : Int), .int .i64 qop, .int .i64 qco, .int .i64 qof, .int .i64 qnu, .bool qmo, .slice OR qnr ocr, .slice ON qnn ocn] 26)
  have HON := Lib.hid (hon.alloc (.cells #[.int .u32 (qi : Int), .int .i64 qop, .int .i64 qco, .int .i64 qof, .int .i64 qnu, .bool qmo, .slice OR qnr ocr, .slice ON qnn ocn] 26))
  have HOR := Lib.hid (hor.alloc (.cells #[.int .u32 (qi : Int), .int .i64 qop, .int .i64 qco, .int .i64 qof, .int .i64 qnu, .bool qmo, .slice OR qnr ocr, .slice ON qnn ocn] 26))
  have B15 := Lib.hid BA
  have BO15 : Hid (B8 (v15.alloc (.cells #[.int .u32 (qi : Int), .int .i64 qop, .int .i64 qco, .int .i64 qof, .int .i64 qnu, .bool qmo, .slice OR qnr ocr, .slice ON qnn ocn] 26)) v15.heap.size (.int .u32 (qi : Int)) (.int .i64 qop) (.int .i64 qco) (.int .i64 qof) (.int .i64 qnu) (.bool qmo) (.slice OR qnr ocr) (.slice ON qnn ocn)) := Lib.hid (heap_alloc_new v15 _)
  clear hb15 BA hon hor PDEC
  go_upto_region 14 with (fail)
  generalize (v15.alloc (.cells #[.int .u32 (qi : Int), .int .i64 qop, .int .i64 qco, .int .i64 qof, .int .i64 qnu, .bool qmo, .slice OR qnr ocr, .slice ON qnn ocn] 26)) = w15 at HON HOR B15 BO15 ⊢
  obtain ⟨c_0, c_1, c_2, c_3, c_4, c_5, c_6, c_7⟩ := BO15.out.facts
  go_wp2_with fail
  refine (PSP.out w14.heap.size _ _ w15 HON.out HOR.out B15.out.size).mono ?_
  rintro e w15b ⟨rfl, hb15b⟩
  have B15b := Lib.hid (B15.out.trans hb15b)
  have T15 := Lib.hid (T9.out.trans ((B14.out.trans (B15b.out.mono B14.out.size)).mono T9.out.size))
  clear hb15b c_0 c_1 c_2 c_3 c_4 c_5 c_6 c_7 B15 BO15 HON HOR PSP
  go_wp2_with fail
  refine (PRD.out A1 c1 w15b (HR1.out.below T15.out) c1l).mono ?_
  rintro e w16 ⟨vqr, vqn, rfl, hqn, hqr, hb16⟩
  obtain ⟨QN, qcn, hvn, -⟩ := own_shape hqn
  obtain ⟨QR, qcr, hvr, -⟩ := own_shape hqr
  subst hvn hvr
  have BA := (Below.refl w16.heap.size w16).alloc (Nat.le_refl _) (.cells #[.int .u32 (qi : Int), .int .i64 qop, .int .i64 qco, .int .i64 qof, .int .i64 qnu, .bool qmo, .slice QR qnr qcr, .slice QN qnn qcn] 26)
  have B1516 : Below w14.heap.size w14 (w16.alloc (.cells #[.int .u32 (qi : Int), .int .i64 qop, .int .i64 qco, .int .i64 qof, .int .i64 qnu, .bool qmo, .slice QR qnr qcr, .slice QN qnn qcn] 26)) := B15b.out.trans ((hb16.trans (BA.mono hb16.size)).mono B15b.out.size)
  have B916 : Below w9.heap.size w9 (w16.alloc (.cells #[.int .u32 (qi : Int), .int .i64 qop, .int .i64 qco, .int .i64 qof, .int .i64 qnu, .bool qmo, .slice QR qnr qcr, .slice QN qnn qcn] 26)) := B14.out.trans (B1516.mono B14.out.size)
  have T16 : Below w.heap.size w (w16.alloc (.cells #[.int .u32 (qi : Int), .int .i64 qop, .int .i64 qco, .int .i64 qof, .int .i64 qnu, .bool qmo, .slice QR qnr qcr, .slice QN qnn qcn] 26)) := T9.out.trans (B916.mono T9.out.size)
  have ES : Hid (RspS w v0 (w16.alloc (.cells #[.int .u32 (qi : Int), .int .i64 qop, .int .i64 qco, .int .i64 qof, .int .i64 qnu, .bool qmo, .slice QR qnr qcr, .slice QN qnn qcn] 26)) ai qi aop aco aof anu qop qco qof qnu amo qmo AR AN A5 A11 (some ⟨g, 0, none⟩) A1 PR PN QR QN cr cn dr dn gr gn nn nr v1.heap.size v13.heap.size w16.heap.size qnn qnr pcr pcn qcr qcn ns qns rs qrs X (b1 ++ [165, 90, 167, 91]) b1) := Lib.hid ⟨T16, BX9.out.below B916 BX9.out.lt, BC9.out.below B916 BC9.out.lt, BP14.out.below B1516 BP14.out.lt, heap_alloc_new w16 _, HC9.out.below B916, HRN.out.below T16, HRR.out.below T16, HPN.out.below B1516, HPR.out.below B1516, (rd_own hqn).below BA, (rd_own hqr).below BA, R9.out.below B916, S9.out.below B916, (rd_own HF14.out).below B1516, HR1.out.below T16⟩
  have hzl : (b1 ++ [165, 90, 167, 91]).length = m + 4 := by rw [List.length_append, ← HM.out]; rfl
  have HZL := Lib.hid hzl
  have HLP : v13.heap.size < w16.heap.size := by have h1 := BP14.out.lt; have h2 := B15b.out.size; have h3 := hb16.size; omega
  clear hzl B1516 B916 T16 BA hb16 hqn hqr BX9 BC9 BP14 HC9 HPN HPR R9 S9 HF14 HRN HRR HR1 HY1 B14 B15b T15 T9 T0 PRD
  go_upto_region 16 with (fail)
  obtain ⟨wq, hwq⟩ : ∃ W, W = w16.alloc (.cells #[.int .u32 (qi : Int), .int .i64 qop, .int .i64 qco, .int .i64 qof, .int .i64 qnu, .bool qmo, .slice QR qnr qcr, .slice QN qnn qcn] 26) := ⟨_, rfl⟩
  rw [← hwq] at ES ⊢
  clear hwq
  go_region_held3 (fun W => W.cell? ⟨w.heap.size, 0, none⟩ = some (.int .u32 (ai : Int)) ∧ W.cell? ⟨w.heap.size, 1, none⟩ = some (.int .i64 aop) ∧ W.cell? ⟨w.heap.size, 2, none⟩ = some (.int .i64 aco) ∧ W.cell? ⟨w.heap.size, 3, none⟩ = some (.int .i64 aof) ∧ W.cell? ⟨w.heap.size, 4, none⟩ = some (.int .i64 anu) ∧ W.cell? ⟨w.heap.size, 5, none⟩ = some (.bool amo) ∧ W.cell? ⟨w.heap.size, 6, none⟩ = some (.slice AR nr cr) ∧ W.cell? ⟨w.heap.size, 7, none⟩ = some (.slice AN nn cn) ∧ W.cell? ⟨v1.heap.size, 0, none⟩ = some (.int .u32 (ai : Int)) ∧ W.cell? ⟨v1.heap.size, 1, none⟩ = some (.int .i64 aop) ∧ W.cell? ⟨v1.heap.size, 2, none⟩ = some (.int .i64 aco) ∧ W.cell? ⟨v1.heap.size, 3, none⟩ = some (.int .i64 aof) ∧ W.cell? ⟨v1.heap.size, 4, none⟩ = some (.int .i64 anu) ∧ W.cell? ⟨v1.heap.size, 5, none⟩ = some (.bool amo) ∧ W.cell? ⟨v1.heap.size, 6, none⟩ = some (.slice (some ⟨gr, 0, none⟩) nr dr) ∧ W.cell? ⟨v1.heap.size, 7, none⟩ = some (.slice (some ⟨gn, 0, none⟩) nn dn) ∧ W.cell? ⟨v13.heap.size, 0, none⟩ = some (.int .u32 (qi : Int)) ∧ W.cell? ⟨v13.heap.size, 1, none⟩ = some (.int .i64 qop) ∧ W.cell? ⟨v13.heap.size, 2, none⟩ = some (.int .i64 qco) ∧ W.cell? ⟨v13.heap.size, 3, none⟩ = some (.int .i64 qof) ∧ W.cell? ⟨v13.heap.size, 4, none⟩ = some (.int .i64 qnu) ∧ W.cell? ⟨v13.heap.size, 5, none⟩ = some (.bool qmo) ∧ W.cell? ⟨v13.heap.size, 6, none⟩ = some (.slice PR qnr pcr) ∧ W.cell? ⟨v13.heap.size, 7, none⟩ = some (.slice PN qnn pcn) ∧ W.cell? ⟨w16.heap.size, 0, none⟩ = some (.int .u32 (qi : Int)) ∧ W.cell? ⟨w16.heap.size, 1, none⟩ = some (.int .i64 qop) ∧ W.cell? ⟨w16.heap.size, 2, none⟩ = some (.int .i64 qco) ∧ W.cell? ⟨w16.heap.size, 3, none⟩ = some (.int .i64 qof) ∧ W.cell? ⟨w16.heap.size, 4, none⟩ = some (.int .i64 qnu) ∧ W.cell? ⟨w16.heap.size, 5, none⟩ = some (.bool qmo) ∧ W.cell? ⟨w16.heap.size, 6, none⟩ = some (.slice QR qnr qcr) ∧ W.cell? ⟨w16.heap.size, 7, none⟩ = some (.slice QN qnn qcn) ∧ RspC w v0 W ai qi aop aco aof anu qop qco qof qnu amo qmo AR AN A5 A11 (some ⟨g, 0, none⟩) A1 PR PN QR QN cr cn dr dn gr gn nn nr v1.heap.size v13.heap.size w16.heap.size qnn qnr pcr pcn qcr qcn ns qns rs qrs X (b1 ++ [165, 90, 167, 91]) b1)
    (first | (with_reducible assumption) | (with_reducible exact RspS.s (by with_reducible assumption)) | (with_reducible exact RspS.s (RspS.drew (by with_reducible assumption))) | (with_reducible exact RspS.s ES.out) | (with_reducible exact RspS.s ES.out.drew))
    (first
      | (go_at_call 7; refine (PC.out _ _ _ _ _ (Cp.rdN (RspS.cp (RspS.ofS (by with_reducible assumption))) HNN.out) (Cp.rdR (RspS.cp (RspS.ofS (by with_reducible assumption))) HNR.out)).mono ?_; rintro e w21 ⟨rfl, hb21⟩; have hS1 : RspS w v0 w21 ai qi aop aco aof anu qop qco qof qnu amo qmo AR AN A5 A11 (some ⟨g, 0, none⟩) A1 PR PN QR QN cr cn dr dn gr gn nn nr v1.heap.size v13.heap.size w16.heap.size qnn qnr pcr pcn qcr qcn ns qns rs qrs X (b1 ++ [165, 90, 167, 91]) b1 := RspS.more (RspS.ofS (by with_reducible assumption)) hb21)
      | (go_at_call 16; refine (PD.out _ _ _ _ _ (RspS.rn (RspS.ofS (by with_reducible assumption))) (RspS.rr (RspS.ofS (by with_reducible assumption)))).mono ?_; rintro e w22 ⟨rfl, hb22⟩; have hS2 : RspS w v0 w22 ai qi aop aco aof anu qop qco qof qnu amo qmo AR AN A5 A11 (some ⟨g, 0, none⟩) A1 PR PN QR QN cr cn dr dn gr gn nn nr v1.heap.size v13.heap.size w16.heap.size qnn qnr pcr pcn qcr qcn ns qns rs qrs X (b1 ++ [165, 90, 167, 91]) b1 := RspS.more (RspS.ofS (by with_reducible assumption)) hb22)
      | (go_at_call 18; refine (PAL.out _ _ _ _ _ _ _ _ _ (RspS.pn (RspS.ofS (by with_reducible assumption))) (RspS.qn (RspS.ofS (by with_reducible assumption))) (RspS.pr (RspS.ofS (by with_reducible assumption))) (RspS.qr (RspS.ofS (by with_reducible assumption)))).mono ?_; rintro e w23 ⟨rfl, hb23⟩; have hS3 : RspS w v0 w23 ai qi aop aco aof anu qop qco qof qnu amo qmo AR AN A5 A11 (some ⟨g, 0, none⟩) A1 PR PN QR QN cr cn dr dn gr gn nn nr v1.heap.size v13.heap.size w16.heap.size qnn qnr pcr pcn qcr qcn ns qns rs qrs X (b1 ++ [165, 90, 167, 91]) b1 := RspS.more (RspS.ofS (by with_reducible assumption)) hb23)
      | (go_at_call 19; refine (PKP.out gn dn gr dr v0 _ (RspS.cp (RspS.ofS (by with_reducible assumption))) (RspS.rn (RspS.ofS (by with_reducible assumption))) (RspS.rr (RspS.ofS (by with_reducible assumption)))).mono ?_; rintro e w24 ⟨rfl, hb24⟩; have hS4 : RspS w v0 w24 ai qi aop aco aof anu qop qco qof qnu amo qmo AR AN A5 A11 (some ⟨g, 0, none⟩) A1 PR PN QR QN cr cn dr dn gr gn nn nr v1.heap.size v13.heap.size w16.heap.size qnn qnr pcr pcn qcr qcn ns qns rs qrs X (b1 ++ [165, 90, 167, 91]) b1 := RspS.more (RspS.ofS (by with_reducible assumption)) hb24)
      | (go_at_call 11; refine (roomy_any A1 m c1 b1 _ (RspS.r1 (RspS.ofS (by with_reducible assumption))) HM.out.symm l1).mono ?_; rintro e w25 ⟨FF, cff, rfl, hff, hb25⟩; have HRO := Lib.hid (rd_own hff); have hS5 : RspS w v0 w25 ai qi aop aco aof anu qop qco qof qnu amo qmo AR AN A5 A11 (some ⟨g, 0, none⟩) A1 PR PN QR QN cr cn dr dn gr gn nn nr v1.heap.size v13.heap.size w16.heap.size qnn qnr pcr pcn qcr qcn ns qns rs qrs X (b1 ++ [165, 90, 167, 91]) b1 := RspS.more (RspS.ofS (by with_reducible assumption)) hb25; rw [HZL.out])
      | (go_at_call 17; refine (same_yes (some ⟨g, 0, none⟩) FF (m + 4) (m + 4) cf cff (b1 ++ [165, 90, 167, 91]) (b1 ++ [165, 90, 167, 91]) _ (RspS.rf (RspS.ofS (by with_reducible assumption))) (by exact HRO.out) HZL.out HZL.out (by omega) (by omega) rfl).mono ?_; rintro e w26 ⟨rfl, d26, rfl⟩; have hS6 : RspS w v0 _ ai qi aop aco aof anu qop qco qof qnu amo qmo AR AN A5 A11 (some ⟨g, 0, none⟩) A1 PR PN QR QN cr cn dr dn gr gn nn nr v1.heap.size v13.heap.size w16.heap.size qnn qnr pcr pcn qcr qcn ns qns rs qrs X (b1 ++ [165, 90, 167, 91]) b1 := RspS.more (RspS.ofS (by with_reducible assumption)) (below_drewN (Below.refl _ _) d26))
      | (go_at_call 17; refine (same_yes A5 A11 n n c5 c11 X X _ (RspS.r5 (RspS.ofS (by with_reducible assumption))) (RspS.r11 (RspS.ofS (by with_reducible assumption))) HN.out HN.out (by omega) (by omega) rfl).mono ?_; rintro e w27 ⟨rfl, d27, rfl⟩; have hS7 : RspS w v0 _ ai qi aop aco aof anu qop qco qof qnu amo qmo AR AN A5 A11 (some ⟨g, 0, none⟩) A1 PR PN QR QN cr cn dr dn gr gn nn nr v1.heap.size v13.heap.size w16.heap.size qnn qnr pcr pcn qcr qcn ns qns rs qrs X (b1 ++ [165, 90, 167, 91]) b1 := RspS.more (RspS.ofS (by with_reducible assumption)) (below_drewN (Below.refl _ _) d27)))
  go_wp2_with fail
  go_ret
  exact ⟨by first | rfl | simp, (RspS.ofS (by with_reducible assumption)).below⟩
end Go.Proofs.YtljfmcgeiceagaaGreat
