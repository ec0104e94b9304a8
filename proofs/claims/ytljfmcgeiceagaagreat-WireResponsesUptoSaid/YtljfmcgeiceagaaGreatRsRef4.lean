/- The document's DecodeResponse (printed by gen_rsref4.py). -/
import Derived.Test.YtljfmcgeiceagaaGreatRsDd
import Derived.Test.YtljfmcgeiceagaaGreatW1
import Derived.Deep.RegionHeld3
import Derived.Deep.CutRange
import Derived.Deep.CutBlock
import Derived.BigQuiet
namespace Go.Proofs.YtljfmcgeiceagaaGreat
open Go Go.RowKit
set_option linter.unusedVariables false
set_option linter.unusedSimpArgs false

theorem renp_len9 (x : Rp) : (renp x).1.length ≤ 4096 := by
  by_cases hm : MayP x
  · rw [renp_yes hm]
    unfold frm
    split
    · simp
    split
    · simp
    · simp only [wrap_length]; omega
  · rw [renp_no hm]; simp
theorem ddec1_ok {b : List Nat} {x : Rp} (h : renp x = (b, 0)) : ddec1 b (some x) = (x, 0) := by unfold ddec1; simp only; rw [if_pos h]
theorem ddec1_no {b : List Nat} {x : Rp} (h : ¬ renp x = (b, 0)) : ddec1 b (some x) = (rp0, 162) := by unfold ddec1; simp only; rw [if_neg h]
set_option maxHeartbeats 4000000 in
set_option maxRecDepth 100000 in
theorem rdecodep_noBody (A : Option Addr) (n c : Nat) (b : List Nat) (w : World) (hr : Rd w A (b8 b)) (hn : b.length = n) (hnc : n ≤ c) (hby : By b) (hl : n ≤ 140737488351232) (h : (bd b).2 ≠ 0) :
    Calls Tryz.prog 15 #[.slice A n c] w (DecR w (ddec b)) := by
  have HD : Hid (ddec b = (rp0, 160)) := Lib.hid (by unfold ddec; rw [if_pos h])
  have HB0 := Lib.hid ((Below.refl w.heap.size w).alloc (Nat.le_refl _) zrp)
  have PB := Lib.hid (rbody_is A n c b _ (hr.below HB0.out) hn hnc hby hl)
  have HZ0 := Lib.hid (zrp_new w)
  unfold zrp at HB0 PB HZ0
  have h160 := bd_code16 b h
  obtain ⟨⟨bs, x⟩, hx⟩ : ∃ p, p = bd b := ⟨_, rfl⟩
  rw [← hx] at PB h160
  simp only at h160
  subst h160
  unfold FramePost at PB
  simp only at PB
  rw [HD.out]
  unfold DecR
  clear hr hn hnc hby hl hx h
  go_enter Tryz.func15, Tryz.ntmps15
  go_wp2_with fail
  refine PB.out.mono ?_
  rintro e w1 ⟨A1, c1, rfl, ho1, hb1⟩
  have HZ := HZ0.out.below hb1 (by simp)
  have HB1 := Lib.hid (HB0.out.trans (hb1.mono (by simp)))
  clear ho1 hb1
  obtain ⟨z0, z1, z2, z3, z4, z5, z6, z7⟩ := HZ.facts
  obtain ⟨k0, k1, k2, k3, k4, k5, k6, k7⟩ := HZ.marks
  go_wp2_with fail
  refine bodyPost_ret (v := .tuple #[.agg #[.int .u32 0, .int .i64 0, .int .i64 0, .int .i64 0, .int .i64 0, .bool false, .slice none 0 0, .slice none 0 0], .int .i64 160]) (by simp [results, Tryz.results15, go_sem, z0, z1, z2, z3, z4, z5, z6, z7]) rfl ⟨.slice none 0 0, .slice none 0 0, rfl, World.ownsRow_nil _ _ _ _, World.ownsRow_nil _ _ _ _, ?_⟩
  exact below_w8 _ _ _ _ _ _ _ _ HB1.out (Nat.le_refl _)
set_option maxHeartbeats 8000000 in
set_option maxRecDepth 100000 in
theorem rdecodep_body (A : Option Addr) (n c : Nat) (b : List Nat) (w : World) (hr : Rd w A (b8 b)) (hn : b.length = n) (hnc : n ≤ c) (hby : By b) (hl : n ≤ 140737488351232) (h : (bd b).2 = 0) :
    Calls Tryz.prog 15 #[.slice A n c] w (DecR w (ddec b)) := by
  have HB0 := Lib.hid ((Below.refl w.heap.size w).alloc (Nat.le_refl _) zrp)
  have PB := Lib.hid (rbody_is A n c b _ (hr.below HB0.out) hn hnc hby hl)
  have HZ0 := Lib.hid (zrp_new w)
  unfold zrp at HB0 PB HZ0
  obtain ⟨hw, h9, hdr⟩ := bd_wrapped hby h
  have hb4 : (bd b).1.length ≤ 4087 := bd_small hby h
  have HD : Hid (ddec b = ddec1 b (dpr (bd b).1)) := Lib.hid (by unfold ddec; rw [if_neg (by simpa using h)])
  obtain ⟨⟨bs, x⟩, hx⟩ : ∃ p, p = bd b := ⟨_, rfl⟩
  rw [← hx] at PB h HD hdr hb4
  simp only at h HD hdr hb4
  subst h
  have hyb : By bs := by rw [hdr]; exact by_drop hby 9
  have hlb : bs.length ≤ 140737488351232 := by omega
  unfold FramePost at PB
  simp only at PB
  have PN := Lib.hid (fun A c W (h : Rd W A (b8 bs)) => rnewReader_is A bs.length c bs W h rfl hyb hlb)
  unfold Newed at PN
  have ok0 := ok_new hyb hlb
  have hrl0 := dpr0_len bs
  obtain ⟨⟨q, sE⟩, hQ⟩ : ∃ q, dpr0 bs = q := ⟨_, rfl⟩
  rw [hQ] at hrl0
  have HP : Hid (dpr bs = dpr1 q.x (drc q.n q.r)) := Lib.hid (by unfold dpr; rw [hQ])
  unfold dpr0 at hQ
  simp only at hQ
  obtain ⟨⟨fl, s1⟩, hF⟩ : ∃ p, (⟨bs, 0, 0, 0⟩ : Rs).take 1 = p := ⟨_, rfl⟩
  have ok1 : s1.Ok := by have := ok0.take 1; rw [hF] at this; exact this
  have fby : By fl := by have := Rs.take_by ok0 1; rw [hF] at this; exact this
  have PB1 := Lib.hid (fun base g v W (h : Rdr base W 95 Rs.rcells g v (⟨bs, 0, 0, 0⟩ : Rs)) => rbyte_r base g v (⟨bs, 0, 0, 0⟩ : Rs) W h)
  rw [hF] at hQ PB1
  simp only at hQ PB1
  obtain ⟨⟨ol, s2⟩, hO⟩ : ∃ p, s1.take 1 = p := ⟨_, rfl⟩
  have ok2 : s2.Ok := by have := ok1.take 1; rw [hO] at this; exact this
  have oby : By ol := by have := Rs.take_by ok1 1; rw [hO] at this; exact this
  have PB2 := Lib.hid (fun base g v W (h : Rdr base W 95 Rs.rcells g v s1) => rbyte_r base g v s1 W h)
  rw [hO] at hQ PB2
  simp only at hQ PB2
  obtain ⟨⟨cl, s3⟩, hC⟩ : ∃ p, s2.take 1 = p := ⟨_, rfl⟩
  have ok3 : s3.Ok := by have := ok2.take 1; rw [hC] at this; exact this
  have cby : By cl := by have := Rs.take_by ok2 1; rw [hC] at this; exact this
  have PB3 := Lib.hid (fun base g v W (h : Rdr base W 95 Rs.rcells g v s2) => rbyte_r base g v s2 W h)
  rw [hC] at hQ PB3
  simp only at hQ PB3
  unfold Gave at PB1 PB2 PB3
  obtain ⟨f, hf⟩ : ∃ f, f = fl.headD 0 := ⟨_, rfl⟩
  obtain ⟨op, hop⟩ : ∃ f, f = ol.headD 0 := ⟨_, rfl⟩
  obtain ⟨co, hco⟩ : ∃ f, f = cl.headD 0 := ⟨_, rfl⟩
  have hop8 : op < 256 := by rw [hop]; cases h1 : ol with | nil => simp | cons y r => exact oby y (by rw [h1]; simp)
  have hco8 : co < 256 := by rw [hco]; cases h1 : cl with | nil => simp | cons y r => exact cby y (by rw [h1]; simp)
  rw [← hf] at PB1
  rw [← hop] at PB2
  rw [← hco] at PB3
  rw [← hf, ← hop, ← hco] at hQ
  have wo : IntKind.i64.wrap (op : Int) = (op : Int) := by rw [IntKind.wrap_i64]; omega
  have wc : IntKind.i64.wrap (co : Int) = (co : Int) := by rw [IntKind.wrap_i64]; omega
  have PID := Lib.hid (fun base g v W (h : Rdr base W 95 Rs.rcells g v s3) => ruv_r base g v s3 W h)
  obtain ⟨⟨iv, s4⟩, hI⟩ : ∃ p, s3.num = p := ⟨_, rfl⟩
  rw [hI] at hQ PID
  have ok4 : s4.Ok ∧ iv < 18446744073709551616 := by have := ok3.num; rw [hI] at this; exact ⟨this.1, this.2.1⟩
  have hwi : IntKind.u32.wrap (iv : Int) = ((iv % 4294967296 : Nat) : Int) := by rw [IntKind.wrap_u32]; omega
  simp only at hQ
  obtain ⟨ii, hii⟩ : ∃ x, x = iv % 4294967296 := ⟨_, rfl⟩
  rw [← hii] at hQ hwi
  obtain ⟨⟨of, s5⟩, hV⟩ : ∃ p, vi s4 = p := ⟨_, rfl⟩
  rw [hV] at hQ
  have PV1 := Lib.hid (fun base g v W (h : Rdr base W 95 Rs.rcells g v s4) => rvarint_r base g v s4 W h)
  have ok5 : s5.Ok := by have := ok4.1.num.1; unfold vi at hV; injection hV with _ h2; rw [h2] at this; exact this
  unfold vi at hV
  injection hV with hv1 hv2
  rw [hv1, hv2] at PV1
  simp only at hQ
  obtain ⟨⟨nu, s6⟩, hU⟩ : ∃ p, vi s5 = p := ⟨_, rfl⟩
  rw [hU] at hQ
  have PV2 := Lib.hid (fun base g v W (h : Rdr base W 95 Rs.rcells g v s5) => rvarint_r base g v s5 W h)
  have ok6 : s6.Ok := by have := ok5.num.1; unfold vi at hU; injection hU with _ h2; rw [h2] at this; exact this
  unfold vi at hU
  injection hU with hu1 hu2
  have HNX := Lib.hid (fun ns mo l => nm_of (m := 0) (ns := ns) (show ii < 4294967296 by rw [hii]; exact Nat.mod_lt _ (by omega)) hop8 hco8 (show r64 of by rw [← hv1]; exact zag_range _ ok4.1.num.2.1) (show r64 nu by rw [← hu1]; exact zag_range _ ok5.num.2.1) mo l)
  rw [hu1, hu2] at PV2
  simp only at hQ
  obtain ⟨⟨ml, s7⟩, hM⟩ : ∃ p, s6.take 1 = p := ⟨_, rfl⟩
  have ok7 : s7.Ok := by have := ok6.take 1; rw [hM] at this; exact this
  have PM := Lib.hid (fun base g v W (h : Rdr base W 95 Rs.rcells g v s6) => rbyte_r base g v s6 W h)
  rw [hM] at hQ PM
  simp only at hQ PM
  obtain ⟨m, hm⟩ : ∃ m, m = ml.headD 0 := ⟨_, rfl⟩
  unfold Gave at PID PV1 PV2 PM
  simp only at PID PV1 PV2 PM
  rw [← hm] at hQ PM
  have PK := Lib.hid (fun base g v W (h : Rdr base W 95 Rs.rcells g v s7) => ruv_r base g v s7 W h)
  obtain ⟨⟨k, s8⟩, hK⟩ : ∃ p, s7.num = p := ⟨_, rfl⟩
  have ok8 : s8.Ok := by have := ok7.num.1; rw [hK] at this; exact this
  rw [hK] at hQ PK
  simp only at hQ
  have PT := Lib.hid (fun j base g v W (h : Rdr base W 95 Rs.rcells g v (nms j s8).2) => rtext_r base g v (nms j s8).2 24 W h (by omega))
  have HNL := Lib.hid (fun j => nms_len s8 j)
  obtain ⟨kk, hkk⟩ : ∃ kk, kk = min k 17 := ⟨_, rfl⟩
  rw [← hkk] at hQ
  obtain ⟨⟨ns, s9⟩, hNS⟩ : ∃ p, nms kk s8 = p := ⟨_, rfl⟩
  have ok9 : s9.Ok := by have := nms_ok ok8 kk; rw [hNS] at this; exact this
  rw [hNS] at hQ
  simp only at hQ
  have PN2 := Lib.hid (fun base g v W (h : Rdr base W 95 Rs.rcells g v s9) => ruv_r base g v s9 W h)
  obtain ⟨⟨nn, s10⟩, hN⟩ : ∃ p, s9.num = p := ⟨_, rfl⟩
  have ok10 : s10.Ok := by have := ok9.num.1; rw [hN] at this; exact this
  rw [hN] at hQ PN2
  simp only at hQ
  obtain ⟨⟨rl, s11⟩, hR⟩ : ∃ p, s10.take (s10.rest : Int) = p := ⟨_, rfl⟩
  have rby : By rl := by have := Rs.take_by ok10 (s10.rest : Int); rw [hR] at this; exact this
  rw [hR] at hQ
  simp only at hQ
  unfold Gave at PK PT PN2
  simp only at PK PT PN2
  injection hQ with hq1 hq2
  rw [← hq1] at hrl0
  simp only at hrl0
  obtain ⟨mo, hmo⟩ : ∃ mo, mo = (m == 1) := ⟨_, rfl⟩
  have HP2 : Hid (dpr bs = dpr1 (fun l => ⟨ii, op, co, of, nu, mo, ns, l⟩) (drc nn rl)) := Lib.hid (by rw [HP.out, ← hq1, hmo]; rfl)
  have hmb : ((m : Int) == 1) = mo := by rw [hmo, Bool.eq_iff_iff]; simp; omega
  have hk17 : kk ≤ 17 := by omega
  have HNS := Lib.hid hNS
  have HRB := Lib.hid rby
  have HRL : Hid (rl.length ≤ 4087) := Lib.hid (by omega)
  have HNL9 : Hid (ns.length ≤ 17) := Lib.hid (by have := nms_len s8 kk; rw [hNS] at this; simp only at this; omega)
  have HR := Lib.hid hR
  have HR0 := Lib.hid hr
  have HN := Lib.hid hn
  have HKK : Hid (kk = min k 17) := Lib.hid hkk
  clear HP hr hn hby hx hw h9 hdr hyb hlb ok0 hF fby oby cby hO hC hf hop hco ok1 ok2 ok3 ok4 ok5 ok6 ok7 ok8 ok9 ok10 hI hii hv1 hv2 hu1 hu2 hM hm hK hkk hNS hN hR rby hq1 hq2 hb4 hrl0 hmo hop8 hco8
  have HQD : Hid (∀ q, dpr bs = q → ddec b = ddec1 b q) := Lib.hid (fun q h => by rw [HD.out, h])
  clear HD
  obtain ⟨D, hD⟩ : ∃ D, D = ddec b := ⟨_, rfl⟩
  rw [← hD] at HQD ⊢
  clear hD
  obtain ⟨P, hP⟩ : ∃ P, P = dpr bs := ⟨_, rfl⟩
  rw [← hP] at HP2 HQD
  clear hP
  unfold DecR
  go_enter Tryz.func15, Tryz.ntmps15
  go_wp2_with fail
  refine PB.out.mono ?_
  rintro e w1 ⟨A1, c1, rfl, ho1, hb1⟩
  have HZ := Lib.hid (HZ0.out.below hb1 (by simp))
  have HB1 := Lib.hid (HB0.out.trans (hb1.mono (by simp)))
  have HO1 := Lib.hid ho1
  have hgz := HZ.out.lt
  clear ho1 hb1 PB HZ0 HB0
  go_wp2_with fail
  refine (PN.out A1 c1 w1 (rd_own HO1.out)).mono ?_
  rintro e w2 ⟨g, v, rfl, hr2, hb2⟩
  have H2 := Lib.hid hr2
  have B2 := Lib.hid hb2
  clear hr2 hb2 PN HO1
  go_wp2_with fail
  refine (PB1.out _ g v w2 H2.out).mono ?_
  rintro e w3 ⟨rfl, ht3⟩
  have H3 : Hid (DdL w1 (w3.alloc zrp) g v s1 w3.heap.size rp0 (.slice none 0 0) (.slice none 0 0)) := Lib.hid (DdL.new ht3.rd (B2.out.trans (ht3.low B2.out.size)))
  have hg8 : w.heap.size < w3.heap.size := by have := (B2.out.trans (ht3.low B2.out.size)).size; omega
  unfold zrp at H3
  clear ht3 H2 B2 PB1
  go_upto_region 7 with (fail)
  obtain ⟨g8, hg8e⟩ : ∃ g8, g8 = w3.heap.size := ⟨_, rfl⟩
  rw [← hg8e] at H3 hg8 ⊢
  clear hg8e
  generalize (w3.alloc (.cells #[.int .u32 0, .int .i64 0, .int .i64 0, .int .i64 0, .int .i64 0, .bool false, .slice none 0 0, .slice none 0 0] 26)) = y0 at H3 ⊢
  have HY0 : Hid (DdL w1 y0 g v s1 g8 ⟨0, 0, 0, 0, 0, false, [], []⟩ (.slice none 0 0) (.slice none 0 0)) := H3
  clear H3
  go_wp2_with fail
  refine (PB2.out _ g v _ HY0.out.rd).mono ?_
  rintro e t1 ⟨rfl, ht⟩
  have HA1 := Lib.hid (HY0.out.turn ht)
  clear ht PB2 HY0
  obtain ⟨z0, z1, z2, z3, z4, z5, z6, z7⟩ := HA1.out.bx.facts
  obtain ⟨k0, k1, k2, k3, k4, k5, k6, k7⟩ := HA1.out.bx.marks
  go_upto_region 8 with (fail)
  have HY1 := Lib.hid (HA1.out.put (j := 1) (u := .int .i64 (op : Int)) ⟨0, op, 0, 0, 0, false, [], []⟩ rfl rfl (HA1.out.bx.put1 _))
  clear z0 z1 z2 z3 z4 z5 z6 z7 k0 k1 k2 k3 k4 k5 k6 k7 HA1
  generalize (t1.setCell ⟨g8, 1, none⟩ (.int .i64 (op : Int))) = y1 at HY1 ⊢
  go_wp2_with fail
  refine (PB3.out _ g v _ HY1.out.rd).mono ?_
  rintro e t2 ⟨rfl, ht⟩
  have HA2 := Lib.hid (HY1.out.turn ht)
  clear ht PB3 HY1
  obtain ⟨z0, z1, z2, z3, z4, z5, z6, z7⟩ := HA2.out.bx.facts
  obtain ⟨k0, k1, k2, k3, k4, k5, k6, k7⟩ := HA2.out.bx.marks
  go_upto_region 9 with (fail)
  have HY2 := Lib.hid (HA2.out.put (j := 2) (u := .int .i64 (co : Int)) ⟨0, op, co, 0, 0, false, [], []⟩ rfl rfl (HA2.out.bx.put2 _))
  clear z0 z1 z2 z3 z4 z5 z6 z7 k0 k1 k2 k3 k4 k5 k6 k7 HA2
  generalize (t2.setCell ⟨g8, 2, none⟩ (.int .i64 (co : Int))) = y2 at HY2 ⊢
  go_wp2_with fail
  refine (PID.out _ g v _ HY2.out.rd).mono ?_
  rintro e t3 ⟨rfl, ht⟩
  have HA3 := Lib.hid (HY2.out.turn ht)
  clear ht PID HY2
  obtain ⟨z0, z1, z2, z3, z4, z5, z6, z7⟩ := HA3.out.bx.facts
  obtain ⟨k0, k1, k2, k3, k4, k5, k6, k7⟩ := HA3.out.bx.marks
  go_upto_region 10 with (fail)
  have HY3 := Lib.hid (HA3.out.put (j := 0) (u := .int .u32 (ii : Int)) ⟨ii, op, co, 0, 0, false, [], []⟩ rfl rfl (HA3.out.bx.put0 _))
  clear z0 z1 z2 z3 z4 z5 z6 z7 k0 k1 k2 k3 k4 k5 k6 k7 HA3
  generalize (t3.setCell ⟨g8, 0, none⟩ (.int .u32 (ii : Int))) = y3 at HY3 ⊢
  go_wp2_with fail
  refine (PV1.out _ g v _ HY3.out.rd).mono ?_
  rintro e t4 ⟨rfl, ht⟩
  have HA4 := Lib.hid (HY3.out.turn ht)
  clear ht PV1 HY3
  obtain ⟨z0, z1, z2, z3, z4, z5, z6, z7⟩ := HA4.out.bx.facts
  obtain ⟨k0, k1, k2, k3, k4, k5, k6, k7⟩ := HA4.out.bx.marks
  go_upto_region 11 with (fail)
  have HY4 := Lib.hid (HA4.out.put (j := 3) (u := .int .i64 of) ⟨ii, op, co, of, 0, false, [], []⟩ rfl rfl (HA4.out.bx.put3 _))
  clear z0 z1 z2 z3 z4 z5 z6 z7 k0 k1 k2 k3 k4 k5 k6 k7 HA4
  generalize (t4.setCell ⟨g8, 3, none⟩ (.int .i64 of)) = y4 at HY4 ⊢
  go_wp2_with fail
  refine (PV2.out _ g v _ HY4.out.rd).mono ?_
  rintro e t5 ⟨rfl, ht⟩
  have HA5 := Lib.hid (HY4.out.turn ht)
  clear ht PV2 HY4
  obtain ⟨z0, z1, z2, z3, z4, z5, z6, z7⟩ := HA5.out.bx.facts
  obtain ⟨k0, k1, k2, k3, k4, k5, k6, k7⟩ := HA5.out.bx.marks
  go_upto_region 12 with (fail)
  have HY5 := Lib.hid (HA5.out.put (j := 4) (u := .int .i64 nu) ⟨ii, op, co, of, nu, false, [], []⟩ rfl rfl (HA5.out.bx.put4 _))
  clear z0 z1 z2 z3 z4 z5 z6 z7 k0 k1 k2 k3 k4 k5 k6 k7 HA5
  generalize (t5.setCell ⟨g8, 4, none⟩ (.int .i64 nu)) = y5 at HY5 ⊢
  go_wp2_with fail
  refine (PM.out _ g v _ HY5.out.rd).mono ?_
  rintro e t6 ⟨rfl, ht⟩
  have HA6 := Lib.hid (HY5.out.turn ht)
  clear ht PM HY5
  obtain ⟨z0, z1, z2, z3, z4, z5, z6, z7⟩ := HA6.out.bx.facts
  obtain ⟨k0, k1, k2, k3, k4, k5, k6, k7⟩ := HA6.out.bx.marks
  go_upto_region 13 with (fail)
  have HY6 := Lib.hid (HA6.out.put (j := 5) (u := .bool mo) ⟨ii, op, co, of, nu, mo, [], []⟩ rfl rfl (HA6.out.bx.put5 _))
  clear z0 z1 z2 z3 z4 z5 z6 z7 k0 k1 k2 k3 k4 k5 k6 k7 HA6
  generalize (t6.setCell ⟨g8, 5, none⟩ (.bool mo)) = y6 at HY6 ⊢
  clear wo wc hwi hmb
  go_wp2_with fail
  refine (PK.out _ g v _ HY6.out.rd).mono ?_
  rintro e y7 ⟨rfl, ht⟩
  have HY7 := Lib.hid (HY6.out.turn ht)
  clear ht PK HY6
  go_upto_block 0 with (fail)
  go_cut [9, 10] from 55 to 71 (fun _ _ wx => ∃ vn, DdL w1 wx g v s9 g8 ⟨ii, op, co, of, nu, mo, ns, []⟩ (.slice none 0 0) vn)
  case first =>
    go_wp2_with fail
    go_loopw [9] (fun i wx => ∃ j : Nat, j ≤ kk ∧ i = .int .u64 j ∧ ∃ vn, DdL w1 wx g v (nms j s8).2 g8 ⟨ii, op, co, of, nu, mo, (nms j s8).1, []⟩ (.slice none 0 0) vn) (fun i _ => kk - (intOf i).toNat)
    case atStart => exact ⟨0, Nat.zero_le _, rfl, _, HY7.out⟩
    case round =>
      obtain ⟨j, hj, rfl, vn, hL⟩ := hrel
      have HL := Lib.hid hL
      clear hL HY7
      by_cases hlt : j < kk
      · have i1 : (j : Int) < (k : Int) := by have := HKK.out; omega
        have i2 : (j : Int) ≤ 16 := by have := HKK.out; omega
        have d1 : decide ((j : Int) < (k : Int)) = true := decide_eq_true i1
        have d2 : decide ((j : Int) ≤ 16) = true := decide_eq_true i2
        have PTJ := PT.out j
        have hn1 := nms_succ j s8
        obtain ⟨tx, htx⟩ : ∃ tx, tx = strOf ((nms j s8).2.text 24).1 := ⟨_, rfl⟩
        obtain ⟨st, hst⟩ : ∃ st, st = ((nms j s8).2.text 24).2 := ⟨_, rfl⟩
        rw [← htx, ← hst] at PTJ hn1
        have HN1 := Lib.hid hn1
        have PTH := Lib.hid PTJ
        have HNJ := HNL.out j
        obtain ⟨lj, hlj⟩ : ∃ lj, lj = (nms j s8).1 := ⟨_, rfl⟩
        rw [← hlj] at HL HN1 HNJ
        have HNJ := Lib.hid HNJ
        obtain ⟨sj, hsj⟩ : ∃ sj, sj = (nms j s8).2 := ⟨_, rfl⟩
        rw [← hsj] at HL PTH
        clear PTJ hn1 htx hst hlj hsj
        go_wp2_with fail
        refine (PTH.out _ g v _ HL.out.rd).mono ?_
        rintro e x1 ⟨rfl, ht⟩
        have HT := Lib.hid (HL.out.turn ht)
        clear ht PTH HL
        obtain ⟨z0, z1, z2, z3, z4, z5, z6, z7⟩ := HT.out.bx.facts
        clear z0 z1 z2 z3 z4 z5 z6
        have hgl := HT.out.bx.lt
        obtain ⟨q0, hi, hz0, hz1, hz2⟩ := info_parts infoS
        go_wp2_with (at_builtin; (refine wpList_push x1 rfl (.tmp 67) (.tmp 69) 24 rfl w1.heap.size 9 q0 _ 16 Tryz.underlying24 hi hz0 hz1 hz2 rfl vn j (strs lj) rfl (HT.out.onj HNJ.out) (.string tx) rfl rfl (by omega) (by unfold maxLen; omega) HT.out.be.size ?_); intro v' w7 hown hgr hnn2; obtain ⟨A7, c7, hv7, -⟩ := own_shape hown; subst hv7; have HPU := Lib.hid (HT.out.pushN HNJ.out.symm hown hgr); obtain ⟨hc7, hf7⟩ := HT.out.bxn hgr; clear hown hgr hnn2)
        go_roundw
        case rel => exact ⟨j + 1, by omega, by go_num, _, by rw [HN1.out]; exact HPU.out⟩
        case measure => simp [intOf]; omega
      · have hjk : j = kk := by omega
        have HL9 : Hid (DdL w1 wr g v s9 g8 ⟨ii, op, co, of, nu, mo, ns, []⟩ (.slice none 0 0) vn) := Lib.hid (by have := HL.out; rw [hjk, HNS.out] at this; exact this)
        by_cases i1 : (j : Int) < (k : Int)
        · have i2 : ¬ (j : Int) ≤ 16 := by have := HKK.out; omega
          have d1 : decide ((j : Int) < (k : Int)) = true := decide_eq_true i1
          have d2 : decide ((j : Int) ≤ 16) = false := decide_eq_false i2
          clear hjk
          go_wp2_with fail
          go_meet
          case rel => exact ⟨_, HL9.out⟩
        · have d1 : decide ((j : Int) < (k : Int)) = false := decide_eq_false i1
          clear hjk
          go_wp2_with fail
          go_meet
          case rel => exact ⟨_, HL9.out⟩
  case' rest =>
    obtain ⟨vn, hL9⟩ := hcut
    have HL9 := Lib.hid hL9
    clear hL9 HY7 HNL HNS PT HKK
    go_wp2_with fail
    refine (PN2.out _ g v _ HL9.out.rd).mono ?_
    rintro e x3 ⟨rfl, ht⟩
    have HL10 := Lib.hid (HL9.out.turn ht)
    clear ht HL9 PN2
    go_wp2_with fail
    refine (rrest_at HL10.out).mono ?_
    rintro e x4 ⟨rfl, hd⟩
    have HL11 := Lib.hid hd
    clear hd HL10
    go_wp2_with fail
    refine (rraw_at HL11.out HR.out).mono ?_
    rintro e x5 ⟨A0, c0, rfl, ho, hd⟩
    have HL12 := Lib.hid hd
    have HO12 := Lib.hid ho
    clear hd ho HL11 HR
    obtain ⟨F, hF⟩ : ∃ F : List Rc → Rp, F = fun l => ⟨ii, op, co, of, nu, mo, ns, l⟩ := ⟨_, rfl⟩
    rw [← hF] at HP2
    have HFF := Lib.hid (fun l => (show F l = ⟨ii, op, co, of, nu, mo, ns, l⟩ by rw [hF]))
    have HS0 : Hid (DrS w1 x5 g v s11 g8 F A0 c0 rl vn 0 0 [] (.slice none 0 0) (.slice A0 rl.length c0)) := Lib.hid ⟨rfl, Nat.zero_le _, rfl, by omega, at11_start HO12.out, by rw [hF]; exact HL12.out, HO12.out⟩
    clear hF HL12 HO12
    go_upto_block 2 with (fail)
    go_cut [11, 12, 13, 14, 15] from 78 to 105 (fun _ _ _ _ _ wx => ∃ lj vr, lj.length ≤ 4087 ∧ P = some (F lj) ∧ DdL w1 wx g v s11 g8 (F lj) vr vn)
    case first =>
      go_wp2_with fail
      go_loopw [11, 12] (fun s11v i wx => ∃ (j p : Nat) (lj : List Rc) (vr : Value), j ≤ nn ∧ i = .int .u64 j ∧ DrS w1 wx g v s11 g8 F A0 c0 rl vn j p lj vr s11v) (fun _ i _ => nn - (intOf i).toNat)
      case atStart => exact ⟨0, 0, [], _, Nat.zero_le _, rfl, HS0.out⟩
      case round =>
        obtain ⟨j, p, lj, vr, hj, rfl, hS⟩ := hrel
        obtain ⟨A', c', rfl, hnc, hat⟩ := hS.at_
        have hle := hS.le
        have h14j := hS.j14
        have hrll := HRL.out
        have HS := Lib.hid hS
        have HAT := Lib.hid hat
        have HRC := Lib.hid hS.rc
        have HJL := Lib.hid hS.len
        obtain ⟨N, hN⟩ : ∃ N, N = rl.length - p := ⟨_, rfl⟩
        rw [← hN] at hnc ⊢
        have hdl : (rl.drop p).length = N := by rw [List.length_drop, hN]
        have hrd := at11_rd (rd_own hS.ow) hat
        have HN2 := Lib.hid hN
        have HDL := Lib.hid hdl
        have hj4087 : j ≤ 4087 := by omega
        clear hS hat HS0 hN
        by_cases hlt : j < nn
        · have i4 : (j : Int) < (nn : Int) := by omega
          have d4 : decide ((j : Int) < (nn : Int)) = true := decide_eq_true i4
          by_cases hn0 : 0 < N
          · have n0 : decide ((0 : Int) < (N : Int)) = true := decide_eq_true (by omega)
            have n1 : (0 : Int) < (N : Int) := by omega
            have PD := rrecdecode_is A' N c' (rl.drop p) wr hrd hdl hnc (by_drop HRB.out p) (by have := HN2.out; omega)
            obtain ⟨⟨⟨yk, yo, yt, yp, ys, ykey, yval⟩, sz, ez⟩, hq⟩ : ∃ q, rdec (rl.drop p) = q := ⟨_, rfl⟩
            have hcs := rdec_cases (rl.drop p)
            have hszl := rdec_len (rl.drop p)
            have HRS : Hid (drc (j + 1) rl = rcs1 (some (lj, rl.drop p))) := Lib.hid (drc_succ HRC.out (by rw [← List.length_pos_iff, hdl]; exact hn0))
            rw [hq] at PD hcs hszl
            unfold DecPost at PD
            unfold Rc.v at PD
            simp only at PD hszl
            have HQ2 := Lib.hid hq
            have PDH := Lib.hid PD
            have HCS := Lib.hid hcs
            rw [hdl] at hszl
            clear PD hq hrd hcs hdl
            go_wp2_with fail
            refine PDH.out.mono ?_
            rintro e w14 ⟨rfl, hb⟩
            have HL14 : Hid (DdL w1 w14 g v s11 g8 ⟨ii, op, co, of, nu, mo, ns, lj⟩ vr vn) := Lib.hid (by have := HS.out.rd.below hb; rwa [HFF.out] at this)
            have HO14 := Lib.hid (own_below HS.out.ow hb)
            clear hb PDH
            have HAA := (Below.refl w14.heap.size w14).alloc (Nat.le_refl _) (.cells #[.int .i64 yk, .int .i64 yo, .int .i64 yt, .int .i64 yp, .int .i64 ys, .string ykey, .string yval] 43)
            have HL15 := Lib.hid (HL14.out.below HAA)
            have HO15 := Lib.hid (own_below HO14.out HAA)
            clear HL14 HO14 HAA
            by_cases h0 : ez = 0
            · subst h0
              have hq2 := HQ2.out
              obtain ⟨hs14, q0, rfl, rfl⟩ : 14 ≤ sz ∧ ∃ q0, A0 = some ⟨q0, 0, none⟩ ∧ A' = some ⟨q0, p, none⟩ := by
                have h14 : 14 ≤ sz := by
                  rcases HCS.out with ⟨x', n', e1, _, e2, _⟩ | e1 | e1
                  · simp at e1; omega
                  · simp at e1
                  · simp at e1
                exact ⟨h14, HAT.out (by have := HN2.out; omega)⟩
              have HR1 : Hid (drc (j + 1) rl = some (lj ++ [⟨yk, yo, yt, yp, ys, ykey, yval⟩], (rl.drop p).drop sz)) := Lib.hid (by rw [HRS.out]; exact rcs1_ok hq2)
              have e0 : (0 : Int) ≤ (sz : Int) := by omega
              have e1 : (sz : Int) ≤ (N : Int) := by omega
              have e2 : (N : Int) ≤ (c' : Int) := by omega
              clear hq2 HQ2 HRS HCS HAT
              obtain ⟨z0, z1, z2, z3, z4, z5, z6, z7⟩ := HL15.out.bx.facts
              clear z0 z1 z2 z3 z4 z5 z7
              have hg8l := HL15.out.bx.lt
              go_wp2_with (at_builtin; (refine pushR _ rfl (.tmp 98) (.tmp 100) rfl w1.heap.size vr j (rcCells lj) rfl (HL15.out.orj HJL.out) ⟨yk, yo, yt, yp, ys, ykey, yval⟩ _ (by first | rfl | simp) rfl (by omega) HL15.out.be.size ?_); intro v2 w16 hown hgr hnn2; obtain ⟨A7, c7, hv7, -⟩ := own_shape hown; subst hv7; have HPU := Lib.hid (HL15.out.pushR HJL.out.symm hown hgr); have HPO := Lib.hid (HO15.out.kept hgr (own_types HO15.out HL15.out.or_ (by decide))); obtain ⟨hc6, hf6⟩ := HL15.out.bxr hgr; clear hown hgr hnn2)
              have how := ownsRow_setCell_other HPO.out (a := ⟨g8, 6, none⟩) (own_ne_kind HO15.out HL15.out.bx (by decide)) (.slice A7 (j + 1) c7)
              have hnx := drs_next (HFF.out _) HR1.out HN2.out hle hs14 h14j hszl hnc HJL.out HPU.out how
              exact ⟨⟨j + 1, p + sz, _, _, hlt, by go_num, hnx⟩, by simp [intOf]; omega⟩
            · have hez : ((ez : Int) != 0) = true := by rw [bne_iff_ne]; omega
              have HQD0 : Hid (D = (rp0, 162)) := Lib.hid (by rw [HQD.out P rfl, HP2.out, drc_none (j := j + 1) (by rw [HRS.out]; exact rcs1_bad HQ2.out h0) (by omega)]; rfl)
              clear h0
              have HZq := HZ.out.below HL15.out.be hgz
              obtain ⟨z0, z1, z2, z3, z4, z5, z6, z7⟩ := HZq.facts
              obtain ⟨k0, k1, k2, k3, k4, k5, k6, k7⟩ := HZq.marks
              clear HZq
              go_wp2_with fail
              refine bodyPost_ret (v := .tuple #[.agg #[.int .u32 0, .int .i64 0, .int .i64 0, .int .i64 0, .int .i64 0, .bool false, .slice none 0 0, .slice none 0 0], .int .i64 162]) (by simp [results, Tryz.results15, go_sem, z0, z1, z2, z3, z4, z5, z6, z7]) rfl ⟨.slice none 0 0, .slice none 0 0, by rw [HQD0.out]; rfl, by rw [HQD0.out]; exact World.ownsRow_nil _ _ _ _, by rw [HQD0.out]; exact World.ownsRow_nil _ _ _ _, ?_⟩
              exact below_w8 _ _ _ _ _ _ _ _ (HB1.out.trans (HL15.out.be.mono HB1.out.size)) (Nat.le_refl _)
          · have n0 : decide ((0 : Int) < (N : Int)) = false := decide_eq_false (by omega)
            have n1 : ¬ (0 : Int) < (N : Int) := by omega
            have hnil : rl.drop p = [] := List.eq_nil_of_length_eq_zero (by omega)
            have HE : Hid (lj.length ≤ 4087 ∧ P = some (F lj) ∧ DdL w1 wr g v s11 g8 (F lj) vr vn) := Lib.hid ⟨by rw [HJL.out]; exact hj4087, by rw [HP2.out, drc_stop (j := j) (by rw [HRC.out, hnil]) (by omega)]; rfl, HS.out.rd⟩
            clear hnil hdl hn0 hrd
            go_wp2_with fail
            go_meet
            case rel => exact ⟨lj, vr, HE.out⟩
        · have hjn : j = nn := by omega
          have i4 : ¬ (j : Int) < (nn : Int) := by omega
          have d4 : decide ((j : Int) < (nn : Int)) = false := decide_eq_false i4
          have HE : Hid (lj.length ≤ 4087 ∧ P = some (F lj) ∧ DdL w1 wr g v s11 g8 (F lj) vr vn) := Lib.hid ⟨by rw [HJL.out]; exact hj4087, by rw [HP2.out, ← hjn, HRC.out]; rfl, HS.out.rd⟩
          clear hjn hdl hrd
          go_wp2_with fail
          go_meet
          case rel => exact ⟨lj, vr, HE.out⟩
    case' rest =>
      obtain ⟨lj, vr, hlen, hP, hd⟩ := hcut
      have HL15 : Hid (DdL w1 wc g v s11 g8 ⟨ii, op, co, of, nu, mo, ns, lj⟩ vr vn) := Lib.hid (by rwa [HFF.out] at hd)
      have HP3 : Hid (P = some ⟨ii, op, co, of, nu, mo, ns, lj⟩) := Lib.hid (by rw [hP, HFF.out])
      have HLL : Hid ((lj.flatMap encs).length ≤ 140737488350000) := Lib.hid (by have := encs_total lj; omega)
      have HJN := Lib.hid hlen
      clear hd hP hlen HS0 HP2 HRB HRL
      obtain ⟨AN, cn', hvn, -⟩ := own_shape HL15.out.on
      obtain ⟨AR, cr, hvr, -⟩ := own_shape HL15.out.or_
      simp only at hvn hvr
      obtain ⟨nl, hnl⟩ : ∃ nl, ns.length = nl := ⟨_, rfl⟩
      obtain ⟨nr, hnr⟩ : ∃ nr, lj.length = nr := ⟨_, rfl⟩
      rw [hnl] at hvn
      rw [hnr] at hvr
      subst hvn hvr
      have PC := rencodep_is ⟨ii, op, co, of, nu, mo, ns, lj⟩ AN AR nl nr cn' cr wc (rd_own (HL15.out.onj hnl)) hnl (rd_own (HL15.out.orj hnr)) hnr (HNX.out ns mo lj) (by have := HJN.out; omega) (by rw [← hnl]; have := HNL9.out; omega) HLL.out
      have hy9 := renp_len9 ⟨ii, op, co, of, nu, mo, ns, lj⟩
      have HYE : Hid (renp ⟨ii, op, co, of, nu, mo, ns, lj⟩ = (b, 0) → D = (⟨ii, op, co, of, nu, mo, ns, lj⟩, 0)) := Lib.hid (fun h => by rw [HQD.out P rfl, HP3.out, ddec1_ok h])
      have HNO : Hid (¬ renp ⟨ii, op, co, of, nu, mo, ns, lj⟩ = (b, 0) → D = (rp0, 162)) := Lib.hid (fun h => by rw [HQD.out P rfl, HP3.out, ddec1_no h])
      obtain ⟨⟨Y, zc⟩, hzc⟩ : ∃ zc, renp ⟨ii, op, co, of, nu, mo, ns, lj⟩ = zc := ⟨_, rfl⟩
      rw [hzc] at PC hy9 HYE HNO
      unfold Rp.V FramePost at PC
      simp only at PC hy9
      have PCH := Lib.hid PC
      have HNR := Lib.hid hnr
      have HNLL := Lib.hid hnl
      clear PC hzc hnr hnl
      obtain ⟨z0, z1, z2, z3, z4, z5, z6, z7⟩ := HL15.out.bx.facts
      simp only at z0 z1 z2 z3 z4 z5
      go_wp2_with fail
      refine PCH.out.mono ?_
      rintro e w15 ⟨A8, c8, rfl, ho8, hb⟩
      have HL16 := Lib.hid (HL15.out.below hb)
      have HO8 := Lib.hid (rd_own ho8)
      clear ho8 hb z0 z1 z2 z3 z4 z5 z6 z7 PCH HL15
      by_cases hz : zc = 0
      · have hz0 : (zc != 0) = false := by rw [hz]; rfl
        by_cases hYb : Y = b
        · have HQ1 := Lib.hid (HYE.out (by rw [hYb, hz]))
          have HYB := Lib.hid hYb
          clear hz hYb HYE HNO
          go_wp2_with fail
          refine (r16same_yes A8 A Y.length n c8 c Y b _ HO8.out (HR0.out.below (HB1.out.trans (HL16.out.be.mono HB1.out.size))) rfl HN.out (by omega) (by omega) HYB.out).mono ?_
          rintro e w9 ⟨rfl, k9, rfl⟩
          have HL17 := Lib.hid (HL16.out.below (below_drewN (Below.refl w15.heap.size w15) k9))
          clear HL16 HO8
          generalize w15.drewN k9 = w17 at *
          obtain ⟨y0, y1, y2, y3, y4, y5, y6, y7⟩ := HL17.out.bx.facts
          simp only at y0 y1 y2 y3 y4 y5
          have HZq := HZ.out.below HL17.out.be hgz
          obtain ⟨z0, z1, z2, z3, z4, z5, z6, z7⟩ := HZq.facts
          obtain ⟨k0, k1, k2, k3, k4, k5, k6, k7⟩ := HZq.marks
          have HZH := Lib.hid HZq
          clear HZq
          go_wp2_with fail
          refine bodyPost_ret (v := .tuple #[.agg #[.int .u32 (ii : Int), .int .i64 (op : Int), .int .i64 (co : Int), .int .i64 of, .int .i64 nu, .bool mo, .slice AR nr cr, .slice AN nl cn'], .int .i64 0]) (by simp [results, Tryz.results15, go_sem, z0, z1, z2, z3, z4, z5, z6, z7]) rfl ⟨.slice AR nr cr, .slice AN nl cn', by rw [HQ1.out]; rfl, ?_, ?_, ?_⟩
          · rw [HQ1.out]
            exact own_w8 HZH.out _ _ _ _ _ _ _ _ (own_lower HL17.out.on HB1.out.size) (by decide)
          · rw [HQ1.out]
            exact own_w8 HZH.out _ _ _ _ _ _ _ _ (own_lower HL17.out.or_ HB1.out.size) (by decide)
          · exact below_w8 _ _ _ _ _ _ _ _ (HB1.out.trans (HL17.out.be.mono HB1.out.size)) (Nat.le_refl _)
        · have HQD0 : Hid (D = (rp0, 162)) := Lib.hid (HNO.out (fun h => hYb (by injection h)))
          have HYB := Lib.hid hYb
          clear hz hYb HYE HNO
          go_wp2_with fail
          refine (r16same_no A8 A Y.length n c8 c Y b _ HO8.out (HR0.out.below (HB1.out.trans (HL16.out.be.mono HB1.out.size))) rfl HN.out (by omega) (by omega) HYB.out).mono ?_
          rintro e w9 ⟨rfl, k9, rfl⟩
          have HL17 := Lib.hid (HL16.out.below (below_drewN (Below.refl w15.heap.size w15) k9))
          clear HL16 HO8
          generalize w15.drewN k9 = w17 at *
          have HZq := HZ.out.below HL17.out.be hgz
          obtain ⟨z0, z1, z2, z3, z4, z5, z6, z7⟩ := HZq.facts
          obtain ⟨k0, k1, k2, k3, k4, k5, k6, k7⟩ := HZq.marks
          clear HZq
          go_wp2_with fail
          refine bodyPost_ret (v := .tuple #[.agg #[.int .u32 0, .int .i64 0, .int .i64 0, .int .i64 0, .int .i64 0, .bool false, .slice none 0 0, .slice none 0 0], .int .i64 162]) (by simp [results, Tryz.results15, go_sem, z0, z1, z2, z3, z4, z5, z6, z7]) rfl ⟨.slice none 0 0, .slice none 0 0, by rw [HQD0.out]; rfl, by rw [HQD0.out]; exact World.ownsRow_nil _ _ _ _, by rw [HQD0.out]; exact World.ownsRow_nil _ _ _ _, ?_⟩
          exact below_w8 _ _ _ _ _ _ _ _ (HB1.out.trans (HL17.out.be.mono HB1.out.size)) (Nat.le_refl _)
      · have hz0 : (zc != 0) = true := by rw [bne_iff_ne]; exact hz
        have HQD0 : Hid (D = (rp0, 162)) := Lib.hid (HNO.out (fun h => hz (by injection h)))
        clear hz HYE HNO
        have HZq := HZ.out.below HL16.out.be hgz
        obtain ⟨z0, z1, z2, z3, z4, z5, z6, z7⟩ := HZq.facts
        obtain ⟨k0, k1, k2, k3, k4, k5, k6, k7⟩ := HZq.marks
        clear HZq
        go_wp2_with fail
        refine bodyPost_ret (v := .tuple #[.agg #[.int .u32 0, .int .i64 0, .int .i64 0, .int .i64 0, .int .i64 0, .bool false, .slice none 0 0, .slice none 0 0], .int .i64 162]) (by simp [results, Tryz.results15, go_sem, z0, z1, z2, z3, z4, z5, z6, z7]) rfl ⟨.slice none 0 0, .slice none 0 0, by rw [HQD0.out]; rfl, by rw [HQD0.out]; exact World.ownsRow_nil _ _ _ _, by rw [HQD0.out]; exact World.ownsRow_nil _ _ _ _, ?_⟩
        exact below_w8 _ _ _ _ _ _ _ _ (HB1.out.trans (HL16.out.be.mono HB1.out.size)) (Nat.le_refl _)
set_option maxRecDepth 100000 in
theorem rdecodep_is (A : Option Addr) (n c : Nat) (b : List Nat) (w : World) (hr : Rd w A (b8 b)) (hn : b.length = n) (hnc : n ≤ c) (hby : By b) (hl : n ≤ 140737488351232) :
    Calls Tryz.prog 15 #[.slice A n c] w (DecR w (decp b)) := by
  rw [← ddec_eq hby (by omega)]
  by_cases h : (bd b).2 = 0
  · exact rdecodep_body A n c b w hr hn hnc hby hl h
  · exact rdecodep_noBody A n c b w hr hn hnc hby hl h
end Go.Proofs.YtljfmcgeiceagaaGreat
