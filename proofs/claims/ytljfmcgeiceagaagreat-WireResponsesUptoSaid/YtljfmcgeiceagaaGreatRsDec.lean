/- wire.DecodeResponse, at any bytes. -/
import Derived.Test.YtljfmcgeiceagaaGreatRsDec1
import Derived.Deep.RegionHeld3
import Derived.Deep.CutRange
import Derived.BigQuiet
namespace Go.Proofs.YtljfmcgeiceagaaGreat
open Go Go.RowKit
set_option linter.unusedVariables false
set_option linter.unusedSimpArgs false

abbrev zrp : Obj := .cells #[.int .u32 0, .int .i64 0, .int .i64 0, .int .i64 0, .int .i64 0, .bool false, .slice none 0 0, .slice none 0 0] 26
theorem zrp_new (w : World) : B8 (w.alloc zrp) w.heap.size (.int .u32 0) (.int .i64 0) (.int .i64 0) (.int .i64 0) (.int .i64 0) (.bool false) (.slice none 0 0) (.slice none 0 0) := heap_alloc_new w _
theorem b8_nk {W' W'' : World} {g b : Nat} (hk : KeptS W' W'' (fun q => q = g)) (hn : W'.heap[b]? = some (.cells #[.int .u32 0, .int .i64 0, .int .i64 0, .int .i64 0, .int .i64 0, .bool false, .slice none 0 0, .slice none 0 0] 26 (0, 0))) (hne : b ≠ g) : B8 W'' b (.int .u32 0) (.int .i64 0) (.int .i64 0) (.int .i64 0) (.int .i64 0) (.bool false) (.slice none 0 0) (.slice none 0 0) := (hk.block b (lt_of_block hn) hne).trans hn
set_option maxHeartbeats 4000000 in
set_option maxRecDepth 100000 in
theorem decodep_noBody (A : Option Addr) (n c : Nat) (b : List Nat) (w : World) (hr : Rd w A (b8 b)) (hn : b.length = n) (hnc : n ≤ c) (hby : By b) (hl : n ≤ 140737488355328) (h : (bd b).2 ≠ 0) :
    Calls Tryz.prog 12 #[.slice A n c] w (DecR w (decp b)) := by
  have HD : Hid (decp b = (rp0, 160)) := Lib.hid (by unfold decp; rw [if_pos h])
  have HB0 := Lib.hid ((Below.refl w.heap.size w).alloc (Nat.le_refl _) zrp)
  have PB := Lib.hid (body_is A n c b _ (hr.below HB0.out) hn hnc hby hl)
  have HZ0 := Lib.hid (zrp_new w)
  unfold zrp at HB0 PB HZ0
  obtain ⟨⟨bs, x⟩, hx⟩ : ∃ p, p = bd b := ⟨_, rfl⟩
  rw [← hx] at PB h
  simp only at h
  have hxb : (x != 0) = true := by rw [bne_iff_ne]; exact h
  unfold FramePost at PB
  simp only at PB
  rw [HD.out]
  unfold DecR
  clear hr hn hnc hby hl hx h
  go_enter Tryz.func12, Tryz.ntmps12
  go_wp2_with fail
  refine PB.out.mono ?_
  rintro e w1 ⟨A1, c1, rfl, ho1, hb1⟩
  have HZ := HZ0.out.below hb1 (by simp)
  have HB1 := Lib.hid (HB0.out.trans (hb1.mono (by simp)))
  clear ho1 hb1
  obtain ⟨z0, z1, z2, z3, z4, z5, z6, z7⟩ := HZ.facts
  obtain ⟨k0, k1, k2, k3, k4, k5, k6, k7⟩ := HZ.marks
  go_wp2_with fail
  refine bodyPost_ret (v := .tuple #[.agg #[.int .u32 0, .int .i64 0, .int .i64 0, .int .i64 0, .int .i64 0, .bool false, .slice none 0 0, .slice none 0 0], .int .i64 160]) (by simp [results, Tryz.results12, go_sem, z0, z1, z2, z3, z4, z5, z6, z7]) rfl ⟨.slice none 0 0, .slice none 0 0, rfl, World.ownsRow_nil _ _ _ _, World.ownsRow_nil _ _ _ _, ?_⟩
  exact below_w8 _ _ _ _ _ _ _ _ HB1.out (Nat.le_refl _)
set_option maxHeartbeats 8000000 in
set_option maxRecDepth 100000 in
theorem decodep_body (A : Option Addr) (n c : Nat) (b : List Nat) (w : World) (hr : Rd w A (b8 b)) (hn : b.length = n) (hnc : n ≤ c) (hby : By b) (hl : n ≤ 140737488351232) (h : (bd b).2 = 0) :
    Calls Tryz.prog 12 #[.slice A n c] w (DecR w (decp b)) := by
  have HB0 := Lib.hid ((Below.refl w.heap.size w).alloc (Nat.le_refl _) zrp)
  have PB := Lib.hid (body_is A n c b _ (hr.below HB0.out) hn hnc hby (by omega))
  have HZ0 := Lib.hid (zrp_new w)
  unfold zrp at HB0 PB HZ0
  obtain ⟨hw, h9, hdr⟩ := bd_wrapped hby h
  have hb4 : (bd b).1.length ≤ 4087 := bd_small hby h
  have HD : Hid (decp b = outp (prs (bd b).1)) := Lib.hid (by unfold decp; rw [if_neg (by simpa using h)])
  obtain ⟨⟨bs, x⟩, hx⟩ : ∃ p, p = bd b := ⟨_, rfl⟩
  rw [← hx] at PB h HD hdr hb4
  simp only at h HD hdr hb4
  subst h
  have hyb : By bs := by rw [hdr]; exact by_drop hby 9
  have hlb : bs.length ≤ 140737488351232 := by omega
  unfold FramePost at PB
  simp only at PB
  have PN := Lib.hid (fun A c W (h : Rd W A (b8 bs)) => newReader_is A bs.length c bs W h rfl hyb hlb)
  unfold Newed at PN
  have ok0 := ok_new hyb hlb
  obtain ⟨⟨q, sE⟩, hQ⟩ : ∃ q, prs0 bs = q := ⟨_, rfl⟩
  have HP : Hid (prs bs = prs1 (q, sE)) := Lib.hid (by unfold prs; rw [hQ])
  unfold prs0 at hQ
  simp only at hQ
  obtain ⟨⟨fl, s1⟩, hF⟩ : ∃ p, (⟨bs, 0, 0, 0⟩ : Rs).take 1 = p := ⟨_, rfl⟩
  have ok1 : s1.Ok := by have := ok0.take 1; rw [hF] at this; exact this
  have fby : By fl := by have := Rs.take_by ok0 1; rw [hF] at this; exact this
  rw [hF] at hQ
  simp only at hQ
  obtain ⟨⟨ol, s2⟩, hO⟩ : ∃ p, s1.take 1 = p := ⟨_, rfl⟩
  have ok2 : s2.Ok := by have := ok1.take 1; rw [hO] at this; exact this
  have oby : By ol := by have := Rs.take_by ok1 1; rw [hO] at this; exact this
  rw [hO] at hQ
  simp only at hQ
  obtain ⟨⟨cl, s3⟩, hC⟩ : ∃ p, s2.take 1 = p := ⟨_, rfl⟩
  have ok3 : s3.Ok := by have := ok2.take 1; rw [hC] at this; exact this
  have cby : By cl := by have := Rs.take_by ok2 1; rw [hC] at this; exact this
  rw [hC] at hQ
  simp only at hQ
  have PB1 := Lib.hid (fun base g v W (h : Rdr base W 88 Rs.cells g v ⟨bs, 0, 0, 0⟩) => byte_r base g v ⟨bs, 0, 0, 0⟩ W h)
  rw [hF] at PB1
  unfold Gave at PB1
  simp only at PB1
  obtain ⟨f, hf⟩ : ∃ f, f = fl.headD 0 := ⟨_, rfl⟩
  obtain ⟨op, hop⟩ : ∃ f, f = ol.headD 0 := ⟨_, rfl⟩
  obtain ⟨co, hco⟩ : ∃ f, f = cl.headD 0 := ⟨_, rfl⟩
  have hf8 : f < 256 := by rw [hf]; cases h1 : fl with | nil => simp | cons y r => exact fby y (by rw [h1]; simp)
  have hop8 : op < 256 := by rw [hop]; cases h1 : ol with | nil => simp | cons y r => exact oby y (by rw [h1]; simp)
  have hco8 : co < 256 := by rw [hco]; cases h1 : cl with | nil => simp | cons y r => exact cby y (by rw [h1]; simp)
  rw [← hf] at PB1
  rw [← hf, ← hop, ← hco] at hQ
  have wo : IntKind.i64.wrap (op : Int) = (op : Int) := by rw [IntKind.wrap_i64]; omega
  have wc : IntKind.i64.wrap (co : Int) = (co : Int) := by rw [IntKind.wrap_i64]; omega
  have PB2 := Lib.hid (fun w0 g v gi W (h : RdI w0 W g v s1 gi) => byte_at (x := op) h hO hop)
  have PB3 := Lib.hid (fun w0 g v gi W (h : RdI w0 W g v s2 gi) => byte_at (x := co) h hC hco)
  unfold ByteAt at PB2 PB3
  obtain ⟨⟨ii, s4⟩, hI⟩ : ∃ p, q32 s3 = p := ⟨_, rfl⟩
  rw [hI] at hQ
  have ok4 : s4.Ok := by have := q32_ok ok3; rw [hI] at this; exact this
  have PID := Lib.hid (fun base g v W (h : Rdr base W 88 Rs.cells g v s3) => id16_is base g v s3 W h)
  rw [hI] at PID
  simp only at hQ
  obtain ⟨⟨of, s5⟩, hV⟩ : ∃ p, vi s4 = p := ⟨_, rfl⟩
  rw [hV] at hQ
  have PV1 := Lib.hid (fun base g v W (h : Rdr base W 88 Rs.cells g v s4) => varint_r base g v s4 W h)
  have ok5 : s5.Ok := by have := ok4.num.1; unfold vi at hV; injection hV with _ h2; rw [h2] at this; exact this
  unfold vi at hV
  injection hV with hv1 hv2
  rw [hv1, hv2] at PV1
  simp only at hQ
  obtain ⟨⟨nu, s6⟩, hU⟩ : ∃ p, vi s5 = p := ⟨_, rfl⟩
  rw [hU] at hQ
  have PV2 := Lib.hid (fun base g v W (h : Rdr base W 88 Rs.cells g v s5) => varint_r base g v s5 W h)
  have ok6 : s6.Ok := by have := ok5.num.1; unfold vi at hU; injection hU with _ h2; rw [h2] at this; exact this
  unfold vi at hU
  injection hU with hu1 hu2
  have HNX := Lib.hid (fun ns mo l => nm_of (m := 0) (ns := ns) (show ii < 4294967296 by have := q32_lt s3; rw [hI] at this; exact this) hop8 hco8 (show r64 of by rw [← hv1]; exact zag_range _ ok4.num.2.1) (show r64 nu by rw [← hu1]; exact zag_range _ ok5.num.2.1) mo l)
  rw [hu1, hu2] at PV2
  simp only at hQ
  obtain ⟨⟨ml, s7⟩, hM⟩ : ∃ p, s6.take 1 = p := ⟨_, rfl⟩
  have ok7 : s7.Ok := by have := ok6.take 1; rw [hM] at this; exact this
  have mby : By ml := by have := Rs.take_by ok6 1; rw [hM] at this; exact this
  have PM := Lib.hid (fun base g v W (h : Rdr base W 88 Rs.cells g v s6) => byte_r base g v s6 W h)
  rw [hM] at hQ PM
  simp only at hQ
  obtain ⟨m, hm⟩ : ∃ m, m = ml.headD 0 := ⟨_, rfl⟩
  have hm8 : m < 256 := by rw [hm]; cases h1 : ml with | nil => simp | cons y r => exact mby y (by rw [h1]; simp)
  unfold Gave at PID PV1 PV2 PM
  simp only at PID PV1 PV2 PM
  rw [← hm] at hQ PM
  obtain ⟨⟨k, s8⟩, hK⟩ : ∃ p, cn 16 s7 = p := ⟨_, rfl⟩
  have ok8 : s8.Ok ∧ k ≤ 16 := by have := cn_ok (most := 16) ok7; rw [hK] at this; exact this
  have PK := Lib.hid (fun base g v W (h : Rdr base W 88 Rs.cells g v s7) => count16_is base g v s7 16 W h (by omega))
  rw [hK] at hQ PK
  simp only at hQ
  have PT := Lib.hid (fun j base g v W (h : Rdr base W 88 Rs.cells g v (nms j s8).2) => text_r base g v (nms j s8).2 24 W h (by omega))
  have HNL := Lib.hid (fun j => nms_len s8 j)
  obtain ⟨⟨ns, s9⟩, hNS⟩ : ∃ p, nms k s8 = p := ⟨_, rfl⟩
  have ok9 : s9.Ok := by have := nms_ok ok8.1 k; rw [hNS] at this; exact this
  rw [hNS] at hQ
  simp only at hQ
  obtain ⟨⟨nn, s10⟩, hN⟩ : ∃ p, cn bs.length s9 = p := ⟨_, rfl⟩
  have ok10 : s10.Ok ∧ nn ≤ bs.length := by have := cn_ok (most := bs.length) ok9; rw [hN] at this; exact this
  have PN2 := Lib.hid (fun base g v W (h : Rdr base W 88 Rs.cells g v s9) => count16_is base g v s9 bs.length W h (by omega))
  rw [hN] at hQ PN2
  simp only at hQ
  obtain ⟨⟨rl, s11⟩, hR⟩ : ∃ p, s10.take (s10.rest : Int) = p := ⟨_, rfl⟩
  have rby : By rl := by have := Rs.take_by ok10.1 (s10.rest : Int); rw [hR] at this; exact this
  have rlen : rl.length ≤ 140737488351232 := by have := rs_take_len ok10.1 (s10.rest : Int); rw [hR] at this; exact this
  rw [hR] at hQ
  simp only at hQ
  unfold Gave at PK PT PN2
  simp only at PK PT PN2
  injection hQ with hq1 hq2
  rw [← hq1, ← hq2] at HP
  have hk16 := ok8.2
  have hnb := ok10.2
  have HNS := Lib.hid hNS
  have HRB := Lib.hid rby
  have HRL := Lib.hid rlen
  have HNL9 : Hid (ns.length ≤ 16) := Lib.hid (by have := nms_len s8 k; rw [hNS] at this; simp only at this; omega)
  have HR := Lib.hid hR
  have HBS := Lib.hid hb4
  clear hr hn hnc hby hl hx hw h9 hdr hlb ok0 hF fby oby cby hO hC hf hop hco ok1 ok2 ok3 ok4 ok5 ok6 ok7 ok8 ok9 ok10 hI hv1 hv2 hu1 hu2 hM mby hm hK hNS hN hR rby rlen hq1 hq2 hb4
  have HQD : Hid (∀ q, prs bs = q → decp b = outp q) := Lib.hid (fun q h => by rw [HD.out, h])
  clear HD
  obtain ⟨D, hD⟩ : ∃ D, D = decp b := ⟨_, rfl⟩
  rw [← hD] at HQD ⊢
  clear hD
  obtain ⟨P, hP⟩ : ∃ P, P = prs bs := ⟨_, rfl⟩
  rw [← hP] at HP HQD
  clear hP
  unfold DecR
  go_enter Tryz.func12, Tryz.ntmps12
  go_wp2_with fail
  refine PB.out.mono ?_
  rintro e w1 ⟨A1, c1, rfl, ho1, hb1⟩
  have HZ := Lib.hid (HZ0.out.below hb1 (by simp))
  have HB1 := Lib.hid (HB0.out.trans (hb1.mono (by simp)))
  have HO1 := Lib.hid ho1
  have hgz := HZ.out.lt
  clear ho1 hb1 PB HZ0 HB0
  go_wp2_with fail
  refine (PN.out A1 c1 w1 (rd_own HO1.out)).mono ?_
  rintro e w2 ⟨g, v, rfl, hr2, hb2⟩
  have H3 := Lib.hid (RdI.new hr2 hb2)
  have hvb : ∀ q, v.ownBlock = some q → q < w2.heap.size := fun q hq => (hr2.own.lt q hq).2
  have HVB := Lib.hid hvb
  clear hr2 hb2 PN HO1 hvb
  go_upto_region 5 with (fail)
  generalize (w2.alloc (.cells #[.pointer (some ⟨g, 0, none⟩)] 50)) = w3 at H3 ⊢
  obtain ⟨gi, hgi⟩ : ∃ gi, gi = w2.heap.size := ⟨_, rfl⟩
  rw [← hgi] at H3 HVB ⊢
  clear hgi
  have x0 := H3.out.cell
  go_wp2_with fail
  refine (PB1.out _ g v _ H3.out.rd).mono ?_
  rintro e w4 ⟨rfl, ht4⟩
  have HD4 := Lib.hid (H3.out.turn ht4)
  clear ht4 H3 PB1 x0
  have x0 := HD4.out.cell
  have hgl4 := HD4.out.rd.lt
  have hgi4 := HD4.out.lt
  have hsz4 := HD4.out.be.size
  have PB2 := Lib.hid (fun W h => PB2.out w1 g v gi W h)
  have PB3 := Lib.hid (fun W h => PB3.out w1 g v gi W h)
  go_upto_region 6 with (fail)
  go_cut [8] from 29 to 37 (fun s8 wx => RelP w1 g v s3 gi op co s8 wx)
  case first =>
    go_region_held3 (fun W => W.cell? ⟨gi, 0, none⟩ = some (.pointer (some ⟨g, 0, none⟩)))
      (first
        | (with_reducible assumption)
        | (with_reducible (refine (World.cell?_setCell_far _ ⟨_, _, none⟩ _ _ (by dsimp only; omega)).trans ?_); (repeat (with_reducible (refine (World.cell?_setCell_far _ ⟨_, _, none⟩ _ _ (by dsimp only; omega)).trans ?_))); with_reducible assumption)
        | (with_reducible (refine (cell_drew_d2 _ _).trans ?_); with_reducible assumption)
        | (with_reducible (refine (World.grownBy_alloc _ _ none).cell ?_ (by simp)); with_reducible assumption)
        | (with_reducible (refine (World.grownBy_alloc _ _ none).cell ?_ (by simp)); with_reducible (refine (cell_drew_d2 _ _).trans ?_); with_reducible assumption)
        | (with_reducible (refine (cell_drew_d2 _ _).trans ?_); with_reducible (refine (World.grownBy_alloc _ _ none).cell ?_ (by simp)); with_reducible assumption))
      (first
        | (go_at_call 26; have hq5 := HZ5; refine (PB3.out _ (by with_reducible exact HD5.out)).mono ?_; rintro e w6 ⟨rfl, hd6, hk6⟩; have HD6 := Lib.hid hd6; have HK6 := Lib.hid hk6; have hS6 := hd6.cell; have hz6 := Lib.hid (B8.keptg (HZ5.out) hk6 (by omega)); have hf6 := hz6.out.facts; have hm6 := hz6.out.marks; clear hd6 hk6)
        | (go_at_call 26; refine (PB3.out _ (by with_reducible exact HD5.out)).mono ?_; rintro e w6 ⟨rfl, hd6, hk6⟩; have HD6 := Lib.hid hd6; have HK6 := Lib.hid hk6; have hS6 := hd6.cell; clear hd6 hk6)
        | (go_at_call 26; refine (PB3.out _ (by with_reducible exact HD5.out.below ((Below.refl _ _).alloc (Nat.le_refl _) _))).mono ?_; rintro e w6 ⟨rfl, hd6, hk6⟩; have HD6 := Lib.hid hd6; have HK6 := Lib.hid hk6; have hS6 := hd6.cell; have hz6 := Lib.hid (b8_nk (b := w5.heap.size) hk6 (heap_alloc_new w5 _) (by omega)); have hf6 := hz6.out.facts; have hm6 := hz6.out.marks; clear hd6 hk6)
        | (go_at_call 26; refine (PB2.out _ (by with_reducible exact HD4.out.below (Below.refl _ _).drew)).mono ?_; rintro e w5 ⟨rfl, hd5, hk5⟩; have HD5 := Lib.hid hd5; have HK5 := Lib.hid hk5; have hS5 := hd5.cell; have hgl5 := hd5.rd.lt; have hgi5 := hd5.lt; have hro5 := hd5.be.size; clear hd5 hk5)
        | (go_at_call 26; refine (PB2.out _ (by with_reducible exact HD4.out.below ((Below.refl _ _).alloc (Nat.le_refl _) _).drew)).mono ?_; rintro e w5 ⟨rfl, hd5, hk5⟩; have HD5 := Lib.hid hd5; have HK5 := Lib.hid hk5; have hS5 := hd5.cell; have hgl5 := hd5.rd.lt; have hgi5 := hd5.lt; have hro5 := hd5.be.size; have HZ5 := Lib.hid (b8_nk (b := w4.heap.size) hk5 (heap_alloc_new w4 _) (by omega)); clear hd5 hk5))
    all_goals
      try simp only [wo, wc]
      go_wp2_with fail
      go_meet
      first
        | (have r := relp_chain (o := op) (c := co) (b := w5.heap.size) hz6.out HD6.out (by omega) (by omega) (by omega) (fun q hq => by have := HVB.out q hq; omega); with_reducible exact r)
        | (have r := relp_chain (o := op) (c := co) (b := w4.heap.size) hz6.out HD6.out (by omega) (by omega) (by omega) (fun q hq => by have := HVB.out q hq; omega); with_reducible exact r)
        | (have r := relp_alloc (o := op) (c := co) HD6.out; with_reducible exact r)
  case' rest =>
    obtain ⟨g8, rfl, hds⟩ := hcut
    have HX := Lib.hid hds
    clear hds PB2 PB3 HD4 x0 HVB hgl4 hgi4 hsz4
    have hg8 : w.heap.size < g8 := by have := HX.out.bb; omega
    have x1 := HX.out.ri.cell
    go_wp2_with fail
    refine (PID.out _ g v _ HX.out.ri.rd).mono ?_
    rintro e y1 ⟨rfl, ht⟩
    have HA1 := Lib.hid (HX.out.turn ht)
    clear ht PID x1 HX
    have x1 := HA1.out.ri.cell
    obtain ⟨z0, z1, z2, z3, z4, z5, z6, z7⟩ := HA1.out.bx.facts
    obtain ⟨k0, k1, k2, k3, k4, k5, k6, k7⟩ := HA1.out.bx.marks
    go_upto_region 8 with (fail)
    have HY1 := Lib.hid (HA1.out.put (j := 0) (u := .int .u32 (ii : Int)) ⟨ii, op, co, 0, 0, false, [], []⟩ rfl rfl (HA1.out.bx.put0 _))
    clear x1 z0 z1 z2 z3 z4 z5 z6 z7 k0 k1 k2 k3 k4 k5 k6 k7 HA1
    generalize (y1.setCell ⟨g8, 0, none⟩ (.int .u32 (ii : Int))) = u1_ at HY1 ⊢
    have x1 := HY1.out.ri.cell
    go_wp2_with fail
    refine (PV1.out _ g v _ HY1.out.ri.rd).mono ?_
    rintro e y2 ⟨rfl, ht⟩
    have HA2 := Lib.hid (HY1.out.turn ht)
    clear ht PV1 x1 HY1
    have x1 := HA2.out.ri.cell
    obtain ⟨z0, z1, z2, z3, z4, z5, z6, z7⟩ := HA2.out.bx.facts
    obtain ⟨k0, k1, k2, k3, k4, k5, k6, k7⟩ := HA2.out.bx.marks
    go_upto_region 9 with (fail)
    have HY2 := Lib.hid (HA2.out.put (j := 3) (u := .int .i64 of) ⟨ii, op, co, of, 0, false, [], []⟩ rfl rfl (HA2.out.bx.put3 _))
    clear x1 z0 z1 z2 z3 z4 z5 z6 z7 k0 k1 k2 k3 k4 k5 k6 k7 HA2
    generalize (y2.setCell ⟨g8, 3, none⟩ (.int .i64 of)) = u2_ at HY2 ⊢
    have x1 := HY2.out.ri.cell
    go_wp2_with fail
    refine (PV2.out _ g v _ HY2.out.ri.rd).mono ?_
    rintro e y3 ⟨rfl, ht⟩
    have HA3 := Lib.hid (HY2.out.turn ht)
    clear ht PV2 x1 HY2
    have x1 := HA3.out.ri.cell
    obtain ⟨z0, z1, z2, z3, z4, z5, z6, z7⟩ := HA3.out.bx.facts
    obtain ⟨k0, k1, k2, k3, k4, k5, k6, k7⟩ := HA3.out.bx.marks
    go_upto_region 10 with (fail)
    have HY3 := Lib.hid (HA3.out.put (j := 4) (u := .int .i64 nu) ⟨ii, op, co, of, nu, false, [], []⟩ rfl rfl (HA3.out.bx.put4 _))
    clear x1 z0 z1 z2 z3 z4 z5 z6 z7 k0 k1 k2 k3 k4 k5 k6 k7 HA3
    generalize (y3.setCell ⟨g8, 4, none⟩ (.int .i64 nu)) = u3_ at HY3 ⊢
    have x1 := HY3.out.ri.cell
    go_wp2_with fail
    refine (PM.out _ g v _ HY3.out.ri.rd).mono ?_
    rintro e y4 ⟨rfl, ht⟩
    have HA4 := Lib.hid (HY3.out.turn ht)
    clear ht PM x1 HY3
    have x1 := HA4.out.ri.cell
    obtain ⟨z0, z1, z2, z3, z4, z5, z6, z7⟩ := HA4.out.bx.facts
    obtain ⟨k0, k1, k2, k3, k4, k5, k6, k7⟩ := HA4.out.bx.marks
    have hmb : ((m : Int) == 1) = (m == 1) := by rw [Bool.eq_iff_iff]; simp; omega
    obtain ⟨mo, hmo⟩ : ∃ mo, mo = (m == 1) := ⟨_, rfl⟩
    rw [← hmo] at hmb
    have HMO := Lib.hid hmo
    clear hmo
    go_upto_region 12 with (fail)
    have HY4 := Lib.hid (HA4.out.put (j := 5) (u := .bool mo) ⟨ii, op, co, of, nu, mo, [], []⟩ rfl rfl (HA4.out.bx.put5 _))
    clear x1 z0 z1 z2 z3 z4 z5 z6 z7 k0 k1 k2 k3 k4 k5 k6 k7 HA4
    generalize (y4.setCell ⟨g8, 5, none⟩ (.bool mo)) = u4_ at HY4 ⊢
    have x1 := HY4.out.ri.cell
    go_wp2_with fail
    refine (PK.out _ g v _ HY4.out.ri.rd).mono ?_
    rintro e y5 ⟨rfl, ht⟩
    have HA5 := Lib.hid (HY4.out.turn ht)
    clear ht PK x1 HY4
    have x1 := HA5.out.ri.cell
    go_upto_region 13 with (fail)
    clear x1
    go_loopw [57] (fun i wx => ∃ j : Nat, j ≤ k ∧ i = .int .i64 j ∧ ∃ vn, RdL w1 wx g v (nms j s8).2 gi g8 ⟨ii, op, co, of, nu, mo, (nms j s8).1, []⟩ (.slice none 0 0) vn) (fun i _ => k - (intOf i).toNat)
    case atStart => exact ⟨0, Nat.zero_le _, rfl, _, HA5.out⟩
    case round =>
      obtain ⟨j, hj, rfl, vn, hL⟩ := hrel
      have HL := Lib.hid hL
      clear hL HA5
      by_cases hlt : j < k
      · have i1 : (0 : Int) ≤ (j : Int) := by omega
        have i2 : (j : Int) < (k : Int) := by omega
        have PTJ := PT.out j
        have hn1 := nms_succ j s8
        obtain ⟨tx, htx⟩ : ∃ tx, tx = strOf ((nms j s8).2.text 24).1 := ⟨_, rfl⟩
        obtain ⟨st, hst⟩ : ∃ st, st = ((nms j s8).2.text 24).2 := ⟨_, rfl⟩
        rw [← htx, ← hst] at PTJ hn1
        have HN1 := Lib.hid hn1
        have PTH := Lib.hid PTJ
        have HNJ := HNL.out j
        obtain ⟨lj, hlj⟩ : ∃ lj, lj = (nms j s8).1 := ⟨_, rfl⟩
        rw [← hlj] at HL HN1 HNJ
        have HNJ := Lib.hid HNJ
        obtain ⟨sj, hsj⟩ : ∃ sj, sj = (nms j s8).2 := ⟨_, rfl⟩
        rw [← hsj] at HL PTH
        clear PTJ hn1 htx hst hlj hsj
        have x1 := HL.out.ri.cell
        obtain ⟨z0, z1, z2, z3, z4, z5, z6, z7⟩ := HL.out.bx.facts
        clear z0 z1 z2 z3 z4 z5 z6
        have hgl := HL.out.bx.lt
        have hgil := HL.out.ri.lt
        go_upto_region 14 with (fail)
        go_region_law (first
          | (refine step_fn rfl (by first | (simp only [execOp, resolve, invoke, Sem.run_bind, Sem.run_pure, Result.andThen_ok, List.map_toArray, List.map_cons, List.map_nil]; rfl) | (simp [execOp, resolve, invoke, Act.eval]; done) | (go_simp; done)) (PTH.out _ g v _ (HL.out.below (Below.refl _ _).drew).ri.rd) ?_; rintro e y6 ⟨rfl, ht⟩; refine ⟨_, rfl, ?_⟩; have HT := Lib.hid ((HL.out.below (Below.refl _ _).drew).turn ht); have x2 := HT.out.ri.cell; obtain ⟨-, -, -, -, -, -, -, zz7⟩ := HT.out.bx.facts; have hgl2 := HT.out.bx.lt; clear ht)
          | (refine step_pushS _ rfl (.tmp 60) (.tmp 64) rfl w1.heap.size vn j (strs lj) rfl (HT.out.onj HNJ.out) tx _ (by rfl) rfl (by omega) HT.out.ri.be.size ?_; intro v' w7 hown hgr; obtain ⟨A7, c7, hv7, -⟩ := own_shape hown; subst hv7; have HPU := Lib.hid (HT.out.pushN HNJ.out.symm hown hgr); obtain ⟨hc7, hf7⟩ := HT.out.bxn hgr; clear hown hgr))
        all_goals
          go_wp2_with fail
          go_roundw
          case rel => exact ⟨j + 1, by omega, by go_num, _, by rw [HN1.out]; exact HPU.out⟩
          case measure => simp [intOf]; omega
      · have hjk : j = k := by omega
        have HL9 : Hid (RdL w1 wr g v s9 gi g8 ⟨ii, op, co, of, nu, mo, ns, []⟩ (.slice none 0 0) vn) := Lib.hid (by have := HL.out; rw [hjk, HNS.out] at this; exact this)
        have i2 : ¬ (j : Int) < (k : Int) := by omega
        clear HL hjk hlt HNL HNS PT
        have x1 := HL9.out.ri.cell
        go_wp2_with fail
        refine (PN2.out _ g v _ HL9.out.ri.rd).mono ?_
        rintro e y8 ⟨rfl, ht⟩
        have HL10 := Lib.hid (HL9.out.turn ht)
        clear ht HL9 x1 PN2
        have x1 := HL10.out.ri.cell
        go_upto_region 17 with (fail)
        go_region_held3 (fun W => W.cell? ⟨gi, 0, none⟩ = some (.pointer (some ⟨g, 0, none⟩)))
          (first
            | (with_reducible assumption)
            | (with_reducible (refine (cell_drew_d2 _ _).trans ?_); with_reducible assumption))
          (first
            | (go_at_call 31; refine (raw_at (by with_reducible exact HL11.out) HR.out).mono ?_; rintro e y12 ⟨A0, c0, rfl, ho, hd⟩; have HL12 := Lib.hid hd; have HOW := Lib.hid ho; have x3 := hd.ri.cell; clear hd ho)
            | (go_at_call 32; refine (rest_at (HL10.out.below (Below.refl _ _).drew)).mono ?_; rintro e y11 ⟨rfl, hd⟩; have HL11 := Lib.hid hd; have x2 := hd.ri.cell; clear hd))
        go_wp2_with fail
        refine (end_at HL12.out).mono ?_
        rintro e y13 ⟨rfl, hd, hb⟩
        have HL13 := Lib.hid hd
        have HO13 := Lib.hid (own_below HOW.out hb)
        clear hd hb x1 x2 x3 HL10 HL11 HL12 HOW
        obtain ⟨⟨u1, u2⟩, hU⟩ : ∃ p, s11.fin = p := ⟨_, rfl⟩
        have HP1 := HP.out
        unfold prs1 at HP1
        simp only [hU] at HP1
        have hfld := fun W => run_field0 u1 ((u2 : Nat) : Int) W
        simp only [hU]
        by_cases hbad : u1 ≠ 0 ∨ f ≠ 82 ∨ 1 < m
        · rw [if_pos hbad] at HP1
          have HQD0 : Hid (D = (rp0, 162)) := Lib.hid (by rw [HQD.out P rfl, HP1]; rfl)
          clear HP1 hU
          by_cases hu : u1 = 0
          · have hu0 : (u1 != 0) = false := by rw [hu]; rfl
            by_cases hf : f = 82
            · have hf0 : ((f : Int) != 82) = false := by rw [hf]; rfl
              have hm0 : decide ((1 : Int) < (m : Int)) = true := decide_eq_true (by omega)
              have hm1 : decide (1 < m) = true := decide_eq_true (by omega)
              clear hbad hu hf
              have HZZ := HZ.out.below HL13.out.ri.be hgz
              obtain ⟨z0, z1, z2, z3, z4, z5, z6, z7⟩ := HZZ.facts
              obtain ⟨k0, k1, k2, k3, k4, k5, k6, k7⟩ := HZZ.marks
              clear HZZ
              go_wp2_with fail
              refine bodyPost_ret (v := .tuple #[.agg #[.int .u32 0, .int .i64 0, .int .i64 0, .int .i64 0, .int .i64 0, .bool false, .slice none 0 0, .slice none 0 0], .int .i64 162]) (by simp [results, Tryz.results12, go_sem, z0, z1, z2, z3, z4, z5, z6, z7]) rfl ⟨.slice none 0 0, .slice none 0 0, by rw [HQD0.out]; rfl, by rw [HQD0.out]; exact World.ownsRow_nil _ _ _ _, by rw [HQD0.out]; exact World.ownsRow_nil _ _ _ _, ?_⟩
              exact below_w8 _ _ _ _ _ _ _ _ (HB1.out.trans (HL13.out.ri.be.mono HB1.out.size)) (Nat.le_refl _)
            · have hf0 : ((f : Int) != 82) = true := by rw [bne_iff_ne]; omega
              clear hbad hu hf
              have HZZ := HZ.out.below HL13.out.ri.be hgz
              obtain ⟨z0, z1, z2, z3, z4, z5, z6, z7⟩ := HZZ.facts
              obtain ⟨k0, k1, k2, k3, k4, k5, k6, k7⟩ := HZZ.marks
              clear HZZ
              go_wp2_with fail
              refine bodyPost_ret (v := .tuple #[.agg #[.int .u32 0, .int .i64 0, .int .i64 0, .int .i64 0, .int .i64 0, .bool false, .slice none 0 0, .slice none 0 0], .int .i64 162]) (by simp [results, Tryz.results12, go_sem, z0, z1, z2, z3, z4, z5, z6, z7]) rfl ⟨.slice none 0 0, .slice none 0 0, by rw [HQD0.out]; rfl, by rw [HQD0.out]; exact World.ownsRow_nil _ _ _ _, by rw [HQD0.out]; exact World.ownsRow_nil _ _ _ _, ?_⟩
              exact below_w8 _ _ _ _ _ _ _ _ (HB1.out.trans (HL13.out.ri.be.mono HB1.out.size)) (Nat.le_refl _)
          · have hu0 : (u1 != 0) = true := by rw [bne_iff_ne]; exact hu
            clear hbad hu
            have HZZ := HZ.out.below HL13.out.ri.be hgz
            obtain ⟨z0, z1, z2, z3, z4, z5, z6, z7⟩ := HZZ.facts
            obtain ⟨k0, k1, k2, k3, k4, k5, k6, k7⟩ := HZZ.marks
            clear HZZ
            go_wp2_with fail
            refine bodyPost_ret (v := .tuple #[.agg #[.int .u32 0, .int .i64 0, .int .i64 0, .int .i64 0, .int .i64 0, .bool false, .slice none 0 0, .slice none 0 0], .int .i64 162]) (by simp [results, Tryz.results12, go_sem, z0, z1, z2, z3, z4, z5, z6, z7]) rfl ⟨.slice none 0 0, .slice none 0 0, by rw [HQD0.out]; rfl, by rw [HQD0.out]; exact World.ownsRow_nil _ _ _ _, by rw [HQD0.out]; exact World.ownsRow_nil _ _ _ _, ?_⟩
            exact below_w8 _ _ _ _ _ _ _ _ (HB1.out.trans (HL13.out.ri.be.mono HB1.out.size)) (Nat.le_refl _)
        · rw [if_neg hbad] at HP1
          have hu0 : (u1 != 0) = false := by rw [show u1 = 0 from Classical.byContradiction fun e => hbad (.inl e)]; rfl
          have hf0 : ((f : Int) != 82) = false := by rw [show f = 82 from Classical.byContradiction fun e => hbad (.inr (.inl e))]; rfl
          have hm0 : decide ((1 : Int) < (m : Int)) = false := decide_eq_false (fun e => hbad (.inr (.inr (by omega))))
          have hm1 : decide (1 < m) = false := decide_eq_false (fun e => hbad (.inr (.inr e)))
          have HP2 : Hid (P = prs2 (fun l => ⟨ii, op, co, of, nu, mo, ns, l⟩) (rcs nn rl)) := Lib.hid (by rw [HP1, HMO.out]; rfl)
          clear HP1 hbad hU
          go_wp2_with fail
          obtain ⟨F, hF⟩ : ∃ F : List Rc → Rp, F = fun l => ⟨ii, op, co, of, nu, mo, ns, l⟩ := ⟨_, rfl⟩
          rw [← hF] at HP2
          have HFF := Lib.hid (fun l => (show F l = ⟨ii, op, co, of, nu, mo, ns, l⟩ by rw [hF]))
          have HS0 : Hid (RecS w1 y13 g v s11 gi g8 F A0 c0 rl vn 0 0 [] (.slice none 0 0) (.slice A0 rl.length c0)) := Lib.hid ⟨rfl, Nat.zero_le _, rfl, at11_start HO13.out, by rw [hF]; exact HL13.out, HO13.out⟩
          clear hF hu0 hf0 hm0 hm1 hfld HL13 HO13
          go_loopw [11, 93] (fun s11v i wx => ∃ (j p : Nat) (lj : List Rc) (vr : Value), j ≤ nn ∧ i = .int .i64 j ∧ RecS w1 wx g v s11 gi g8 F A0 c0 rl vn j p lj vr s11v) (fun _ i _ => nn - (intOf i).toNat)
          case atStart => exact ⟨0, 0, [], _, Nat.zero_le _, rfl, HS0.out⟩
          case round =>
            obtain ⟨j, p, lj, vr, hj, rfl, hS⟩ := hrel
            obtain ⟨A', c', rfl, hnc, hat⟩ := hS.at_
            have hle := hS.le
            have HS := Lib.hid hS
            have HAT := Lib.hid hat
            have HRC := Lib.hid hS.rc
            have HJL := Lib.hid hS.len
            obtain ⟨N, hN⟩ : ∃ N, N = rl.length - p := ⟨_, rfl⟩
            rw [← hN] at hnc ⊢
            have hdl : (rl.drop p).length = N := by rw [List.length_drop, hN]
            have hrd := at11_rd (rd_own hS.ow) hat
            have HN := Lib.hid hN
            have HDL := Lib.hid hdl
            clear hS hat HS0 hN
            by_cases hlt : j < nn
            · have i3 : (0 : Int) ≤ (j : Int) := by omega
              have i4 : (j : Int) < (nn : Int) := by omega
              have PD := recdecode_is A' N c' (rl.drop p) wr hrd hdl hnc (by_drop HRB.out p) (by have := HRL.out; have := HN.out; omega)
              obtain ⟨⟨⟨yk, yo, yt, yp, ys, ykey, yval⟩, sz, ez⟩, hq⟩ : ∃ q, rdec (rl.drop p) = q := ⟨_, rfl⟩
              have hcs := rdec_cases (rl.drop p)
              have hszl := rdec_len (rl.drop p)
              have HRS : Hid (rcs (j + 1) rl = rcs1 (some (lj, rl.drop p))) := Lib.hid (by rw [← HRC.out]; rfl)
              rw [hq] at PD hcs hszl
              unfold DecPost at PD
              unfold Rc.v at PD
              simp only at PD hszl
              have HQ2 := Lib.hid hq
              have PDH := Lib.hid PD
              have HCS := Lib.hid hcs
              rw [hdl] at hszl
              clear PD hq hrd hcs hdl
              go_wp2_with fail
              refine PDH.out.mono ?_
              rintro e w14 ⟨rfl, hb⟩
              have HL14 : Hid (RdL w1 w14 g v s11 gi g8 ⟨ii, op, co, of, nu, mo, ns, lj⟩ vr vn) := Lib.hid (by have := HS.out.rd.below hb; rwa [HFF.out] at this)
              have HO14 := Lib.hid (own_below HS.out.ow hb)
              clear hb PDH
              have HAA := (Below.refl w14.heap.size w14).alloc (Nat.le_refl _) (.cells #[.int .i64 yk, .int .i64 yo, .int .i64 yt, .int .i64 yp, .int .i64 ys, .string ykey, .string yval] 43)
              have HL15 := Lib.hid (HL14.out.below HAA)
              have HO15 := Lib.hid (own_below HO14.out HAA)
              clear HL14 HO14 HAA
              by_cases h0 : ez = 0
              · subst h0
                have hq2 := HQ2.out
                obtain ⟨hs14, q0, rfl, rfl⟩ : 14 ≤ sz ∧ ∃ q0, A0 = some ⟨q0, 0, none⟩ ∧ A' = some ⟨q0, p, none⟩ := by
                  have h14 : 14 ≤ sz := by
                    rcases HCS.out with ⟨x', n', e1, _, e2, _⟩ | e1 | e1
                    · simp at e1; omega
                    · simp at e1
                    · simp at e1
                  exact ⟨h14, HAT.out (by have := HN.out; omega)⟩
                have HR1 : Hid (rcs (j + 1) rl = some (lj ++ [⟨yk, yo, yt, yp, ys, ykey, yval⟩], (rl.drop p).drop sz)) := Lib.hid (by rw [HRS.out]; exact rcs1_ok hq2)
                have e0 : (0 : Int) ≤ (sz : Int) := by omega
                have e1 : (sz : Int) ≤ (N : Int) := by omega
                have e2 : (N : Int) ≤ (c' : Int) := by omega
                clear hq2 HQ2 HRS HCS HAT
                obtain ⟨z0, z1, z2, z3, z4, z5, z6, z7⟩ := HL15.out.bx.facts
                clear z0 z1 z2 z3 z4 z5 z7
                have hg8l := HL15.out.bx.lt
                go_wp2_with (at_builtin; (refine pushR _ rfl (.tmp 105) (.tmp 107) rfl w1.heap.size vr j (rcCells lj) rfl (HL15.out.orj HJL.out) ⟨yk, yo, yt, yp, ys, ykey, yval⟩ _ (by first | rfl | simp) rfl (by have := HBS.out; omega) HL15.out.ri.be.size ?_); intro v2 w16 hown hgr hnn2; obtain ⟨A7, c7, hv7, -⟩ := own_shape hown; subst hv7; have HPU := Lib.hid (HL15.out.pushR HJL.out.symm hown hgr); have HPO := Lib.hid (HO15.out.kept hgr (own_types HO15.out HL15.out.or_ (by decide))); obtain ⟨hc6, hf6⟩ := HL15.out.bxr hgr; clear hown hgr hnn2)
                have hwj := wrap_next hlt (Nat.le_trans hnb HBS.out)
                have how := ownsRow_setCell_other HPO.out (a := ⟨g8, 6, none⟩) (own_ne_kind HO15.out HL15.out.bx (by decide)) (.slice A7 (j + 1) c7)
                have hnx := recs_next (HFF.out _) HR1.out HN.out hle hszl hnc HJL.out HPU.out how
                exact ⟨⟨j + 1, p + sz, _, _, hlt, by rw [hwj], hnx⟩, by rw [hwj]; exact meas_next hlt⟩
              · have hez : ((ez : Int) != 0) = true := by rw [bne_iff_ne]; omega
                have HQD0 : Hid (D = (rp0, 162)) := Lib.hid (by rw [HQD.out P rfl, HP2.out, rcs_none (k := j + 1) (by rw [HRS.out]; exact rcs1_bad HQ2.out h0) (by omega)]; rfl)
                clear h0
                have HZZ := HZ.out.below HL15.out.ri.be hgz
                obtain ⟨z0, z1, z2, z3, z4, z5, z6, z7⟩ := HZZ.facts
                obtain ⟨k0, k1, k2, k3, k4, k5, k6, k7⟩ := HZZ.marks
                clear HZZ
                go_wp2_with fail
                refine bodyPost_ret (v := .tuple #[.agg #[.int .u32 0, .int .i64 0, .int .i64 0, .int .i64 0, .int .i64 0, .bool false, .slice none 0 0, .slice none 0 0], .int .i64 162]) (by simp [results, Tryz.results12, go_sem, z0, z1, z2, z3, z4, z5, z6, z7]) rfl ⟨.slice none 0 0, .slice none 0 0, by rw [HQD0.out]; rfl, by rw [HQD0.out]; exact World.ownsRow_nil _ _ _ _, by rw [HQD0.out]; exact World.ownsRow_nil _ _ _ _, ?_⟩
                exact below_w8 _ _ _ _ _ _ _ _ (HB1.out.trans (HL15.out.ri.be.mono HB1.out.size)) (Nat.le_refl _)
            · have hjn : j = nn := by omega
              have i4 : ¬ (j : Int) < (nn : Int) := by omega
              have HP3 : Hid (P = prs2 F (some (lj, rl.drop p))) := Lib.hid (by rw [HP2.out, ← hjn, HRC.out])
              have HL15 : Hid (RdL w1 wr g v s11 gi g8 ⟨ii, op, co, of, nu, mo, ns, lj⟩ vr vn) := Lib.hid (by have := HS.out.rd; rwa [HFF.out] at this)
              have HFL := Lib.hid (HFF.out lj)
              have hll : (lj.flatMap encs).length ≤ 140737488350000 := by
                have h1 := encs_total lj
                have h2 := HJL.out
                have := HBS.out
                omega
              have HLL := Lib.hid hll
              have HJN : Hid (lj.length ≤ 4087) := Lib.hid (by rw [HJL.out]; have := HBS.out; omega)
              clear hrd hjn hll HRC HS HJL
              by_cases hn0 : 0 < N
              · have n0 : decide ((0 : Int) < (N : Int)) = true := decide_eq_true (by omega)
                have n1 : decide (0 < N) = true := decide_eq_true hn0
                have HQD0 : Hid (D = (rp0, 162)) := Lib.hid (by rw [HQD.out P rfl, HP3.out, prs2_left (by rw [← List.length_pos_iff]; rw [HDL.out]; exact hn0)]; rfl)
                clear hn0 hdl
                have HZZ := HZ.out.below HL15.out.ri.be hgz
                obtain ⟨z0, z1, z2, z3, z4, z5, z6, z7⟩ := HZZ.facts
                obtain ⟨k0, k1, k2, k3, k4, k5, k6, k7⟩ := HZZ.marks
                clear HZZ
                go_wp2_with fail
                refine bodyPost_ret (v := .tuple #[.agg #[.int .u32 0, .int .i64 0, .int .i64 0, .int .i64 0, .int .i64 0, .bool false, .slice none 0 0, .slice none 0 0], .int .i64 162]) (by simp [results, Tryz.results12, go_sem, z0, z1, z2, z3, z4, z5, z6, z7]) rfl ⟨.slice none 0 0, .slice none 0 0, by rw [HQD0.out]; rfl, by rw [HQD0.out]; exact World.ownsRow_nil _ _ _ _, by rw [HQD0.out]; exact World.ownsRow_nil _ _ _ _, ?_⟩
                exact below_w8 _ _ _ _ _ _ _ _ (HB1.out.trans (HL15.out.ri.be.mono HB1.out.size)) (Nat.le_refl _)
              · have n0 : decide ((0 : Int) < (N : Int)) = false := decide_eq_false (by omega)
                have n1 : decide (0 < N) = false := decide_eq_false hn0
                have HRN : Hid (rl.drop p = []) := Lib.hid (List.eq_nil_of_length_eq_zero (by rw [HDL.out]; omega))
                obtain ⟨AN, cn', hvn, -⟩ := own_shape HL15.out.on
                obtain ⟨AR, cr, hvr, -⟩ := own_shape HL15.out.or_
                simp only at hvn hvr
                obtain ⟨nl, hnl⟩ : ∃ nl, ns.length = nl := ⟨_, rfl⟩
                obtain ⟨nr, hnr⟩ : ∃ nr, lj.length = nr := ⟨_, rfl⟩
                rw [hnl] at hvn
                rw [hnr] at hvr
                subst hvn hvr
                have PC := checkp_is ⟨ii, op, co, of, nu, mo, ns, lj⟩ AN AR nl nr cn' cr wr (rd_own (HL15.out.onj hnl)) hnl (rd_own (HL15.out.orj hnr)) hnr (HNX.out ns mo lj) (by have := HJN.out; omega) (by rw [← hnl]; have := HNL9.out; omega) HLL.out
                obtain ⟨zc, hzc⟩ : ∃ zc, (renp ⟨ii, op, co, of, nu, mo, ns, lj⟩).2 = zc := ⟨_, rfl⟩
                rw [hzc] at PC
                unfold Rp.V at PC
                have PCH := Lib.hid PC
                have HZC := Lib.hid hzc
                have HNR := Lib.hid hnr
                have HNLL := Lib.hid hnl
                clear PC hzc hnr hnl hn0 hdl
                obtain ⟨z0, z1, z2, z3, z4, z5, z6, z7⟩ := HL15.out.bx.facts
                simp only at z0 z1 z2 z3 z4 z5
                go_wp2_with fail
                refine PCH.out.mono ?_
                rintro e w15 ⟨rfl, hb⟩
                have HL16 := Lib.hid (HL15.out.below hb)
                clear hb z0 z1 z2 z3 z4 z5 z6 z7 PCH HL15
                by_cases hz : zc = 0
                · have hz0 : (zc != 0) = false := by rw [hz]; rfl
                  have HQ1 : Hid (D = (⟨ii, op, co, of, nu, mo, ns, lj⟩, 0)) := Lib.hid (by rw [HQD.out P rfl, HP3.out, HRN.out, prs2_ok (by rw [HFL.out, HZC.out, hz]), HFL.out]; rfl)
                  clear hz
                  obtain ⟨y0, y1, y2, y3, y4, y5, y6, y7⟩ := HL16.out.bx.facts
                  simp only at y0 y1 y2 y3 y4 y5
                  have HZZ := HZ.out.below HL16.out.ri.be hgz
                  obtain ⟨z0, z1, z2, z3, z4, z5, z6, z7⟩ := HZZ.facts
                  obtain ⟨k0, k1, k2, k3, k4, k5, k6, k7⟩ := HZZ.marks
                  have HZH := Lib.hid HZZ
                  clear HZZ
                  go_wp2_with fail
                  refine bodyPost_ret (v := .tuple #[.agg #[.int .u32 (ii : Int), .int .i64 (op : Int), .int .i64 (co : Int), .int .i64 of, .int .i64 nu, .bool mo, .slice AR nr cr, .slice AN nl cn'], .int .i64 0]) (by simp [results, Tryz.results12, go_sem, z0, z1, z2, z3, z4, z5, z6, z7]) rfl ⟨.slice AR nr cr, .slice AN nl cn', by rw [HQ1.out]; rfl, ?_, ?_, ?_⟩
                  · rw [HQ1.out]
                    exact own_w8 HZH.out _ _ _ _ _ _ _ _ (own_lower HL16.out.on HB1.out.size) (by decide)
                  · rw [HQ1.out]
                    exact own_w8 HZH.out _ _ _ _ _ _ _ _ (own_lower HL16.out.or_ HB1.out.size) (by decide)
                  · exact below_w8 _ _ _ _ _ _ _ _ (HB1.out.trans (HL16.out.ri.be.mono HB1.out.size)) (Nat.le_refl _)
                · have hz0 : (zc != 0) = true := by rw [bne_iff_ne]; exact hz
                  have HQD0 : Hid (D = (rp0, 162)) := Lib.hid (by rw [HQD.out P rfl, HP3.out, prs2_bad (by rw [HFL.out, HZC.out]; exact hz)]; rfl)
                  clear hz
                  have HZZ := HZ.out.below HL16.out.ri.be hgz
                  obtain ⟨z0, z1, z2, z3, z4, z5, z6, z7⟩ := HZZ.facts
                  obtain ⟨k0, k1, k2, k3, k4, k5, k6, k7⟩ := HZZ.marks
                  clear HZZ
                  go_wp2_with fail
                  refine bodyPost_ret (v := .tuple #[.agg #[.int .u32 0, .int .i64 0, .int .i64 0, .int .i64 0, .int .i64 0, .bool false, .slice none 0 0, .slice none 0 0], .int .i64 162]) (by simp [results, Tryz.results12, go_sem, z0, z1, z2, z3, z4, z5, z6, z7]) rfl ⟨.slice none 0 0, .slice none 0 0, by rw [HQD0.out]; rfl, by rw [HQD0.out]; exact World.ownsRow_nil _ _ _ _, by rw [HQD0.out]; exact World.ownsRow_nil _ _ _ _, ?_⟩
                  exact below_w8 _ _ _ _ _ _ _ _ (HB1.out.trans (HL16.out.ri.be.mono HB1.out.size)) (Nat.le_refl _)
set_option maxRecDepth 100000 in
theorem decodep_is (A : Option Addr) (n c : Nat) (b : List Nat) (w : World) (hr : Rd w A (b8 b)) (hn : b.length = n) (hnc : n ≤ c) (hby : By b) (hl : n ≤ 140737488351232) :
    Calls Tryz.prog 12 #[.slice A n c] w (DecR w (decp b)) := by
  by_cases h : (bd b).2 = 0
  · exact decodep_body A n c b w hr hn hnc hby hl h
  · exact decodep_noBody A n c b w hr hn hnc hby (by omega) h
end Go.Proofs.YtljfmcgeiceagaaGreat
