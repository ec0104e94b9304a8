/- The document's DecodeRequest (printed by gen_rqref4.py). -/
import Derived.Test.YtljfmcgeiceagaaDoorRqRef3
import Derived.Test.YtljfmcgeiceagaaDoorW1
namespace Go.Proofs.YtljfmcgeiceagaaDoor
open Go Go.RowKit
set_option linter.unusedVariables false
set_option linter.unusedSimpArgs false

/-- What a letter reads. -/
def rdL (X : Rs × Rq) (l : Nat) : Rs × Rq :=
  if l = 84 then ((X.1.text 24).2, { X.2 with t := strOf (X.1.text 24).1 }) else if l = 75 then ((X.1.text 64).2, { X.2 with k := strOf (X.1.text 64).1 }) else if l = 86 then ((X.1.text 1024).2, { X.2 with v := strOf (X.1.text 1024).1 })
  else if l = 79 then (X.1.num.2, { X.2 with o := sg X.1.num.1 }) else if l = 78 then (X.1.num.2, { X.2 with n := sg X.1.num.1 }) else if l = 80 then (X.1.num.2, { X.2 with p := sg X.1.num.1 }) else if l = 83 then (X.1.num.2, { X.2 with s := sg X.1.num.1 }) else X
theorem strOf_nil : strOf [] = ⟨#[]⟩ := rfl
theorem useB_zero {op : Nat} (h : ¬ (1 ≤ op ∧ op < 16)) : useB op = 0 := by
  rcases (show op = 0 ∨ 16 ≤ op by omega) with rfl | h
  · rfl
  · unfold useB
    rw [List.getD_eq_getElem?_getD, List.getElem?_eq_none (by simpa using h)]
    rfl
theorem rrq_fold (op : Nat) (z : Rs) : ((usL (op : Int)).foldl rdL (z.num.2, ⟨z.num.1 % 4294967296, op, ⟨#[]⟩, ⟨#[]⟩, ⟨#[]⟩, 0, 0, 0, 0⟩)).2 = rrq2 (useB op) op z := by
  by_cases h : 1 ≤ op ∧ op < 16
  · rcases (show op = 1 ∨ op = 2 ∨ op = 3 ∨ op = 4 ∨ op = 5 ∨ op = 6 ∨ op = 7 ∨ op = 8 ∨ op = 9 ∨ op = 10 ∨ op = 11 ∨ op = 12 ∨ op = 13 ∨ op = 14 ∨ op = 15 by omega) with rfl | rfl | rfl | rfl | rfl | rfl | rfl | rfl | rfl | rfl | rfl | rfl | rfl | rfl | rfl <;> simp [usL, rdL, rrq2, tr, nrr, useB, hasb, strOf_nil]
  · rw [useB_zero h, usL_none (by omega)]
    simp [rdL, rrq2, tr, nrr, hasb, strOf_nil]
theorem fold_step {X : Rs × Rq} {ls : List Nat} {k c : Nat} (h : ls[k]? = some c) : (ls.take (k + 1)).foldl rdL X = rdL ((ls.take k).foldl rdL X) c := by
  rw [List.take_add_one, h]
  simp [List.foldl_append]
theorem text_len (s : Rs) (most : Int) : (s.text most).1.length ≤ s.bs.length := by
  unfold Rs.text
  split
  · simp
  split
  · simp
  split
  · simp
  split
  · simp
  · simp only [List.length_take, List.length_drop]; omega
theorem tr_len2 (b m : Nat) (most : Int) (s : Rs) : (tr b m most s).1.length ≤ s.bs.length := by
  unfold tr; split
  · exact text_len s most
  · simp
theorem tr_same {b m : Nat} {most : Int} {s : Rs} : (tr b m most s).2.bs = s.bs := by
  unfold tr; split
  · unfold Rs.text
    split
    · rfl
    split
    · unfold Rs.num; split
      · rfl
      split
      · rfl
      · exact Rs.fail_bs _ _
    have hn : s.num.2.bs = s.bs := by
      unfold Rs.num; split
      · rfl
      split
      · rfl
      · exact Rs.fail_bs _ _
    split
    · rw [Rs.failAt_bs, hn]
    split
    · rw [Rs.failAt_bs, hn]
    · exact hn
  · rfl
theorem take_bs (s : Rs) (n : Int) : (s.take n).2.bs = s.bs := by
  unfold Rs.take
  split
  · rfl
  split
  · exact Rs.fail_bs _ _
  split
  · exact Rs.fail_bs _ _
  · rfl
theorem rrq_ok {bs : List Nat} (hby : By bs) (hl : bs.length ≤ 140737488351232) : (rrq bs).Ok := by
  obtain ⟨r1, r2, r3, r4, r5⟩ := rrq_r64 hby hl
  have hok0 : (⟨bs, 0, 0, 0⟩ : Rs).Ok := ⟨by simp, hby, by simp only; omega, fun _ => rfl, fun h => absurd rfl h, by simp, by simp⟩
  have ok1 := hok0.take 1
  have b2 : (((⟨bs, 0, 0, 0⟩ : Rs).take 1).2.take 1).2.bs = bs := (take_bs _ _).trans (take_bs _ _)
  have oby : By (((⟨bs, 0, 0, 0⟩ : Rs).take 1).2.take 1).1 := Rs.take_by ok1 1
  have hop : ((((⟨bs, 0, 0, 0⟩ : Rs).take 1).2.take 1).1.headD 0) < 256 := by
    cases h1 : (((⟨bs, 0, 0, 0⟩ : Rs).take 1).2.take 1).1 with
    | nil => simp
    | cons y r => exact oby y (by rw [h1]; simp)
  have ok2 := ok1.take 1
  have bn := ok2.num.2.2
  refine ⟨r1, ?_, ?_, ?_, ?_, r2, r3, r4, r5⟩
  · unfold rrq rrq2 r64; simp only; omega
  · unfold rrq rrq2; simp only; rw [strOf_size]
    refine Nat.le_trans (tr_len2 _ _ _ _) ?_
    rw [bn, b2]; exact hl
  · unfold rrq rrq2; simp only; rw [strOf_size]
    refine Nat.le_trans (tr_len2 _ _ _ _) ?_
    rw [tr_same, bn, b2]; exact hl
  · unfold rrq rrq2; simp only; rw [strOf_size]
    refine Nat.le_trans (tr_len2 _ _ _ _) ?_
    rw [tr_same, tr_same, bn, b2]; exact hl
theorem bd_code (b : List Nat) : (bd b).2 ≠ 0 → (bd b).2 = 160 := by
  unfold bd
  split
  · intro _; rfl
  split
  · intro h; exact absurd rfl h
  · intro _; rfl
theorem usL_letters8 (op : Int) : ∀ c ∈ usL op, c = 84 ∨ c = 75 ∨ c = 86 ∨ c = 79 ∨ c = 78 ∨ c = 80 ∨ c = 83 ∨ c = 63 := by
  by_cases h : 1 ≤ op ∧ op < 16
  · intro c hc
    rcases usL_letters h c hc with h | h | h | h | h | h | h <;> simp [h]
  · rw [usL_none h]
    intro c hc
    simp at hc
    simp [hc]
/-- The document's reader and a request's box. -/
structure RdX (w0 W : World) (g : Nat) (v : Value) (s : Rs) (b : Nat) (x : Rq) : Prop where
  rd : Rdr w0.heap.size W 108 Rs.rcells g v s
  bx : QBox W b x
  bb : w0.heap.size ≤ b
  ng : b ≠ g
  nv : ∀ q, v.ownBlock = some q → q ≠ b
  be : Below w0.heap.size w0 W
section
variable {w0 W W' : World} {g : Nat} {v : Value} {s s' : Rs} {b : Nat} {x x' : Rq}
theorem RdX.new (h : Rdr w0.heap.size W 108 Rs.rcells g v s) (hb : Below w0.heap.size w0 W) (x : Rq) : RdX w0 (W.alloc (.cells #[.int .u32 (x.id : Int), .int .i64 x.op, .string x.t, .string x.k, .string x.v, .int .i64 x.o, .int .i64 x.n, .int .i64 x.p, .int .i64 x.s] 24)) g v s W.heap.size x :=
  ⟨h.below ((Below.refl _ _).alloc (Nat.le_refl _) _), heap_alloc_new W _, hb.size, fun e => by have := h.lt; omega, fun q hq e => by have := (h.own.lt q hq).2; omega, hb.alloc hb.size _⟩
theorem RdX.turn (h : RdX w0 W g v s b x) (ht : Turned w0.heap.size W 108 Rs.rcells g v s' W') : RdX w0 W' g v s' b x :=
  ⟨ht.rd, (ht.kept.block b h.bx.lt h.ng).trans h.bx, h.bb, h.ng, h.nv, h.be.trans (ht.low h.be.size)⟩
theorem RdX.below (h : RdX w0 W g v s b x) (hb : Below W.heap.size W W') : RdX w0 W' g v s b x :=
  ⟨h.rd.below hb, h.bx.below hb h.bx.lt, h.bb, h.ng, h.nv, h.be.trans (hb.mono h.be.size)⟩
theorem RdX.put {j : Nat} {u : Value} (h : RdX w0 W g v s b x) (x' : Rq) (hx : (#[.int .u32 (x.id : Int), .int .i64 x.op, .string x.t, .string x.k, .string x.v, .int .i64 x.o, .int .i64 x.n, .int .i64 x.p, .int .i64 x.s] : Array Value).setIfInBounds j u = #[.int .u32 (x'.id : Int), .int .i64 x'.op, .string x'.t, .string x'.k, .string x'.v, .int .i64 x'.o, .int .i64 x'.n, .int .i64 x'.p, .int .i64 x'.s] := by rfl) : RdX w0 (W.setCell ⟨b, j, none⟩ u) g v s b x' :=
  ⟨h.rd.keptS (kept1_set W b j u) (fun e => h.ng e.symm) (fun q hq e => h.nv q hq e), h.bx.put hx, h.bb, h.ng, h.nv, h.be.setCell h.bb _⟩
end

set_option maxHeartbeats 4000000 in
set_option maxRecDepth 100000 in
theorem rdecodeq_noBody (A : Option Addr) (n c : Nat) (b : List Nat) (w : World) (hr : Rd w A (b8 b)) (hn : b.length = n) (hnc : n ≤ c) (hby : By b) (hl : n ≤ 140737488351232) (h : (bd b).2 ≠ 0) :
    Calls Tryd.prog 14 #[.slice A n c] w (DecQ w (rdecq b)) := by
  have HD : Hid (rdecq b = (rq0, 160)) := Lib.hid (by unfold rdecq; rw [if_pos h])
  have HB0 := Lib.hid ((Below.refl w.heap.size w).alloc (Nat.le_refl _) (.cells #[.int .u32 0, .int .i64 0, .string ⟨#[]⟩, .string ⟨#[]⟩, .string ⟨#[]⟩, .int .i64 0, .int .i64 0, .int .i64 0, .int .i64 0] 24))
  have PB := Lib.hid (rbody_is A n c b _ (hr.below HB0.out) hn hnc hby hl)
  have HZ0 : Hid (QBox (w.alloc (.cells #[.int .u32 0, .int .i64 0, .string ⟨#[]⟩, .string ⟨#[]⟩, .string ⟨#[]⟩, .int .i64 0, .int .i64 0, .int .i64 0, .int .i64 0] 24)) w.heap.size rq0) := Lib.hid (heap_alloc_new w _)
  have h160 := bd_code b h
  obtain ⟨⟨bs, x⟩, hx⟩ : ∃ p, p = bd b := ⟨_, rfl⟩
  rw [← hx] at PB h160
  simp only at h160
  subst h160
  unfold FramePost at PB
  simp only at PB
  unfold DecQ
  clear hr hn hnc hby hl hx h
  go_enter Tryd.func14, Tryd.ntmps14
  go_wp2_with fail
  refine PB.out.mono ?_
  rintro e w1 ⟨A1, c1, rfl, ho1, hb1⟩
  have HZ := HZ0.out.below hb1 (by simp)
  have HB1 := Lib.hid (HB0.out.trans (hb1.mono (by simp)))
  clear ho1 hb1
  obtain ⟨z0, z1, z2, z3, z4, z5, z6, z7, z8⟩ := HZ.facts
  obtain ⟨r0, r1, r2, r3, r4, r5, r6, r7, r8⟩ := HZ.free
  simp only [rq0] at z0 z1 z2 z3 z4 z5 z6 z7 z8
  go_wp2_with fail
  refine bodyPost_ret (v := .tuple #[.agg #[.int .u32 0, .int .i64 0, .string ⟨#[]⟩, .string ⟨#[]⟩, .string ⟨#[]⟩, .int .i64 0, .int .i64 0, .int .i64 0, .int .i64 0], .int .i64 160]) (by simp [results, Tryd.results14, go_sem, z0, z1, z2, z3, z4, z5, z6, z7, z8]) rfl ⟨by rw [HD.out]; rfl, ?_⟩
  exact below_w9 rq0 (HB1.out) (Nat.le_refl _)
set_option maxHeartbeats 8000000 in
set_option maxRecDepth 100000 in
theorem rdecodeq_body (A : Option Addr) (n c : Nat) (b : List Nat) (w : World) (hr : Rd w A (b8 b)) (hn : b.length = n) (hnc : n ≤ c) (hby : By b) (hl : n ≤ 140737488351232) (h : (bd b).2 = 0) :
    Calls Tryd.prog 14 #[.slice A n c] w (DecQ w (rdecq b)) := by
  have HB0 := Lib.hid ((Below.refl w.heap.size w).alloc (Nat.le_refl _) (.cells #[.int .u32 0, .int .i64 0, .string ⟨#[]⟩, .string ⟨#[]⟩, .string ⟨#[]⟩, .int .i64 0, .int .i64 0, .int .i64 0, .int .i64 0] 24))
  have PB := Lib.hid (rbody_is A n c b _ (hr.below HB0.out) hn hnc hby hl)
  have HZ0 : Hid (QBox (w.alloc (.cells #[.int .u32 0, .int .i64 0, .string ⟨#[]⟩, .string ⟨#[]⟩, .string ⟨#[]⟩, .int .i64 0, .int .i64 0, .int .i64 0, .int .i64 0] 24)) w.heap.size rq0) := Lib.hid (heap_alloc_new w _)
  obtain ⟨hw, h9, hdr⟩ := bd_wrapped hby h
  have HD : Hid (rdecq b = if okq (rrq (bd b).1) = true ∧ wrap 197 (bdyq (rrq (bd b).1)) = b then (rrq (bd b).1, 0) else (rq0, 161)) := Lib.hid (by unfold rdecq; rw [if_neg (by simpa using h)])
  obtain ⟨⟨bs, x⟩, hx⟩ : ∃ p, p = bd b := ⟨_, rfl⟩
  rw [← hx] at PB h HD hdr
  simp only at h HD hdr
  subst h
  have hyb : By bs := by rw [hdr]; exact by_drop hby 9
  have hlb : bs.length ≤ 140737488351232 := by rw [hdr, List.length_drop]; omega
  have hrok := rrq_ok hyb hlb
  unfold FramePost at PB
  simp only at PB
  have PN := Lib.hid (fun A c W (h : Rd W A (b8 bs)) => rnewReader_is A bs.length c bs W h rfl hyb hlb)
  unfold Newed at PN
  have ok0 := ok_new hyb hlb
  obtain ⟨⟨fl, s1⟩, hF⟩ : ∃ p, (⟨bs, 0, 0, 0⟩ : Rs).take 1 = p := ⟨_, rfl⟩
  have ok1 : s1.Ok := by have := ok0.take 1; rw [hF] at this; exact this
  obtain ⟨⟨ol, s2⟩, hO⟩ : ∃ p, s1.take 1 = p := ⟨_, rfl⟩
  have ok2 : s2.Ok := by have := ok1.take 1; rw [hO] at this; exact this
  have oby : By ol := by have := Rs.take_by ok1 1; rw [hO] at this; exact this
  have PB1 := Lib.hid (fun base g v W (h : Rdr base W 108 Rs.rcells g v ⟨bs, 0, 0, 0⟩) => rbyte_r base g v ⟨bs, 0, 0, 0⟩ W h)
  rw [hF] at PB1
  have PB2 := Lib.hid (fun base g v W (h : Rdr base W 108 Rs.rcells g v s1) => rbyte_r base g v s1 W h)
  rw [hO] at PB2
  have PUV := Lib.hid (fun base g v W (h : Rdr base W 108 Rs.rcells g v s2) => ruv_r base g v s2 W h)
  unfold Gave at PB1 PB2 PUV
  simp only at PB1 PB2
  obtain ⟨op, hop⟩ : ∃ f, f = ol.headD 0 := ⟨_, rfl⟩
  have hop8 : op < 256 := by rw [hop]; cases h1 : ol with | nil => simp | cons y r => exact oby y (by rw [h1]; simp)
  rw [← hop] at PB2
  have hwo : IntKind.i64.wrap (op : Int) = (op : Int) := by rw [IntKind.wrap_i64]; omega
  have HRR : Hid (rrq bs = ((usL (op : Int)).foldl rdL (s2.num.2, ⟨s2.num.1 % 4294967296, op, ⟨#[]⟩, ⟨#[]⟩, ⟨#[]⟩, 0, 0, 0, 0⟩)).2) := Lib.hid (by rw [rrq_fold]; unfold rrq; rw [hF]; simp only; rw [hO, hop])
  have hnum := ok2.num
  have hwi : IntKind.u32.wrap (s2.num.1 : Int) = ((s2.num.1 % 4294967296 : Nat) : Int) := by rw [IntKind.wrap_u32]; omega
  obtain ⟨nn, hnn⟩ : ∃ x, x = s2.num.1 := ⟨_, rfl⟩
  obtain ⟨s3, hs3⟩ : ∃ x, x = s2.num.2 := ⟨_, rfl⟩
  rw [← hnn, ← hs3] at PUV HRR
  rw [← hnn] at hwi
  obtain ⟨ii, hii⟩ : ∃ x, x = nn % 4294967296 := ⟨_, rfl⟩
  rw [← hii] at HRR hwi
  have HOKR := Lib.hid hrok
  obtain ⟨R, hR⟩ : ∃ R, R = rrq bs := ⟨_, rfl⟩
  rw [← hR] at HD HRR HOKR
  have PU := Lib.hid (fun W => uses16_is (op : Int) W)
  have hul := usL_len (op : Int)
  have hus := usS_size (op : Int)
  have hsb := sb_usS (op : Int)
  have hlet := usL_letters8 (op : Int)
  obtain ⟨U, hU⟩ : ∃ U, U = usS (op : Int) := ⟨_, rfl⟩
  obtain ⟨LL, hLL⟩ : ∃ U, U = usL (op : Int) := ⟨_, rfl⟩
  rw [← hU] at PU hus hsb
  rw [← hLL] at hlet hul hus hsb HRR
  have HLET := Lib.hid hlet
  have HSB := Lib.hid hsb
  have hU5 : U.size ≤ 5 := by omega
  have HUL : Hid (LL.length = U.size) := Lib.hid hus.symm
  have PE := Lib.hid (fun W => rencodeq_is R W HOKR.out)
  have HR0 := Lib.hid hr
  have HN := Lib.hid hn
  obtain ⟨D, hD⟩ : ∃ D, D = rdecq b := ⟨_, rfl⟩
  rw [← hD] at HD ⊢
  clear hr hn hby hx hw h9 hdr hyb hlb hrok ok0 hF oby hO hop hnum hnn hs3 hii hR hD hul hus hsb hlet hU hLL hop8 ok1 ok2
  unfold DecQ
  go_enter Tryd.func14, Tryd.ntmps14
  go_wp2_with fail
  refine PB.out.mono ?_
  rintro e w1 ⟨A1, c1, rfl, ho1, hb1⟩
  have HZ := Lib.hid (HZ0.out.below hb1 (by simp))
  have HB1 := Lib.hid (HB0.out.trans (hb1.mono (by simp)))
  have HO1 := Lib.hid ho1
  have hgz := HZ.out.lt
  clear ho1 hb1 PB HZ0 HB0
  go_wp2_with fail
  refine (PN.out A1 c1 w1 (rd_own HO1.out)).mono ?_
  rintro e w2 ⟨g, v, rfl, hr2, hb2⟩
  have H2 := Lib.hid hr2
  have B2 := Lib.hid hb2
  clear hr2 hb2 PN HO1
  go_wp2_with fail
  refine (PB1.out _ g v w2 H2.out).mono ?_
  rintro e w3 ⟨rfl, ht3⟩
  have H3 : Hid (RdX w1 (w3.alloc (.cells #[.int .u32 0, .int .i64 0, .string ⟨#[]⟩, .string ⟨#[]⟩, .string ⟨#[]⟩, .int .i64 0, .int .i64 0, .int .i64 0, .int .i64 0] 24)) g v s1 w3.heap.size rq0) := Lib.hid (RdX.new ht3.rd (B2.out.trans (ht3.low B2.out.size)) rq0)
  clear ht3 H2 B2 PB1
  go_wp2_with fail
  refine (PB2.out _ g v _ H3.out.rd).mono ?_
  rintro e w4 ⟨rfl, ht4⟩
  have H4 := Lib.hid (H3.out.turn ht4)
  clear ht4 H3 PB2
  obtain ⟨x0, x1, x2, x3, x4, x5, x6, x7, x8⟩ := H4.out.bx.facts
  obtain ⟨y_0, y_1, y_2, y_3, y_4, y_5, y_6, y_7, y_8⟩ := H4.out.bx.free
  simp only [rq0] at x0 x1 x2 x3 x4 x5 x6 x7 x8
  have H5 := Lib.hid (H4.out.put (j := 1) (u := .int .i64 (op : Int)) ⟨0, op, ⟨#[]⟩, ⟨#[]⟩, ⟨#[]⟩, 0, 0, 0, 0⟩)
  go_wp2_with fail
  refine (PUV.out _ g v _ H5.out.rd).mono ?_
  rintro e w6 ⟨rfl, ht6⟩
  have H6 := Lib.hid (H5.out.turn ht6)
  clear ht6 H4 H5 PUV x0 x1 x2 x3 x4 x5 x6 x7 x8 y_0 y_1 y_2 y_3 y_4 y_5 y_6 y_7 y_8
  obtain ⟨x0, x1, x2, x3, x4, x5, x6, x7, x8⟩ := H6.out.bx.facts
  obtain ⟨y_0, y_1, y_2, y_3, y_4, y_5, y_6, y_7, y_8⟩ := H6.out.bx.free
  simp only at x0 x1 x2 x3 x4 x5 x6 x7 x8
  have H7 := Lib.hid (H6.out.put (j := 0) (u := .int .u32 (ii : Int)) ⟨ii, op, ⟨#[]⟩, ⟨#[]⟩, ⟨#[]⟩, 0, 0, 0, 0⟩)
  go_wp2_with fail
  refine (PU.out _).mono ?_
  rintro e w7 ⟨rfl, rfl⟩
  clear H6 PU x0 x1 x2 x3 x4 x5 x6 x7 x8 y_0 y_1 y_2 y_3 y_4 y_5 y_6 y_7 y_8 hwi hwo
  go_wp2_with fail
  go_loopw [9] (fun i wr => ∃ j : Nat, j ≤ U.size ∧ i = .int .i64 j ∧ RdX w1 wr g v ((LL.take j).foldl rdL (s3, ⟨ii, op, ⟨#[]⟩, ⟨#[]⟩, ⟨#[]⟩, 0, 0, 0, 0⟩)).1 w3.heap.size ((LL.take j).foldl rdL (s3, ⟨ii, op, ⟨#[]⟩, ⟨#[]⟩, ⟨#[]⟩, 0, 0, 0, 0⟩)).2) (fun i _ => U.size - (intOf i).toNat)
  case atStart => exact ⟨0, Nat.zero_le _, rfl, H7.out⟩
  case round =>
    obtain ⟨j, hj, rfl, hx⟩ := hrel
    clear H7
    by_cases hlt : j < U.size
    · have i1 : (0 : Int) ≤ (j : Int) := by omega
      have i2 : (j : Int) < (U.size : Int) := by omega
      have hget := sb_get U j hlt
      rw [HSB.out] at hget
      have hst := fold_step (X := (s3, ⟨ii, op, ⟨#[]⟩, ⟨#[]⟩, ⟨#[]⟩, 0, 0, 0, 0⟩)) hget
      have hcs := HLET.out _ (List.mem_of_getElem? hget)
      obtain ⟨⟨S, qi, qop, qt, qk, qv, qo, qn, qp, qs⟩, hSX⟩ : ∃ p, p = (LL.take j).foldl rdL (s3, ⟨ii, op, ⟨#[]⟩, ⟨#[]⟩, ⟨#[]⟩, 0, 0, 0, 0⟩) := ⟨_, rfl⟩
      rw [← hSX] at hx hst
      simp only at hx
      have HX := Lib.hid hx
      have HST := Lib.hid hst
      clear hget hx hst hSX
      rcases hcs with hc | hc | hc | hc | hc | hc | hc | hc
      · have e84 : ((U[j].toNat : Int) == 84) = true := by rw [hc]; rfl
        have HN : Hid ((LL.take (j + 1)).foldl rdL (s3, ⟨ii, op, ⟨#[]⟩, ⟨#[]⟩, ⟨#[]⟩, 0, 0, 0, 0⟩) = ((S.text 24).2, ⟨qi, qop, strOf (S.text 24).1, qk, qv, qo, qn, qp, qs⟩)) := Lib.hid (by rw [HST.out, hc]; rfl)
        clear hc
        have PT := Lib.hid (fun W (h : Rdr w1.heap.size W 108 Rs.rcells g v S) => rtext_r w1.heap.size g v S 24 W h (by omega))
        unfold Gave at PT
        obtain ⟨⟨tt, S2⟩, hTT⟩ : ∃ p, S.text 24 = p := ⟨_, rfl⟩
        rw [hTT] at PT HN
        simp only at PT HN
        clear hTT
        go_wp2_with fail
        refine (PT.out _ HX.out.rd).mono ?_
        rintro e wn ⟨rfl, htn⟩
        have HN1 := Lib.hid (HX.out.turn htn)
        clear htn PT HX
        obtain ⟨x0, x1, x2, x3, x4, x5, x6, x7, x8⟩ := HN1.out.bx.facts
        obtain ⟨y_0, y_1, y_2, y_3, y_4, y_5, y_6, y_7, y_8⟩ := HN1.out.bx.free
        simp only at x0 x1 x2 x3 x4 x5 x6 x7 x8
        have HN2 := Lib.hid (HN1.out.put (j := 2) (u := .string (strOf tt)) ⟨qi, qop, strOf tt, qk, qv, qo, qn, qp, qs⟩)
        go_wp2_with fail
        go_roundw
        case rel => exact ⟨j + 1, by omega, by go_num, by rw [HN.out]; exact HN2.out⟩
        case measure => simp [intOf]; omega
      · have e84 : ((U[j].toNat : Int) == 84) = false := by rw [hc]; rfl
        have e75 : ((U[j].toNat : Int) == 75) = true := by rw [hc]; rfl
        have HN : Hid ((LL.take (j + 1)).foldl rdL (s3, ⟨ii, op, ⟨#[]⟩, ⟨#[]⟩, ⟨#[]⟩, 0, 0, 0, 0⟩) = ((S.text 64).2, ⟨qi, qop, qt, strOf (S.text 64).1, qv, qo, qn, qp, qs⟩)) := Lib.hid (by rw [HST.out, hc]; rfl)
        clear hc
        have PT := Lib.hid (fun W (h : Rdr w1.heap.size W 108 Rs.rcells g v S) => rtext_r w1.heap.size g v S 64 W h (by omega))
        unfold Gave at PT
        obtain ⟨⟨tt, S2⟩, hTT⟩ : ∃ p, S.text 64 = p := ⟨_, rfl⟩
        rw [hTT] at PT HN
        simp only at PT HN
        clear hTT
        go_wp2_with fail
        refine (PT.out _ HX.out.rd).mono ?_
        rintro e wn ⟨rfl, htn⟩
        have HN1 := Lib.hid (HX.out.turn htn)
        clear htn PT HX
        obtain ⟨x0, x1, x2, x3, x4, x5, x6, x7, x8⟩ := HN1.out.bx.facts
        obtain ⟨y_0, y_1, y_2, y_3, y_4, y_5, y_6, y_7, y_8⟩ := HN1.out.bx.free
        simp only at x0 x1 x2 x3 x4 x5 x6 x7 x8
        have HN2 := Lib.hid (HN1.out.put (j := 3) (u := .string (strOf tt)) ⟨qi, qop, qt, strOf tt, qv, qo, qn, qp, qs⟩)
        go_wp2_with fail
        go_roundw
        case rel => exact ⟨j + 1, by omega, by go_num, by rw [HN.out]; exact HN2.out⟩
        case measure => simp [intOf]; omega
      · have e84 : ((U[j].toNat : Int) == 84) = false := by rw [hc]; rfl
        have e75 : ((U[j].toNat : Int) == 75) = false := by rw [hc]; rfl
        have e86 : ((U[j].toNat : Int) == 86) = true := by rw [hc]; rfl
        have HN : Hid ((LL.take (j + 1)).foldl rdL (s3, ⟨ii, op, ⟨#[]⟩, ⟨#[]⟩, ⟨#[]⟩, 0, 0, 0, 0⟩) = ((S.text 1024).2, ⟨qi, qop, qt, qk, strOf (S.text 1024).1, qo, qn, qp, qs⟩)) := Lib.hid (by rw [HST.out, hc]; rfl)
        clear hc
        have PT := Lib.hid (fun W (h : Rdr w1.heap.size W 108 Rs.rcells g v S) => rtext_r w1.heap.size g v S 1024 W h (by omega))
        unfold Gave at PT
        obtain ⟨⟨tt, S2⟩, hTT⟩ : ∃ p, S.text 1024 = p := ⟨_, rfl⟩
        rw [hTT] at PT HN
        simp only at PT HN
        clear hTT
        go_wp2_with fail
        refine (PT.out _ HX.out.rd).mono ?_
        rintro e wn ⟨rfl, htn⟩
        have HN1 := Lib.hid (HX.out.turn htn)
        clear htn PT HX
        obtain ⟨x0, x1, x2, x3, x4, x5, x6, x7, x8⟩ := HN1.out.bx.facts
        obtain ⟨y_0, y_1, y_2, y_3, y_4, y_5, y_6, y_7, y_8⟩ := HN1.out.bx.free
        simp only at x0 x1 x2 x3 x4 x5 x6 x7 x8
        have HN2 := Lib.hid (HN1.out.put (j := 4) (u := .string (strOf tt)) ⟨qi, qop, qt, qk, strOf tt, qo, qn, qp, qs⟩)
        go_wp2_with fail
        go_roundw
        case rel => exact ⟨j + 1, by omega, by go_num, by rw [HN.out]; exact HN2.out⟩
        case measure => simp [intOf]; omega
      · have e84 : ((U[j].toNat : Int) == 84) = false := by rw [hc]; rfl
        have e75 : ((U[j].toNat : Int) == 75) = false := by rw [hc]; rfl
        have e86 : ((U[j].toNat : Int) == 86) = false := by rw [hc]; rfl
        have e79 : ((U[j].toNat : Int) == 79) = true := by rw [hc]; rfl
        have HN : Hid ((LL.take (j + 1)).foldl rdL (s3, ⟨ii, op, ⟨#[]⟩, ⟨#[]⟩, ⟨#[]⟩, 0, 0, 0, 0⟩) = (S.num.2, ⟨qi, qop, qt, qk, qv, sg S.num.1, qn, qp, qs⟩)) := Lib.hid (by rw [HST.out, hc]; rfl)
        clear hc
        have PT := Lib.hid (fun W (h : Rdr w1.heap.size W 108 Rs.rcells g v S) => ruv_r w1.heap.size g v S W h)
        have hwn : wrap64 (S.num.1 : Int) = sg S.num.1 := wrap64_sg HX.out.rd.ok.num.2.1
        unfold Gave at PT
        obtain ⟨⟨tt, S2⟩, hTT⟩ : ∃ p, S.num = p := ⟨_, rfl⟩
        rw [hTT] at PT HN hwn
        simp only at PT HN hwn
        clear hTT
        obtain ⟨uu, huu⟩ : ∃ u, u = sg tt := ⟨_, rfl⟩
        rw [← huu] at HN hwn
        clear huu
        go_wp2_with fail
        refine (PT.out _ HX.out.rd).mono ?_
        rintro e wn ⟨rfl, htn⟩
        have HN1 := Lib.hid (HX.out.turn htn)
        clear htn PT HX
        obtain ⟨x0, x1, x2, x3, x4, x5, x6, x7, x8⟩ := HN1.out.bx.facts
        obtain ⟨y_0, y_1, y_2, y_3, y_4, y_5, y_6, y_7, y_8⟩ := HN1.out.bx.free
        simp only at x0 x1 x2 x3 x4 x5 x6 x7 x8
        have HN2 := Lib.hid (HN1.out.put (j := 5) (u := .int .i64 uu) ⟨qi, qop, qt, qk, qv, uu, qn, qp, qs⟩)
        go_wp2_with fail
        go_roundw
        case rel => exact ⟨j + 1, by omega, by go_num, by rw [HN.out]; exact HN2.out⟩
        case measure => simp [intOf]; omega
      · have e84 : ((U[j].toNat : Int) == 84) = false := by rw [hc]; rfl
        have e75 : ((U[j].toNat : Int) == 75) = false := by rw [hc]; rfl
        have e86 : ((U[j].toNat : Int) == 86) = false := by rw [hc]; rfl
        have e79 : ((U[j].toNat : Int) == 79) = false := by rw [hc]; rfl
        have e78 : ((U[j].toNat : Int) == 78) = true := by rw [hc]; rfl
        have HN : Hid ((LL.take (j + 1)).foldl rdL (s3, ⟨ii, op, ⟨#[]⟩, ⟨#[]⟩, ⟨#[]⟩, 0, 0, 0, 0⟩) = (S.num.2, ⟨qi, qop, qt, qk, qv, qo, sg S.num.1, qp, qs⟩)) := Lib.hid (by rw [HST.out, hc]; rfl)
        clear hc
        have PT := Lib.hid (fun W (h : Rdr w1.heap.size W 108 Rs.rcells g v S) => ruv_r w1.heap.size g v S W h)
        have hwn : wrap64 (S.num.1 : Int) = sg S.num.1 := wrap64_sg HX.out.rd.ok.num.2.1
        unfold Gave at PT
        obtain ⟨⟨tt, S2⟩, hTT⟩ : ∃ p, S.num = p := ⟨_, rfl⟩
        rw [hTT] at PT HN hwn
        simp only at PT HN hwn
        clear hTT
        obtain ⟨uu, huu⟩ : ∃ u, u = sg tt := ⟨_, rfl⟩
        rw [← huu] at HN hwn
        clear huu
        go_wp2_with fail
        refine (PT.out _ HX.out.rd).mono ?_
        rintro e wn ⟨rfl, htn⟩
        have HN1 := Lib.hid (HX.out.turn htn)
        clear htn PT HX
        obtain ⟨x0, x1, x2, x3, x4, x5, x6, x7, x8⟩ := HN1.out.bx.facts
        obtain ⟨y_0, y_1, y_2, y_3, y_4, y_5, y_6, y_7, y_8⟩ := HN1.out.bx.free
        simp only at x0 x1 x2 x3 x4 x5 x6 x7 x8
        have HN2 := Lib.hid (HN1.out.put (j := 6) (u := .int .i64 uu) ⟨qi, qop, qt, qk, qv, qo, uu, qp, qs⟩)
        go_wp2_with fail
        go_roundw
        case rel => exact ⟨j + 1, by omega, by go_num, by rw [HN.out]; exact HN2.out⟩
        case measure => simp [intOf]; omega
      · have e84 : ((U[j].toNat : Int) == 84) = false := by rw [hc]; rfl
        have e75 : ((U[j].toNat : Int) == 75) = false := by rw [hc]; rfl
        have e86 : ((U[j].toNat : Int) == 86) = false := by rw [hc]; rfl
        have e79 : ((U[j].toNat : Int) == 79) = false := by rw [hc]; rfl
        have e78 : ((U[j].toNat : Int) == 78) = false := by rw [hc]; rfl
        have e80 : ((U[j].toNat : Int) == 80) = true := by rw [hc]; rfl
        have HN : Hid ((LL.take (j + 1)).foldl rdL (s3, ⟨ii, op, ⟨#[]⟩, ⟨#[]⟩, ⟨#[]⟩, 0, 0, 0, 0⟩) = (S.num.2, ⟨qi, qop, qt, qk, qv, qo, qn, sg S.num.1, qs⟩)) := Lib.hid (by rw [HST.out, hc]; rfl)
        clear hc
        have PT := Lib.hid (fun W (h : Rdr w1.heap.size W 108 Rs.rcells g v S) => ruv_r w1.heap.size g v S W h)
        have hwn : wrap64 (S.num.1 : Int) = sg S.num.1 := wrap64_sg HX.out.rd.ok.num.2.1
        unfold Gave at PT
        obtain ⟨⟨tt, S2⟩, hTT⟩ : ∃ p, S.num = p := ⟨_, rfl⟩
        rw [hTT] at PT HN hwn
        simp only at PT HN hwn
        clear hTT
        obtain ⟨uu, huu⟩ : ∃ u, u = sg tt := ⟨_, rfl⟩
        rw [← huu] at HN hwn
        clear huu
        go_wp2_with fail
        refine (PT.out _ HX.out.rd).mono ?_
        rintro e wn ⟨rfl, htn⟩
        have HN1 := Lib.hid (HX.out.turn htn)
        clear htn PT HX
        obtain ⟨x0, x1, x2, x3, x4, x5, x6, x7, x8⟩ := HN1.out.bx.facts
        obtain ⟨y_0, y_1, y_2, y_3, y_4, y_5, y_6, y_7, y_8⟩ := HN1.out.bx.free
        simp only at x0 x1 x2 x3 x4 x5 x6 x7 x8
        have HN2 := Lib.hid (HN1.out.put (j := 7) (u := .int .i64 uu) ⟨qi, qop, qt, qk, qv, qo, qn, uu, qs⟩)
        go_wp2_with fail
        go_roundw
        case rel => exact ⟨j + 1, by omega, by go_num, by rw [HN.out]; exact HN2.out⟩
        case measure => simp [intOf]; omega
      · have e84 : ((U[j].toNat : Int) == 84) = false := by rw [hc]; rfl
        have e75 : ((U[j].toNat : Int) == 75) = false := by rw [hc]; rfl
        have e86 : ((U[j].toNat : Int) == 86) = false := by rw [hc]; rfl
        have e79 : ((U[j].toNat : Int) == 79) = false := by rw [hc]; rfl
        have e78 : ((U[j].toNat : Int) == 78) = false := by rw [hc]; rfl
        have e80 : ((U[j].toNat : Int) == 80) = false := by rw [hc]; rfl
        have e83 : ((U[j].toNat : Int) == 83) = true := by rw [hc]; rfl
        have HN : Hid ((LL.take (j + 1)).foldl rdL (s3, ⟨ii, op, ⟨#[]⟩, ⟨#[]⟩, ⟨#[]⟩, 0, 0, 0, 0⟩) = (S.num.2, ⟨qi, qop, qt, qk, qv, qo, qn, qp, sg S.num.1⟩)) := Lib.hid (by rw [HST.out, hc]; rfl)
        clear hc
        have PT := Lib.hid (fun W (h : Rdr w1.heap.size W 108 Rs.rcells g v S) => ruv_r w1.heap.size g v S W h)
        have hwn : wrap64 (S.num.1 : Int) = sg S.num.1 := wrap64_sg HX.out.rd.ok.num.2.1
        unfold Gave at PT
        obtain ⟨⟨tt, S2⟩, hTT⟩ : ∃ p, S.num = p := ⟨_, rfl⟩
        rw [hTT] at PT HN hwn
        simp only at PT HN hwn
        clear hTT
        obtain ⟨uu, huu⟩ : ∃ u, u = sg tt := ⟨_, rfl⟩
        rw [← huu] at HN hwn
        clear huu
        go_wp2_with fail
        refine (PT.out _ HX.out.rd).mono ?_
        rintro e wn ⟨rfl, htn⟩
        have HN1 := Lib.hid (HX.out.turn htn)
        clear htn PT HX
        obtain ⟨x0, x1, x2, x3, x4, x5, x6, x7, x8⟩ := HN1.out.bx.facts
        obtain ⟨y_0, y_1, y_2, y_3, y_4, y_5, y_6, y_7, y_8⟩ := HN1.out.bx.free
        simp only at x0 x1 x2 x3 x4 x5 x6 x7 x8
        have HN2 := Lib.hid (HN1.out.put (j := 8) (u := .int .i64 uu) ⟨qi, qop, qt, qk, qv, qo, qn, qp, uu⟩)
        go_wp2_with fail
        go_roundw
        case rel => exact ⟨j + 1, by omega, by go_num, by rw [HN.out]; exact HN2.out⟩
        case measure => simp [intOf]; omega
      · have e84 : ((U[j].toNat : Int) == 84) = false := by rw [hc]; rfl
        have e75 : ((U[j].toNat : Int) == 75) = false := by rw [hc]; rfl
        have e86 : ((U[j].toNat : Int) == 86) = false := by rw [hc]; rfl
        have e79 : ((U[j].toNat : Int) == 79) = false := by rw [hc]; rfl
        have e78 : ((U[j].toNat : Int) == 78) = false := by rw [hc]; rfl
        have e80 : ((U[j].toNat : Int) == 80) = false := by rw [hc]; rfl
        have e83 : ((U[j].toNat : Int) == 83) = false := by rw [hc]; rfl
        have HN : Hid ((LL.take (j + 1)).foldl rdL (s3, ⟨ii, op, ⟨#[]⟩, ⟨#[]⟩, ⟨#[]⟩, 0, 0, 0, 0⟩) = (S, ⟨qi, qop, qt, qk, qv, qo, qn, qp, qs⟩)) := Lib.hid (by rw [HST.out, hc]; rfl)
        clear hc
        go_wp2_with fail
        go_roundw
        case rel => exact ⟨j + 1, by omega, by go_num, by rw [HN.out]; exact HX.out⟩
        case measure => simp [intOf]; omega
    · have hj2 : j = U.size := by omega
      have i2 : ¬ (j : Int) < (U.size : Int) := by omega
      have hall : (LL.take j) = LL := List.take_of_length_le (by have := HUL.out; omega)
      rw [hall, ← HRR.out] at hx
      have HX := Lib.hid hx
      clear hall hlt hj hj2 HLET hx HRR HSB HUL
      obtain ⟨qi, qop, qt, qk, qv, qo, qn, qp, qs⟩ := R
      unfold Rq.V at PE
      simp only at PE
      obtain ⟨x0, x1, x2, x3, x4, x5, x6, x7, x8⟩ := HX.out.bx.facts
      simp only at x0 x1 x2 x3 x4 x5 x6 x7 x8
      cases hok : okq ⟨qi, qop, qt, qk, qv, qo, qn, qp, qs⟩ with
      | true =>
        have hre : renq ⟨qi, qop, qt, qk, qv, qo, qn, qp, qs⟩ = (wrap 197 (bdyq ⟨qi, qop, qt, qk, qv, qo, qn, qp, qs⟩), 0) := if_pos hok
        have hYl := bdyq_len (okq_may.1 hok) HOKR.out
        obtain ⟨Y, hY⟩ : ∃ Y, Y = wrap 197 (bdyq ⟨qi, qop, qt, qk, qv, qo, qn, qp, qs⟩) := ⟨_, rfl⟩
        have hYl2 : Y.length ≤ 1180 := by rw [hY, wrap_length]; omega
        rw [hre, ← hY] at PE
        rw [← hY] at HD
        unfold FramePost at PE
        simp only at PE
        by_cases hYb : Y = b
        · have HQD : Hid (D = (⟨qi, qop, qt, qk, qv, qo, qn, qp, qs⟩, 0)) := Lib.hid (by rw [HD.out, if_pos ⟨hok, hYb⟩])
          have HYB := Lib.hid hYb
          clear hok hre hYl hY HD hYb
          go_wp2_with fail
          refine (PE.out _).mono ?_
          rintro e w8 ⟨A8, c8, rfl, ho8, hb8⟩
          have HX8 := Lib.hid (HX.out.below hb8)
          have HO8 := Lib.hid (rd_own ho8)
          clear ho8 hb8 HX PE x0 x1 x2 x3 x4 x5 x6 x7 x8
          go_wp2_with fail
          refine (r16same_yes A8 A Y.length n c8 c Y b _ HO8.out (HR0.out.below (HB1.out.trans (HX8.out.be.mono HB1.out.size))) rfl HN.out (by omega) (by omega) HYB.out).mono ?_
          rintro e w9 ⟨rfl, k9, rfl⟩
          have HX9 := Lib.hid (HX8.out.below (below_drewN (Below.refl w8.heap.size w8) k9))
          clear HX8 HO8
          obtain ⟨x0, x1, x2, x3, x4, x5, x6, x7, x8⟩ := HX9.out.bx.facts
          simp only at x0 x1 x2 x3 x4 x5 x6 x7 x8
          have HZZ := Lib.hid (HZ.out.below HX9.out.be hgz)
          obtain ⟨z0, z1, z2, z3, z4, z5, z6, z7, z8⟩ := HZZ.out.facts
          obtain ⟨r0, r1, r2, r3, r4, r5, r6, r7, r8⟩ := HZZ.out.free
          simp only [rq0] at z0 z1 z2 z3 z4 z5 z6 z7 z8
          have HW9 := Lib.hid (below_w9 (r := w.heap.size) ⟨qi, qop, qt, qk, qv, qo, qn, qp, qs⟩ (HB1.out.trans (HX9.out.be.mono HB1.out.size)) (Nat.le_refl _))
          generalize w8.drewN k9 = w10 at *
          go_wp2_with fail
          refine bodyPost_ret (v := .tuple #[.agg #[.int .u32 (qi : Int), .int .i64 qop, .string qt, .string qk, .string qv, .int .i64 qo, .int .i64 qn, .int .i64 qp, .int .i64 qs], .int .i64 0]) (by simp [results, Tryd.results14, go_sem, z0, z1, z2, z3, z4, z5, z6, z7, z8]) rfl ⟨by rw [HQD.out]; rfl, ?_⟩
          exact HW9.out
        · have HQD : Hid (D = (rq0, 161)) := Lib.hid (by rw [HD.out, if_neg (fun h => hYb h.2)])
          have HYB := Lib.hid hYb
          clear hok hre hYl hY HD hYb
          go_wp2_with fail
          refine (PE.out _).mono ?_
          rintro e w8 ⟨A8, c8, rfl, ho8, hb8⟩
          have HX8 := Lib.hid (HX.out.below hb8)
          have HO8 := Lib.hid (rd_own ho8)
          clear ho8 hb8 HX PE x0 x1 x2 x3 x4 x5 x6 x7 x8
          go_wp2_with fail
          refine (r16same_no A8 A Y.length n c8 c Y b _ HO8.out (HR0.out.below (HB1.out.trans (HX8.out.be.mono HB1.out.size))) rfl HN.out (by omega) (by omega) HYB.out).mono ?_
          rintro e w9 ⟨rfl, k9, rfl⟩
          have HX9 := Lib.hid (HX8.out.below (below_drewN (Below.refl w8.heap.size w8) k9))
          clear HX8 HO8
          have HZZ := Lib.hid (HZ.out.below HX9.out.be hgz)
          have HW9 := Lib.hid (below_w9 (r := w.heap.size) rq0 (HB1.out.trans (HX9.out.be.mono HB1.out.size)) (Nat.le_refl _))
          generalize w8.drewN k9 = w10 at *
          obtain ⟨z0, z1, z2, z3, z4, z5, z6, z7, z8⟩ := HZZ.out.facts
          obtain ⟨r0, r1, r2, r3, r4, r5, r6, r7, r8⟩ := HZZ.out.free
          simp only [rq0] at z0 z1 z2 z3 z4 z5 z6 z7 z8
          go_wp2_with fail
          refine bodyPost_ret (v := .tuple #[.agg #[.int .u32 0, .int .i64 0, .string ⟨#[]⟩, .string ⟨#[]⟩, .string ⟨#[]⟩, .int .i64 0, .int .i64 0, .int .i64 0, .int .i64 0], .int .i64 161]) (by simp [results, Tryd.results14, go_sem, z0, z1, z2, z3, z4, z5, z6, z7, z8]) rfl ⟨by rw [HQD.out]; rfl, ?_⟩
          exact HW9.out
      | false =>
        have HQD : Hid (D = (rq0, 161)) := Lib.hid (by rw [HD.out, if_neg (fun h => by rw [hok] at h; exact absurd h.1 (by decide))])
        have hre : renq ⟨qi, qop, qt, qk, qv, qo, qn, qp, qs⟩ = ([], 161) := if_neg (by rw [hok]; decide)
        rw [hre] at PE
        unfold FramePost at PE
        simp only at PE
        clear hok hre HD
        go_wp2_with fail
        refine (PE.out _).mono ?_
        rintro e w8 ⟨A8, c8, rfl, ho8, hb8⟩
        have HX8 := Lib.hid (HX.out.below hb8)
        clear ho8 hb8 HX PE x0 x1 x2 x3 x4 x5 x6 x7 x8
        have HZZ := Lib.hid (HZ.out.below HX8.out.be hgz)
        obtain ⟨z0, z1, z2, z3, z4, z5, z6, z7, z8⟩ := HZZ.out.facts
        obtain ⟨r0, r1, r2, r3, r4, r5, r6, r7, r8⟩ := HZZ.out.free
        simp only [rq0] at z0 z1 z2 z3 z4 z5 z6 z7 z8
        go_wp2_with fail
        refine bodyPost_ret (v := .tuple #[.agg #[.int .u32 0, .int .i64 0, .string ⟨#[]⟩, .string ⟨#[]⟩, .string ⟨#[]⟩, .int .i64 0, .int .i64 0, .int .i64 0, .int .i64 0], .int .i64 161]) (by simp [results, Tryd.results14, go_sem, z0, z1, z2, z3, z4, z5, z6, z7, z8]) rfl ⟨by rw [HQD.out]; rfl, ?_⟩
        exact below_w9 rq0 (HB1.out.trans (HX8.out.be.mono HB1.out.size)) (Nat.le_refl _)
set_option maxRecDepth 100000 in
theorem rdecodeq_is (A : Option Addr) (n c : Nat) (b : List Nat) (w : World) (hr : Rd w A (b8 b)) (hn : b.length = n) (hnc : n ≤ c) (hby : By b) (hl : n ≤ 140737488351232) :
    Calls Tryd.prog 14 #[.slice A n c] w (DecQ w (decq b)) := by
  rw [← decq_eq hby (by omega)]
  by_cases h : (bd b).2 = 0
  · exact rdecodeq_body A n c b w hr hn hnc hby hl h
  · exact rdecodeq_noBody A n c b w hr hn hnc hby hl h
end Go.Proofs.YtljfmcgeiceagaaDoor
