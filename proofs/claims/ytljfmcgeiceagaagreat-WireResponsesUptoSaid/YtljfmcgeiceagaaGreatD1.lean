/- Several texts in one: RecRd, RecRead, RecRRead. -/
import Derived.Test.YtljfmcgeiceagaaGreatX6
import Derived.Test.YtljfmcgeiceagaaGreatX2
import Derived.Test.YtljfmcgeiceagaaGreatRR
import Derived.Deep.CutRange
import Derived.Deep.RegionWith
import Derived.Deep.RegionHeld3
/- Reading a record's body: what is carried. -/
namespace Go.Proofs.YtljfmcgeiceagaaGreat
open Go Go.RowKit
set_option linter.unusedVariables false
set_option linter.unusedSimpArgs false

theorem n63_hi {s : Rs} (h : 9223372036854775808 ≤ s.num.1) : n63 s = (sg s.num.1, s.num.2.fail 41) := by unfold n63; rw [if_pos h]
theorem n63_lo {s : Rs} (h : ¬ 9223372036854775808 ≤ s.num.1) : n63 s = (sg s.num.1, s.num.2) := by unfold n63; rw [if_neg h]
theorem wrap64_sg {n : Nat} (h : n < 18446744073709551616) : wrap64 (n : Int) = sg n := by
  unfold wrap64 sg
  split <;> omega
set_option maxRecDepth 100000 in
theorem number_is (base g : Nat) (v : Value) (s : Rs) (w : World) (h : Rdr base w 88 Rs.cells g v s) :
    Calls Tryz.prog 101 #[.pointer (some ⟨g, 0, none⟩)] w (Gave base w 88 Rs.cells g v (.int .i64 (n63 s).1) (n63 s).2) := by
  have P1 := Lib.hid (uv_r base g v s w h)
  have hz := h.ok.num.2.1
  have HW : Hid (wrap64 (s.num.1 : Int) = sg s.num.1) := Lib.hid (wrap64_sg hz)
  by_cases hb : 9223372036854775808 ≤ s.num.1
  · rw [n63_hi hb]
    have PF := Lib.hid (fun W (h : Rdr base W 88 Rs.cells g v s.num.2) => fail_is base g v s.num.2 41 W h (by omega))
    obtain ⟨z, hzz⟩ : ∃ z, z = s.num.1 := ⟨_, rfl⟩
    obtain ⟨s2, hs2⟩ : ∃ s2, s2 = s.num.2 := ⟨_, rfl⟩
    rw [← hzz, ← hs2] at P1
    rw [← hs2] at PF ⊢
    rw [← hzz] at HW hb hz ⊢
    unfold Gave at P1 ⊢
    unfold Step0 at PF
    clear hzz hs2 h
    have hb2 : decide ((9223372036854775808 : Int) ≤ (z : Int)) = true := by rw [decide_eq_true_eq]; omega
    clear hb hz
    obtain ⟨u, hu⟩ : ∃ u, u = sg z := ⟨_, rfl⟩
    rw [← hu] at HW ⊢
    go_enter Tryz.func101, Tryz.ntmps101
    go_wp2_with fail
    refine P1.out.mono ?_
    rintro e w1 ⟨rfl, ht1⟩
    have HT1 := Lib.hid ht1
    clear ht1
    go_wp2_with fail
    refine (PF.out w1 HT1.out.rd).mono ?_
    rintro e w2 ⟨rfl, ht2⟩
    have HT2 := Lib.hid (HT1.out.then ht2)
    clear ht2
    go_wp2_with fail
    go_ret
    exact ⟨ret_i HW.out, HT2.out⟩
  · rw [n63_lo hb]
    obtain ⟨z, hzz⟩ : ∃ z, z = s.num.1 := ⟨_, rfl⟩
    obtain ⟨s2, hs2⟩ : ∃ s2, s2 = s.num.2 := ⟨_, rfl⟩
    rw [← hzz, ← hs2] at P1
    rw [← hs2]
    rw [← hzz] at HW hb hz ⊢
    unfold Gave at P1 ⊢
    clear hzz hs2 h
    have hb2 : decide ((9223372036854775808 : Int) ≤ (z : Int)) = false := by rw [decide_eq_false_iff_not]; omega
    clear hb hz
    obtain ⟨u, hu⟩ : ∃ u, u = sg z := ⟨_, rfl⟩
    rw [← hu] at HW ⊢
    go_enter Tryz.func101, Tryz.ntmps101
    go_wp2_with fail
    refine P1.out.mono ?_
    rintro e w1 ⟨rfl, ht1⟩
    have HT1 := Lib.hid ht1
    clear ht1
    go_wp2_with fail
    go_ret
    exact ⟨ret_i HW.out, HT1.out⟩

theorem RBox.lt {W : World} {g : Nat} {x : Rc} (h : RBox W g x) : g < W.heap.size := lt_of_block h
theorem RBox.free {W : World} {g : Nat} {x : Rc} (h : RBox W g x) : W.frozen? ⟨g, 0, none⟩ = false ∧ W.frozen? ⟨g, 1, none⟩ = false ∧ W.frozen? ⟨g, 2, none⟩ = false ∧ W.frozen? ⟨g, 3, none⟩ = false ∧ W.frozen? ⟨g, 4, none⟩ = false ∧ W.frozen? ⟨g, 5, none⟩ = false ∧ W.frozen? ⟨g, 6, none⟩ = false := by
  unfold RBox at h
  refine ⟨?_, ?_, ?_, ?_, ?_, ?_, ?_⟩ <;> simp [World.frozen?, h]
theorem RBox.put {W : World} {g j : Nat} {x x' : Rc} {u : Value} (h : RBox W g x) (hx : (#[.int .i64 x.k, .int .i64 x.o, .int .i64 x.t, .int .i64 x.p, .int .i64 x.s, .string x.key, .string x.val] : Array Value).setIfInBounds j u = #[.int .i64 x'.k, .int .i64 x'.o, .int .i64 x'.t, .int .i64 x'.p, .int .i64 x'.s, .string x'.key, .string x'.val]) : RBox (W.setCell ⟨g, j, none⟩ u) g x' := by
  have := set1 (j := j) (u := u) h
  rw [hx] at this
  exact this
/-- A reader, and a record's box beside it. -/
structure RdB (w0 W : World) (T : TypeId) (cf : Rs → Value → Array Value) (g : Nat) (v : Value) (s : Rs) (b : Nat) (x : Rc) : Prop where
  rd : Rdr w0.heap.size W T cf g v s
  bx : RBox W b x
  bb : w0.heap.size ≤ b
  ng : b ≠ g
  nv : ∀ q, v.ownBlock = some q → q ≠ b
  be : Below w0.heap.size w0 W
section
variable {w0 W W' : World} {T : TypeId} {cf : Rs → Value → Array Value} {g : Nat} {v : Value} {s s' : Rs} {b : Nat} {x x' : Rc}
theorem RdB.turn (h : RdB w0 W T cf g v s b x) (ht : Turned w0.heap.size W T cf g v s' W') : RdB w0 W' T cf g v s' b x :=
  ⟨ht.rd, (ht.kept.block b h.bx.lt h.ng).trans h.bx, h.bb, h.ng, h.nv, h.be.trans (ht.low h.be.size)⟩
theorem RdB.below (h : RdB w0 W T cf g v s b x) (hb : Below W.heap.size W W') : RdB w0 W' T cf g v s b x :=
  ⟨h.rd.below hb, h.bx.below hb h.bx.lt, h.bb, h.ng, h.nv, h.be.trans (hb.mono h.be.size)⟩
theorem RdB.put {j : Nat} {u : Value} (h : RdB w0 W T cf g v s b x) (x' : Rc) (hx : (#[.int .i64 x.k, .int .i64 x.o, .int .i64 x.t, .int .i64 x.p, .int .i64 x.s, .string x.key, .string x.val] : Array Value).setIfInBounds j u = #[.int .i64 x'.k, .int .i64 x'.o, .int .i64 x'.t, .int .i64 x'.p, .int .i64 x'.s, .string x'.key, .string x'.val] := by rfl) : RdB w0 (W.setCell ⟨b, j, none⟩ u) T cf g v s b x' :=
  ⟨h.rd.keptS (kept1_set W b j u) (fun e => h.ng e.symm) (fun q hq e => h.nv q hq e), h.bx.put hx, h.bb, h.ng, h.nv, h.be.setCell h.bb _⟩
theorem RdB.new (h : Rdr w0.heap.size W T cf g v s) (hb : Below w0.heap.size w0 W) (x : Rc) : RdB w0 (W.alloc (.cells #[.int .i64 x.k, .int .i64 x.o, .int .i64 x.t, .int .i64 x.p, .int .i64 x.s, .string x.key, .string x.val] 43)) T cf g v s W.heap.size x :=
  ⟨h.below ((Below.refl _ _).alloc (Nat.le_refl _) _), RBox.new W x, hb.size, fun e => by have := h.lt; omega, fun q hq e => by have := (h.own.lt q hq).2; omega, hb.alloc hb.size _⟩
end
/-- A record stored into block r. -/
abbrev W7 (W : World) (r : Nat) (x : Rc) : World := ((((((W.setCell ⟨r, 0, none⟩ (.int .i64 x.k)).setCell ⟨r, 1, none⟩ (.int .i64 x.o)).setCell ⟨r, 2, none⟩ (.int .i64 x.t)).setCell ⟨r, 3, none⟩ (.int .i64 x.p)).setCell ⟨r, 4, none⟩ (.int .i64 x.s)).setCell ⟨r, 5, none⟩ (.string x.key)).setCell ⟨r, 6, none⟩ (.string x.val)
theorem RBox.w7 {W : World} {r : Nat} {y : Rc} (h : RBox W r y) (x : Rc) : RBox (W7 W r x) r x :=
  ((((((h.put (j := 0) (u := .int .i64 x.k) (x' := ⟨x.k, y.o, y.t, y.p, y.s, y.key, y.val⟩) rfl).put (j := 1) (u := .int .i64 x.o) (x' := ⟨x.k, x.o, y.t, y.p, y.s, y.key, y.val⟩) rfl).put (j := 2) (u := .int .i64 x.t) (x' := ⟨x.k, x.o, x.t, y.p, y.s, y.key, y.val⟩) rfl).put (j := 3) (u := .int .i64 x.p) (x' := ⟨x.k, x.o, x.t, x.p, y.s, y.key, y.val⟩) rfl).put (j := 4) (u := .int .i64 x.s) (x' := ⟨x.k, x.o, x.t, x.p, x.s, y.key, y.val⟩) rfl).put (j := 5) (u := .string x.key) (x' := ⟨x.k, x.o, x.t, x.p, x.s, x.key, y.val⟩) rfl).put (j := 6) (u := .string x.val) (x' := x) rfl
theorem kept7 (W : World) (r : Nat) (x : Rc) : Kept1 W (W7 W r x) r :=
  ((((((kept1_set W r 0 _).trans (kept1_set _ r 1 _) (fun q hq => .inl hq)).trans (kept1_set _ r 2 _) (fun q hq => .inl hq)).trans (kept1_set _ r 3 _) (fun q hq => .inl hq)).trans (kept1_set _ r 4 _) (fun q hq => .inl hq)).trans (kept1_set _ r 5 _) (fun q hq => .inl hq)).trans (kept1_set _ r 6 _) (fun q hq => .inl hq)
theorem RBox.kept {W W' : World} {g : Nat} {x : Rc} {S : Nat → Prop} (h : RBox W g x) (hk : KeptS W W' S) (hg : ¬ S g) : RBox W' g x := (hk.block g h.lt hg).trans h
/-- A record's box, and the result's. -/
structure RFin (w W : World) (b r : Nat) (x y : Rc) : Prop where
  bx : RBox W b x
  rx : RBox W r y
  ne : b ≠ r
  rb : w.heap.size ≤ r
  be : Below w.heap.size w W
theorem RFin.more {w W W' : World} {b r : Nat} {x y : Rc} (h : RFin w W b r x y) (hb : Below W.heap.size W W') : RFin w W' b r x y :=
  ⟨h.bx.below hb h.bx.lt, h.rx.below hb h.rx.lt, h.ne, h.rb, h.be.trans (hb.mono h.be.size)⟩
theorem RFin.drew {w W : World} {b r : Nat} {x y : Rc} (h : RFin w W b r x y) : RFin w W.drew b r x y := h.more (below_drewN (Below.refl _ _) 1)
theorem RFin.store {w W : World} {b r : Nat} {x y : Rc} (h : RFin w W b r x y) (z : Rc) : RFin w (W7 W r z) b r x z :=
  ⟨h.bx.kept (kept7 W r z) h.ne, h.rx.w7 z, h.ne, h.rb, h.be.trans ((kept7 W r z).below (fun q hq => by subst hq; exact h.rb) h.be.size)⟩
theorem RdB.fin {w W : World} {T : TypeId} {cf : Rs → Value → Array Value} {g : Nat} {v : Value} {s : Rs} {b : Nat} {x : Rc} (h : RdB (w.alloc (rcObj rc0)) W T cf g v s b x) : RFin w W b w.heap.size x rc0 :=
  ⟨h.bx, (RBox.new w rc0).below h.be (by simp), fun e => by have := h.bb; simp at this; omega, Nat.le_refl _, ((Below.refl w.heap.size w).alloc (Nat.le_refl _) _).trans (h.be.mono (by simp))⟩
end Go.Proofs.YtljfmcgeiceagaaGreat

/- The program reads a record's body. -/
namespace Go.Proofs.YtljfmcgeiceagaaGreat
open Go Go.RowKit
set_option linter.unusedVariables false
set_option linter.unusedSimpArgs false

theorem bits_one {f : Nat} (h : f < 256) : (bits .and .u8 (f : Int) 1 != 0) = decide (f % 2 = 1) := (by decide +kernel : ∀ x : Fin 256, (bits .and .u8 ((x.val : Nat) : Int) 1 != 0) = decide (x.val % 2 = 1)) ⟨f, h⟩
theorem bits_two {f : Nat} (h : f < 256) : (bits .and .u8 (f : Int) 2 != 0) = decide (f / 2 % 2 = 1) := (by decide +kernel : ∀ x : Fin 256, (bits .and .u8 ((x.val : Nat) : Int) 2 != 0) = decide (x.val / 2 % 2 = 1)) ⟨f, h⟩
theorem bits_four {f : Nat} (h : f < 256) : (bits .and .u8 (f : Int) 4 != 0) = decide (f / 4 % 2 = 1) := (by decide +kernel : ∀ x : Fin 256, (bits .and .u8 ((x.val : Nat) : Int) 4 != 0) = decide (x.val / 4 % 2 = 1)) ⟨f, h⟩
theorem bits_seven {f : Nat} (h : f < 256) : (bits .andNot .u8 (f : Int) 7 != 0) = decide (8 ≤ f) := (by decide +kernel : ∀ x : Fin 256, (bits .andNot .u8 ((x.val : Nat) : Int) 7 != 0) = decide (8 ≤ x.val)) ⟨f, h⟩
abbrev zrc : Obj := rcObj rc0
def ReadPost (w : World) (q : Option Rc) (e : Ending) (w' : World) : Prop :=
  ∃ x b, e = .returned (.tuple #[x.v, .bool b]) ∧ q = (if b = true then some x else none) ∧ Below w.heap.size w w'

set_option maxHeartbeats 4000000 in
set_option maxRecDepth 100000 in
theorem recread_is (A : Option Addr) (n c : Nat) (bs : List Nat) (w : World) (hr : Rd w A (b8 bs)) (hn : bs.length = n) (hby : By bs) (hl : n ≤ 1115) :
    Calls Tryz.prog 75 #[.slice A n c] w (ReadPost w (prd bs)) := by
  have PN := Lib.hid (fun W (h : Rd W A (b8 bs)) => newReader_is A n c bs W h hn hby (by omega))
  unfold Newed at PN
  have R0 := Lib.hid hr
  have ok0 := ok_new hby (by omega)
  obtain ⟨z, hz⟩ : ∃ z, z = (⟨bs, 0, 0, 0⟩ : Rs).take 1 := ⟨_, rfl⟩
  have okz : z.2.Ok := by rw [hz]; exact ok0.take 1
  have PB := Lib.hid (fun base g v W (h : Rdr base W 88 Rs.cells g v ⟨bs, 0, 0, 0⟩) => byte_r base g v ⟨bs, 0, 0, 0⟩ W h)
  rw [← hz] at PB
  have hQ : prd bs = prd1 (z.1.headD 0) z.2 := by unfold prd; rw [hz]
  have hf8 : z.1.headD 0 < 256 := by
    have hb : By z.1 := by rw [hz]; exact Rs.take_by ok0 1
    cases h1 : z.1 with
    | nil => simp
    | cons y r => exact hb y (by rw [h1]; simp)
  obtain ⟨f, hf⟩ : ∃ f, f = z.1.headD 0 := ⟨_, rfl⟩
  obtain ⟨s1, hs1⟩ : ∃ s1, s1 = z.2 := ⟨_, rfl⟩
  rw [← hf, ← hs1] at PB hQ
  rw [← hf] at hf8
  rw [← hs1] at okz
  clear hz hf hs1 hr hn hby
  unfold Gave at PB
  obtain ⟨⟨a1, s2⟩, hA⟩ : ∃ a, n63 s1 = a := ⟨_, rfl⟩
  obtain ⟨⟨b1, s3⟩, hB⟩ : ∃ a, n63 s2 = a := ⟨_, rfl⟩
  obtain ⟨⟨c1, s4⟩, hC⟩ : ∃ a, pst (f / 4 % 2 = 1) s3 = a := ⟨_, rfl⟩
  obtain ⟨⟨d1, s5⟩, hD⟩ : ∃ a, pst (f / 4 % 2 = 1) s4 = a := ⟨_, rfl⟩
  obtain ⟨⟨k1, s6⟩, hK⟩ : ∃ a, s5.text 64 = a := ⟨_, rfl⟩
  obtain ⟨⟨v1, s7⟩, hV⟩ : ∃ a, s6.take (s6.rest : Nat) = a := ⟨_, rfl⟩
  have ok2 : s2.Ok := by have := n63_ok okz; rw [hA] at this; exact this
  have ok3 : s3.Ok := by have := n63_ok ok2; rw [hB] at this; exact this
  have ok4 : s4.Ok := by have := pst_ok (pr := f / 4 % 2 = 1) ok3; rw [hC] at this; exact this
  have ok5 : s5.Ok := by have := pst_ok (pr := f / 4 % 2 = 1) ok4; rw [hD] at this; exact this
  have ok6 : s6.Ok ∧ By k1 := by have := ok5.text 64; rw [hK] at this; exact this
  have ok7 : By v1 ∧ v1.length ≤ 140737488351232 := by have h1 := Rs.take_by ok6.1 (s6.rest : Nat); have h2 := Rs.take_len s6 ok6.1 (s6.rest : Nat); rw [hV] at h1 h2; exact ⟨h1, h2⟩
  have HQ : Hid (prd bs = if 8 ≤ f ∨ s7.fin.1 ≠ 0 ∨ (f / 4 % 2 = 1 ∧ c1 = 0) then none else pfin f a1 b1 c1 d1 k1 v1) := Lib.hid (by
    rw [hQ]
    unfold prd1
    simp only [hA, hB, hC, hD, hK, hV])
  obtain ⟨q, hq⟩ : ∃ q, q = prd bs := ⟨_, rfl⟩
  rw [← hq] at HQ ⊢
  clear hq hQ
  have HT := Lib.hid ((Below.refl w.heap.size w).alloc (Nat.le_refl _) zrc)
  have F1 := bits_one hf8
  have F2 := bits_two hf8
  have F4 := bits_four hf8
  have F7 := bits_seven hf8
  have PNm := Lib.hid (fun base g v s W (h : Rdr base W 88 Rs.cells g v s) => number_is base g v s W h)
  unfold Gave at PNm
  go_enter Tryz.func75, Tryz.ntmps75
  go_wp2_with fail
  refine (PN.out _ (R0.out.below HT.out)).mono ?_
  rintro e w1 ⟨g, v, rfl, hr1, hb1⟩
  have HR1 := Lib.hid hr1
  have HB1 := Lib.hid hb1
  clear hr1 hb1
  go_wp2_with fail
  refine (PB.out _ g v w1 HR1.out).mono ?_
  rintro e w2 ⟨rfl, ht2⟩
  have HR2 := Lib.hid ht2.rd
  have HB2 := Lib.hid (HB1.out.trans (ht2.low HB1.out.size))
  clear ht2 HR1 HB1
  have HK : Hid (∀ b : Bool, b = decide (f % 2 = 1) → (if f % 2 = 1 then (2 : Int) else 1) = if b = true then 2 else 1) := Lib.hid (fun b hb => by subst hb; simp only [decide_eq_true_eq])
  obtain ⟨K, hK2⟩ : ∃ K : Int, K = if f % 2 = 1 then 2 else 1 := ⟨_, rfl⟩
  have HRZ : Hid (∀ W, Below (w.alloc zrc).heap.size (w.alloc zrc) W → RBox W w.heap.size rc0) := Lib.hid (fun W h => (RBox.new w rc0).below h (by simp))
  go_upto_if 19 with (fail)
  go_cut [] from 12 (fun wx => RdB (w.alloc zrc) wx 88 Rs.cells g v s1 w2.heap.size ⟨K, 0, 0, 0, 0, ⟨#[]⟩, ⟨#[]⟩⟩)
  case first =>
    have HX := Lib.hid (RdB.new HR2.out HB2.out ⟨1, 0, 0, 0, 0, ⟨#[]⟩, ⟨#[]⟩⟩)
    by_cases h1 : f % 2 = 1
    · rw [decide_eq_true h1] at F1
      rw [if_pos h1] at hK2
      subst hK2
      go_wp2_with fail
      go_meet
      case rel => exact RdB.new HR2.out HB2.out ⟨2, 0, 0, 0, 0, ⟨#[]⟩, ⟨#[]⟩⟩
    · rw [decide_eq_false h1] at F1
      rw [if_neg h1] at hK2
      subst hK2
      go_wp2_with fail
      go_meet
      case rel => exact HX.out
  case' rest => have H2 := Lib.hid hcut; clear hcut HR2 HB2 F1
  obtain ⟨x0, x1, x2, x3, x4, x5, x6⟩ := H2.out.bx.facts
  simp only at x0 x1 x2 x3 x4 x5 x6
  obtain ⟨y0, y1, y2, y3, y4, y5, y6⟩ := H2.out.bx.free
  clear x0 x1 x2 x3 x4 x5 x6 y0 y1 y2 y3 y4 y5 y6
  go_wp2_with fail
  refine (PNm.out _ g v s1 wc H2.out.rd).mono ?_
  rw [hA]
  rintro e w3 ⟨rfl, ht3⟩
  have H3 := Lib.hid (H2.out.turn ht3)
  clear ht3 H2
  obtain ⟨_, x1, _, _, _, _, _⟩ := H3.out.bx.facts
  obtain ⟨_, y1, _, _, _, _, _⟩ := H3.out.bx.free
  simp only at x1
  have H3' := Lib.hid (H3.out.put (j := 1) (u := .int .i64 a1) ⟨K, a1, 0, 0, 0, ⟨#[]⟩, ⟨#[]⟩⟩)
  go_wp2_with fail
  refine (PNm.out _ g v s2 _ H3'.out.rd).mono ?_
  rw [hB]
  rintro e w4 ⟨rfl, ht4⟩
  have H4 := Lib.hid (H3'.out.turn ht4)
  clear ht4 H3 H3' x1 y1
  obtain ⟨_, _, x2, _, _, _, _⟩ := H4.out.bx.facts
  obtain ⟨_, _, y2, _, _, _, _⟩ := H4.out.bx.free
  simp only at x2
  have H4' := Lib.hid (H4.out.put (j := 2) (u := .int .i64 b1) ⟨K, a1, b1, 0, 0, ⟨#[]⟩, ⟨#[]⟩⟩)
  go_upto_if 29 with (fail)
  go_cut [] from 12 (fun wx => RdB (w.alloc zrc) wx 88 Rs.cells g v s5 w2.heap.size ⟨K, a1, b1, c1, d1, ⟨#[]⟩, ⟨#[]⟩⟩)
  case first =>
    clear x2 y2
    by_cases h4 : f / 4 % 2 = 1
    · rw [decide_eq_true h4] at F4
      rw [pst_yes h4] at hC hD
      go_wp2_with fail
      refine (PNm.out _ g v s3 _ H4'.out.rd).mono ?_
      rw [hC]
      rintro e w5 ⟨rfl, ht5⟩
      have H5 := Lib.hid (H4'.out.turn ht5)
      clear ht5 H4 H4'
      obtain ⟨_, _, _, x3, _, _, _⟩ := H5.out.bx.facts
      obtain ⟨_, _, _, y3, _, _, _⟩ := H5.out.bx.free
      simp only at x3
      have H5' := Lib.hid (H5.out.put (j := 3) (u := .int .i64 c1) ⟨K, a1, b1, c1, 0, ⟨#[]⟩, ⟨#[]⟩⟩)
      go_wp2_with fail
      refine (PNm.out _ g v s4 _ H5'.out.rd).mono ?_
      rw [hD]
      rintro e w6 ⟨rfl, ht6⟩
      have H6 := Lib.hid (H5'.out.turn ht6)
      clear ht6 H5 H5' x3 y3
      obtain ⟨_, _, _, _, x4, _, _⟩ := H6.out.bx.facts
      obtain ⟨_, _, _, _, y4, _, _⟩ := H6.out.bx.free
      simp only at x4
      have H6' := Lib.hid (H6.out.put (j := 4) (u := .int .i64 d1) ⟨K, a1, b1, c1, d1, ⟨#[]⟩, ⟨#[]⟩⟩)
      go_wp2_with fail
      go_meet
      case rel => exact H6'.out
    · rw [decide_eq_false h4] at F4
      rw [pst_no h4] at hC hD
      injection hC with e1 e2
      subst e1 e2
      injection hD with e1 e2
      subst e1 e2
      go_wp2_with fail
      go_meet
      case rel => exact H4'.out
  case' rest => have H7 := Lib.hid hcut; clear hcut H4 H4' x2 y2
  have PT := Lib.hid (fun W (h : Rdr (w.alloc zrc).heap.size W 88 Rs.cells g v s5) => text_r (w.alloc zrc).heap.size g v s5 64 W h (by omega))
  rw [hK] at PT
  go_wp2_with fail
  refine (PT.out _ H7.out.rd).mono ?_
  rintro e w7 ⟨rfl, ht7⟩
  have H8 := Lib.hid (H7.out.turn ht7)
  clear ht7 H7
  obtain ⟨_, _, _, _, _, x5, _⟩ := H8.out.bx.facts
  obtain ⟨_, _, _, _, _, y5, _⟩ := H8.out.bx.free
  simp only at x5
  have H8' := Lib.hid (H8.out.put (j := 5) (u := .string (strOf k1)) ⟨K, a1, b1, c1, d1, strOf k1, ⟨#[]⟩⟩)
  go_wp2_with fail
  refine (rest_is _ g v s6 _ H8'.out.rd).mono ?_
  rintro e w8 ⟨rfl, m8, rfl⟩
  have H9 := Lib.hid (H8'.out.below (below_drewN (Below.refl _ _) m8))
  clear x5 y5 H8 H8'
  have PR := Lib.hid (fun W (h : Rdr (w.alloc zrc).heap.size W 88 Rs.cells g v s6) => raw_r (w.alloc zrc).heap.size g v s6 (s6.rest : Nat) W h)
  rw [hV] at PR
  go_wp2_with fail
  refine (PR.out _ H9.out.rd).mono ?_
  rintro e w9 ⟨A9, c9, rfl, ho9, ht9⟩
  have H10 := Lib.hid (H9.out.turn ht9)
  have R10 := Lib.hid (rd_own ho9)
  clear ho9 ht9 H9
  have PD := Lib.hid (fun W (h : Rdr (w.alloc zrc).heap.size W 88 Rs.cells g v s7) => end_r (w.alloc zrc).heap.size g v s7 W h)
  obtain ⟨⟨u1, u2⟩, hU⟩ : ∃ p, s7.fin = p := ⟨_, rfl⟩
  rw [hU] at PD HQ
  simp only at PD HQ
  clear hA hB hC hD hK hV hU PT PR PNm PB PN
  obtain ⟨bd, hbd⟩ : ∃ bd : Bool, decide (8 ≤ f ∨ u1 ≠ 0 ∨ (f / 4 % 2 = 1 ∧ c1 = 0)) = bd := ⟨_, rfl⟩
  have HBD := Lib.hid hbd
  clear hbd
  have hfld := fun W => run_field0 u1 ((u2 : Nat) : Int) W
  go_upto_region 13 with (fail)
  go_cut [61] from 12 (fun s61 wx => s61 = .bool bd ∧ RdB (w.alloc zrc) wx 88 Rs.cells g v s7 w2.heap.size ⟨K, a1, b1, c1, d1, strOf k1, ⟨#[]⟩⟩ ∧ Rd wx A9 (b8 v1))
  case first =>
    by_cases h8 : 8 ≤ f
    · rw [decide_eq_true h8] at F7
      go_wp2_with fail
      go_meet
      case rel => exact ⟨congrArg Value.bool ((decide_eq_true (.inl h8)).symm.trans HBD.out), H10.out, R10.out⟩
    · rw [decide_eq_false h8] at F7
      by_cases hu : u1 = 0
      · have hu' : (u1 != 0) = false := by rw [bne_eq_false_iff_eq]; exact hu
        by_cases h4 : f / 4 % 2 = 1
        · rw [decide_eq_true h4] at F4
          by_cases hc : c1 = 0
          · have hc' : (c1 == 0) = true := by rw [beq_iff_eq]; exact hc
            have hD : Hid (decide (8 ≤ f ∨ u1 ≠ 0 ∨ (f / 4 % 2 = 1 ∧ c1 = 0)) = true) := Lib.hid (decide_eq_true (.inr (.inr ⟨h4, hc⟩)))
            clear h4 hu hc
            go_wp2_with fail
            refine (PD.out _ H10.out.rd).mono ?_
            rintro e w11 ⟨rfl, hb11⟩
            have H11 := Lib.hid (H10.out.below hb11); have R11 := Lib.hid (R10.out.below hb11)
            clear hb11
            obtain ⟨_, _, _, x3, _, _, _⟩ := H11.out.bx.facts
            simp only at x3
            go_wp2_with fail
            go_meet
            case rel => exact ⟨congrArg Value.bool (hD.out.symm.trans HBD.out), H11.out, R11.out⟩
          · have hc' : (c1 == 0) = false := by rw [beq_eq_false_iff_ne]; exact hc
            have hD : Hid (decide (8 ≤ f ∨ u1 ≠ 0 ∨ (f / 4 % 2 = 1 ∧ c1 = 0)) = false) := Lib.hid (decide_eq_false (fun h => h.elim h8 (fun h => h.elim (fun h => h hu) (fun h => hc h.2))))
            clear h4 hu hc
            go_wp2_with fail
            refine (PD.out _ H10.out.rd).mono ?_
            rintro e w11 ⟨rfl, hb11⟩
            have H11 := Lib.hid (H10.out.below hb11); have R11 := Lib.hid (R10.out.below hb11)
            clear hb11
            obtain ⟨_, _, _, x3, _, _, _⟩ := H11.out.bx.facts
            simp only at x3
            go_wp2_with fail
            go_meet
            case rel => exact ⟨congrArg Value.bool (hD.out.symm.trans HBD.out), H11.out, R11.out⟩
        · rw [decide_eq_false h4] at F4
          have hD : Hid (decide (8 ≤ f ∨ u1 ≠ 0 ∨ (f / 4 % 2 = 1 ∧ c1 = 0)) = false) := Lib.hid (decide_eq_false (fun h => h.elim h8 (fun h => h.elim (fun h => h hu) (fun h => h4 h.1))))
          clear h4 hu
          go_wp2_with fail
          refine (PD.out _ H10.out.rd).mono ?_
          rintro e w11 ⟨rfl, hb11⟩
          have H11 := Lib.hid (H10.out.below hb11); have R11 := Lib.hid (R10.out.below hb11)
          clear hb11
          go_wp2_with fail
          go_meet
          case rel => exact ⟨congrArg Value.bool (hD.out.symm.trans HBD.out), H11.out, R11.out⟩
      · have hu' : (u1 != 0) = true := by rw [bne_iff_ne]; exact hu
        have hD : Hid (decide (8 ≤ f ∨ u1 ≠ 0 ∨ (f / 4 % 2 = 1 ∧ c1 = 0)) = true) := Lib.hid (decide_eq_true (.inr (.inl hu)))
        clear hu
        go_wp2_with fail
        refine (PD.out _ H10.out.rd).mono ?_
        rintro e w11 ⟨rfl, hb11⟩
        have H11 := Lib.hid (H10.out.below hb11); have R11 := Lib.hid (R10.out.below hb11)
        clear hb11
        go_wp2_with fail
        go_meet
        case rel => exact ⟨congrArg Value.bool (hD.out.symm.trans HBD.out), H11.out, R11.out⟩
  case' rest => obtain ⟨rfl, hcut, hrc⟩ := hcut; have H11 := Lib.hid hcut; have R11 := Lib.hid hrc; clear hcut hrc H10 R10 F4 F7 PD hfld
  cases bd with
  | true =>
    have HQN : Hid (q = none) := Lib.hid (HQ.out.trans (if_pos (of_decide_eq_true HBD.out)))
    obtain ⟨z0, z1, z2, z3, z4, z5, z6⟩ := H11.out.fin.rx.facts
    obtain ⟨r0, r1, r2, r3, r4, r5, r6⟩ := H11.out.fin.rx.free
    simp only [rc0] at z0 z1 z2 z3 z4 z5 z6
    go_wp2_with fail
    refine bodyPost_ret (v := .tuple #[.agg #[.int .i64 0, .int .i64 0, .int .i64 0, .int .i64 0, .int .i64 0, .string ⟨#[]⟩, .string ⟨#[]⟩], .bool false]) (by simp [results, Tryz.results75, go_sem, z0, z1, z2, z3, z4, z5, z6]) rfl ⟨rc0, false, rfl, HQN.out, ?_⟩
    exact (H11.out.fin.store rc0).be
  | false =>
    have HQ2 : Hid (q = pfin f a1 b1 c1 d1 k1 v1) := Lib.hid (HQ.out.trans (if_neg (of_decide_eq_false HBD.out)))
    clear HQ HBD
    obtain ⟨⟨t, te⟩, hT⟩ : ∃ p, (if f / 2 % 2 = 1 then dec v1 else (v1, 0)) = p := ⟨_, rfl⟩
    have hTB : By t ∧ t.length ≤ 140737488351232 := by
      by_cases h2 : f / 2 % 2 = 1
      · rw [if_pos h2] at hT
        rcases dec_cases ok7.1 ok7.2 with hd | ⟨u, hd, _, hu4, hu⟩
        · rw [hd] at hT
          injection hT with e1 e2
          rw [← e1]
          exact ⟨fun b hb => (by cases hb), by simp⟩
        · rw [hd] at hT
          injection hT with e1 e2
          rw [← e1]
          exact ⟨hu, by omega⟩
      · rw [if_neg h2] at hT
        injection hT with e1 e2
        rw [← e1]
        exact ok7
    obtain ⟨⟨ys, sm⟩, hS⟩ : ∃ p, shrt t = p := ⟨_, rfl⟩
    have HQ3 : Hid (q = if te ≠ 0 then none else if sm ≠ decide (f / 2 % 2 = 1) then none else if chk ⟨K, a1, b1, c1, d1, strOf k1, strOf t⟩ = 0 then some ⟨K, a1, b1, c1, d1, strOf k1, strOf t⟩ else none) := Lib.hid (by
      rw [HQ2.out]
      unfold pfin
      rw [hT]
      simp only
      rw [hS, hK2])
    have PS := Lib.hid (fun W => short_is (strOf t) (ys, sm) (by rw [sb_strOf hTB.1]; exact hS) W (by rw [strOf_size]; exact hTB.2))
    clear HQ2 hK2 hS HK HRZ
    go_upto_if 65 with (fail)
    go_cut [7, 8, 9] from 12 (fun s7' s8 s9 wx => te = 0 ∧ (∃ A' c', s7' = .slice A' t.length c' ∧ Rd wx A' (b8 t)) ∧ RdB (w.alloc zrc) wx 88 Rs.cells g v s7 w2.heap.size ⟨K, a1, b1, c1, d1, strOf k1, ⟨#[]⟩⟩)
    case first =>
      by_cases h2 : f / 2 % 2 = 1
      · rw [if_pos h2] at hT
        have hd2 := decide_eq_true h2
        have PDc := Lib.hid (decode_is A9 v1.length c9 v1 wc R11.out rfl ok7.1 ok7.2)
        rw [hT] at PDc
        by_cases hte : te = 0
        · subst hte
          clear hT
          go_wp2_with fail
          refine PDc.out.mono ?_
          rintro e w12 ⟨A12, c12, rfl, ho12, hb12⟩
          simp only at ho12 ⊢
          have H12 := Lib.hid (H11.out.below hb12)
          have R12 := Lib.hid (rd_own ho12)
          clear ho12 hb12
          go_wp2_with fail
          go_meet
          case rel => exact ⟨(by first | trivial | rfl), ⟨A12, c12, rfl, R12.out⟩, H12.out⟩
        · have HQN : Hid (q = none) := Lib.hid (HQ3.out.trans (if_pos hte))
          have hte' : (te != 0) = true := by rw [bne_iff_ne]; exact hte
          clear hT hte
          go_wp2_with fail
          refine PDc.out.mono ?_
          rintro e w12 ⟨A12, c12, rfl, ho12, hb12⟩
          simp only at ho12 ⊢
          have H12 := Lib.hid (H11.out.below hb12)
          clear ho12 hb12
          obtain ⟨z0, z1, z2, z3, z4, z5, z6⟩ := H12.out.fin.rx.facts
          obtain ⟨r0, r1, r2, r3, r4, r5, r6⟩ := H12.out.fin.rx.free
          simp only [rc0] at z0 z1 z2 z3 z4 z5 z6
          go_wp2_with fail
          refine bodyPost_ret (v := .tuple #[.agg #[.int .i64 0, .int .i64 0, .int .i64 0, .int .i64 0, .int .i64 0, .string ⟨#[]⟩, .string ⟨#[]⟩], .bool false]) (by simp [results, Tryz.results75, go_sem, z0, z1, z2, z3, z4, z5, z6]) rfl ⟨rc0, false, rfl, HQN.out, ?_⟩
          exact (H12.out.fin.store rc0).be
      · rw [if_neg h2] at hT
        have hd2 := decide_eq_false h2
        injection hT with e1 e2
        subst e1 e2
        go_wp2_with fail
        go_meet
        case rel => exact ⟨(by first | trivial | rfl), ⟨A9, c9, rfl, R11.out⟩, H11.out⟩
    case' rest => obtain ⟨hte, ⟨A', c', rfl, hrc⟩, hcut⟩ := hcut; have H12 := Lib.hid hcut; have R12 := Lib.hid hrc; have HQ4 := Lib.hid (HQ3.out.trans (if_neg (fun h => h hte))); clear hcut hrc H11 R11 HQ3 hT hte
    obtain ⟨b2, hb2⟩ : ∃ b2, b2 = decide (f / 2 % 2 = 1) := ⟨_, rfl⟩
    rw [← hb2] at F2 HQ4
    clear hb2
    obtain ⟨_, _, _, _, _, _, x6⟩ := H12.out.bx.facts
    obtain ⟨_, _, _, _, _, _, y6⟩ := H12.out.bx.free
    simp only at x6
    have H13 := Lib.hid (H12.out.put (j := 6) (u := .string (strOf t)) ⟨K, a1, b1, c1, d1, strOf k1, strOf t⟩)
    go_wp2_with (refine wpList_str _ rfl (.tmp 75) 27 9 5 rfl Tryz.underlying27 Tryz.underlying5 Tryz.underlying9 A' t.length c' t rfl R12.out rfl hTB.1 ?_)
    refine (PS.out _).mono ?_
    rintro e w14 ⟨A14, c14, rfl, hr14, hb14⟩
    simp only at hr14 ⊢
    have H14 := Lib.hid (H13.out.below hb14)
    clear hr14 hb14 x6 y6 H12 H13
    go_upto_if 88 with (fail)
    go_cut [] from 12 (fun wx => sm = b2 ∧ RdB (w.alloc zrc) wx 88 Rs.cells g v s7 w2.heap.size ⟨K, a1, b1, c1, d1, strOf k1, strOf t⟩)
    case first =>
      cases sm <;> cases b2
      · skip
        go_wp2_with fail
        go_meet
        case rel => exact ⟨(by first | trivial | rfl), H14.out⟩
      · skip
        have HQN : Hid (q = none) := Lib.hid (HQ4.out.trans (if_pos (by decide)))
        obtain ⟨z0, z1, z2, z3, z4, z5, z6⟩ := H14.out.fin.rx.facts
        obtain ⟨r0, r1, r2, r3, r4, r5, r6⟩ := H14.out.fin.rx.free
        simp only [rc0] at z0 z1 z2 z3 z4 z5 z6
        go_wp2_with fail
        refine bodyPost_ret (v := .tuple #[.agg #[.int .i64 0, .int .i64 0, .int .i64 0, .int .i64 0, .int .i64 0, .string ⟨#[]⟩, .string ⟨#[]⟩], .bool false]) (by simp [results, Tryz.results75, go_sem, z0, z1, z2, z3, z4, z5, z6]) rfl ⟨rc0, false, rfl, HQN.out, ?_⟩
        exact (H14.out.fin.store rc0).be
      · skip
        have HQN : Hid (q = none) := Lib.hid (HQ4.out.trans (if_pos (by decide)))
        obtain ⟨z0, z1, z2, z3, z4, z5, z6⟩ := H14.out.fin.rx.facts
        obtain ⟨r0, r1, r2, r3, r4, r5, r6⟩ := H14.out.fin.rx.free
        simp only [rc0] at z0 z1 z2 z3 z4 z5 z6
        go_wp2_with fail
        refine bodyPost_ret (v := .tuple #[.agg #[.int .i64 0, .int .i64 0, .int .i64 0, .int .i64 0, .int .i64 0, .string ⟨#[]⟩, .string ⟨#[]⟩], .bool false]) (by simp [results, Tryz.results75, go_sem, z0, z1, z2, z3, z4, z5, z6]) rfl ⟨rc0, false, rfl, HQN.out, ?_⟩
        exact (H14.out.fin.store rc0).be
      · skip
        go_wp2_with fail
        go_meet
        case rel => exact ⟨(by first | trivial | rfl), H14.out⟩
    case' rest => obtain ⟨hsm, hcut⟩ := hcut; have HF := Lib.hid hcut.fin; have HQ5 := Lib.hid (HQ4.out.trans (if_neg (fun h => h hsm))); clear hcut H14 HQ4 hsm
    have PC := Lib.hid (fun W => check_is ⟨K, a1, b1, c1, d1, strOf k1, strOf t⟩ W)
    unfold Rc.v at PC
    simp only at PC
    obtain ⟨cz, hcz⟩ : ∃ cz : Nat, cz = chk ⟨K, a1, b1, c1, d1, strOf k1, strOf t⟩ := ⟨_, rfl⟩
    rw [← hcz] at PC HQ5
    clear hcz
    obtain ⟨x0, x1, x2, x3, x4, x5, x6⟩ := HF.out.bx.facts
    simp only at x0 x1 x2 x3 x4 x5 x6
    obtain ⟨z0, z1, z2, z3, z4, z5, z6⟩ := HF.out.rx.facts
    obtain ⟨r0, r1, r2, r3, r4, r5, r6⟩ := HF.out.rx.free
    simp only [rc0] at z0 z1 z2 z3 z4 z5 z6
    go_wp2_with fail
    go_region_with (go_at_call 82; refine (PC.out _).mono ?_; rintro e w15 ⟨rfl, hb15⟩; first | (have HG : Hid (RFin w w15 w2.heap.size w.heap.size ⟨K, a1, b1, c1, d1, strOf k1, strOf t⟩ rc0) := Lib.hid (HF.out.drew.more hb15); obtain ⟨u0, u1, u2, u3, u4, u5, u6⟩ := HG.out.bx.facts; obtain ⟨q0, q1, q2, q3, q4, q5, q6⟩ := HG.out.rx.facts; obtain ⟨t0, t1, t2, t3, t4, t5, t6⟩ := HG.out.rx.free; simp only [rc0] at u0 u1 u2 u3 u4 u5 u6 q0 q1 q2 q3 q4 q5 q6) | (have HG : Hid (RFin w w15 w2.heap.size w.heap.size ⟨K, a1, b1, c1, d1, strOf k1, strOf t⟩ ⟨K, a1, b1, c1, d1, strOf k1, strOf t⟩) := Lib.hid ((HF.out.drew.store ⟨K, a1, b1, c1, d1, strOf k1, strOf t⟩).more hb15); obtain ⟨u0, u1, u2, u3, u4, u5, u6⟩ := HG.out.bx.facts; obtain ⟨q0, q1, q2, q3, q4, q5, q6⟩ := HG.out.rx.facts; simp only at u0 u1 u2 u3 u4 u5 u6 q0 q1 q2 q3 q4 q5 q6))
    all_goals
      go_wp2_with fail
      first
        | (refine bodyPost_ret (v := .tuple #[.agg #[.int .i64 K, .int .i64 a1, .int .i64 b1, .int .i64 c1, .int .i64 d1, .string (strOf k1), .string (strOf t)], .bool ((cz : Int) == 0)]) (by simp [results, Tryz.results75, go_sem, q0, q1, q2, q3, q4, q5, q6]) rfl ⟨⟨K, a1, b1, c1, d1, strOf k1, strOf t⟩, (cz : Int) == 0, rfl, ?_, ?_⟩
           · rw [HQ5.out]
             by_cases hcz : cz = 0
             · rw [if_pos hcz, if_pos (by rw [beq_iff_eq]; omega)]
             · rw [if_neg hcz, if_neg (by rw [beq_iff_eq]; omega)]
           · first | exact (HG.out.store ⟨K, a1, b1, c1, d1, strOf k1, strOf t⟩).be | exact HG.out.be)
end Go.Proofs.YtljfmcgeiceagaaGreat

/- The document reads a record's body. -/
namespace Go.Proofs.YtljfmcgeiceagaaGreat
open Go Go.RowKit
set_option linter.unusedVariables false
set_option linter.unusedSimpArgs false

theorem nst_ok {pr : Prop} [Decidable pr] {s : Rs} (hok : s.Ok) : (nst pr s).2.Ok ∧ (nst pr s).1 < 18446744073709551616 := by
  unfold nst
  split
  · exact ⟨hok.num.1, hok.num.2.1⟩
  · exact ⟨hok, by simp⟩
theorem rem_two {f : Nat} (h : f < 256) : ((f : Int) % 2 == 1) = decide (f % 2 = 1) := by
  by_cases h1 : f % 2 = 1
  · rw [decide_eq_true h1, beq_iff_eq]; omega
  · rw [decide_eq_false h1, beq_eq_false_iff_ne]; omega

theorem Rs.take_bs (s : Rs) (n : Int) : (s.take n).2.bs = s.bs ∧ (s.take n).1.length ≤ s.bs.length := by
  unfold Rs.take
  split
  · exact ⟨rfl, by simp⟩
  split
  · exact ⟨Rs.fail_bs _ _, by simp⟩
  split
  · exact ⟨Rs.fail_bs _ _, by simp⟩
  · exact ⟨rfl, by simp only [List.length_take, List.length_drop]; omega⟩
theorem Rs.num_bs (s : Rs) : s.num.2.bs = s.bs := by
  unfold Rs.num
  split
  · rfl
  split
  · rfl
  · exact Rs.fail_bs _ _
theorem Rs.text_bs (s : Rs) (n : Int) : (s.text n).2.bs = s.bs := by
  unfold Rs.text
  split
  · rfl
  split
  · exact s.num_bs
  split
  · exact (Rs.failAt_bs _ _ _).trans s.num_bs
  split
  · exact (Rs.failAt_bs _ _ _).trans s.num_bs
  · exact s.num_bs
theorem nst_bs {pr : Prop} [Decidable pr] (s : Rs) : (nst pr s).2.bs = s.bs := by
  unfold nst
  split
  · exact s.num_bs
  · rfl
theorem quo_two {f : Nat} (h : f < 256) : ((f : Int) / 2 % 2 == 1) = decide (f / 2 % 2 = 1) := by
  by_cases h1 : f / 2 % 2 = 1
  · rw [decide_eq_true h1, beq_iff_eq]; omega
  · rw [decide_eq_false h1, beq_eq_false_iff_ne]; omega
set_option maxHeartbeats 4000000 in
set_option maxRecDepth 100000 in
theorem rrecread_is (A : Option Addr) (n c : Nat) (bs : List Nat) (w : World) (hr : Rd w A (b8 bs)) (hn : bs.length = n) (hby : By bs) (hl : n ≤ 1115) :
    Calls Tryz.prog 80 #[.slice A n c] w fun e w' => e = .returned (rdm bs).v ∧ Below w.heap.size w w' := by
  have PN := Lib.hid (fun W (h : Rd W A (b8 bs)) => rnewReader_is A n c bs W h hn hby (by omega))
  unfold Newed at PN
  have R0 := Lib.hid hr
  have ok0 := ok_new hby (by omega)
  obtain ⟨z, hz⟩ : ∃ z, z = (⟨bs, 0, 0, 0⟩ : Rs).take 1 := ⟨_, rfl⟩
  have HZ : (⟨bs, 0, 0, 0⟩ : Rs).take 1 = (z.1, z.2) := hz.symm
  have okz : z.2.Ok := by rw [hz]; exact ok0.take 1
  have PB := Lib.hid (fun base g v W (h : Rdr base W 95 Rs.rcells g v ⟨bs, 0, 0, 0⟩) => rbyte_r base g v ⟨bs, 0, 0, 0⟩ W h)
  rw [← hz] at PB
  have hQ : rdm bs = rdm1 (z.1.headD 0) z.2 := by unfold rdm; rw [hz]
  have hf8 : z.1.headD 0 < 256 := by
    have hb : By z.1 := by rw [hz]; exact Rs.take_by ok0 1
    cases h1 : z.1 with
    | nil => simp
    | cons y r => exact hb y (by rw [h1]; simp)
  obtain ⟨f, hf⟩ : ∃ f, f = z.1.headD 0 := ⟨_, rfl⟩
  obtain ⟨s1, hs1⟩ : ∃ s1, s1 = z.2 := ⟨_, rfl⟩
  rw [← hf, ← hs1] at PB hQ
  rw [← hf] at hf8
  rw [← hs1] at okz HZ
  clear hz hf hs1 hr hby
  unfold Gave at PB
  obtain ⟨⟨a1, s2⟩, hA⟩ : ∃ a, s1.num = a := ⟨_, rfl⟩
  obtain ⟨⟨b1, s3⟩, hB⟩ : ∃ a, s2.num = a := ⟨_, rfl⟩
  obtain ⟨⟨c1, s4⟩, hC⟩ : ∃ a, nst (4 ≤ f) s3 = a := ⟨_, rfl⟩
  obtain ⟨⟨d1, s5⟩, hD⟩ : ∃ a, nst (4 ≤ f) s4 = a := ⟨_, rfl⟩
  obtain ⟨⟨k1, s6⟩, hK⟩ : ∃ a, s5.text 64 = a := ⟨_, rfl⟩
  obtain ⟨⟨v1, s7⟩, hV⟩ : ∃ a, s6.take (s6.rest : Nat) = a := ⟨_, rfl⟩
  have ok2 : s2.Ok ∧ a1 < 18446744073709551616 := by have := okz.num; rw [hA] at this; exact ⟨this.1, this.2.1⟩
  have ok3 : s3.Ok ∧ b1 < 18446744073709551616 := by have := ok2.1.num; rw [hB] at this; exact ⟨this.1, this.2.1⟩
  have ok4 : s4.Ok ∧ c1 < 18446744073709551616 := by have := nst_ok (pr := 4 ≤ f) ok3.1; rw [hC] at this; exact this
  have ok5 : s5.Ok ∧ d1 < 18446744073709551616 := by have := nst_ok (pr := 4 ≤ f) ok4.1; rw [hD] at this; exact this
  have ok6 : s6.Ok ∧ By k1 := by have := ok5.1.text 64; rw [hK] at this; exact this
  have ok7 : By v1 ∧ v1.length ≤ 140737488351232 := by have h1 := Rs.take_by ok6.1 (s6.rest : Nat); have h2 := Rs.take_len s6 ok6.1 (s6.rest : Nat); rw [hV] at h1 h2; exact ⟨h1, h2⟩
  have hv1 : v1.length ≤ 1115 := by
    have e1 : s1.bs = bs := by have := (⟨bs, 0, 0, 0⟩ : Rs).take_bs 1; rw [HZ] at this; exact this.1
    have e2 := s1.num_bs; rw [hA] at e2
    have e3 := s2.num_bs; rw [hB] at e3
    have e4 := nst_bs (pr := 4 ≤ f) s3; rw [hC] at e4
    have e5 := nst_bs (pr := 4 ≤ f) s4; rw [hD] at e5
    have e6 := s5.text_bs 64; rw [hK] at e6
    have e7 := (s6.take_bs (s6.rest : Nat)).2; rw [hV] at e7
    simp only at e2 e3 e4 e5 e6 e7
    rw [e6, e5, e4, e3, e2, e1] at e7
    omega
  clear HZ
  have wa := wrap64_sg ok2.2
  have wb := wrap64_sg ok3.2
  have wc' := wrap64_sg ok4.2
  have wd := wrap64_sg ok5.2
  have HQ : Hid (rdm bs = ⟨if f % 2 = 1 then 2 else 1, sg a1, sg b1, sg c1, sg d1, strOf k1, strOf (if f / 2 % 2 = 1 then (dec v1).1 else v1)⟩) := Lib.hid (by
    rw [hQ]
    unfold rdm1
    simp only [hA, hB, hC, hD, hK, hV])
  obtain ⟨q, hq⟩ : ∃ q, q = rdm bs := ⟨_, rfl⟩
  rw [← hq] at HQ ⊢
  clear hq hQ
  have HT := Lib.hid ((Below.refl w.heap.size w).alloc (Nat.le_refl _) zrc)
  have PNm := Lib.hid (fun base g v s W (h : Rdr base W 95 Rs.rcells g v s) => ruv_r base g v s W h)
  unfold Gave at PNm
  have F1 := rem_two hf8
  go_enter Tryz.func80, Tryz.ntmps80
  go_wp2_with fail
  refine (PN.out _ (R0.out.below HT.out)).mono ?_
  rintro e w1 ⟨g, v, rfl, hr1, hb1⟩
  have HR1 := Lib.hid hr1
  have HB1 := Lib.hid hb1
  clear hr1 hb1
  go_wp2_with fail
  refine (PB.out _ g v _ (HR1.out.below ((Below.refl _ _).alloc (Nat.le_refl _) _))).mono ?_
  rintro e w2 ⟨rfl, ht2⟩
  have H2 := Lib.hid ((RdB.new HR1.out HB1.out ⟨1, 0, 0, 0, 0, ⟨#[]⟩, ⟨#[]⟩⟩).turn ht2)
  clear ht2 HR1 HB1
  go_wp2_with fail
  refine (PNm.out _ g v s1 w2 H2.out.rd).mono ?_
  rw [hA]
  rintro e w3 ⟨rfl, ht3⟩
  have H3 := Lib.hid (H2.out.turn ht3)
  clear ht3 H2
  obtain ⟨_, x1, _, _, _, _, _⟩ := H3.out.bx.facts
  obtain ⟨_, y1, _, _, _, _, _⟩ := H3.out.bx.free
  simp only at x1
  have H3' := Lib.hid (H3.out.put (j := 1) (u := .int .i64 (sg a1)) ⟨1, sg a1, 0, 0, 0, ⟨#[]⟩, ⟨#[]⟩⟩)
  go_wp2_with fail
  refine (PNm.out _ g v s2 _ H3'.out.rd).mono ?_
  rw [hB]
  rintro e w4 ⟨rfl, ht4⟩
  have H4 := Lib.hid (H3'.out.turn ht4)
  clear ht4 H3 H3' x1 y1
  obtain ⟨_, _, x2, _, _, _, _⟩ := H4.out.bx.facts
  obtain ⟨_, _, y2, _, _, _, _⟩ := H4.out.bx.free
  simp only at x2
  have H4' := Lib.hid (H4.out.put (j := 2) (u := .int .i64 (sg b1)) ⟨1, sg a1, sg b1, 0, 0, ⟨#[]⟩, ⟨#[]⟩⟩)
  go_upto_if 23 with (fail)
  go_cut [] from 9 (fun wx => RdB (w.alloc zrc) wx 95 Rs.rcells g v s5 w1.heap.size ⟨1, sg a1, sg b1, sg c1, sg d1, ⟨#[]⟩, ⟨#[]⟩⟩)
  case first =>
    clear x2 y2
    by_cases h4 : 4 ≤ f
    · have h4' : (4 : Int) ≤ (f : Int) := by omega
      rw [nst_yes h4] at hC hD
      go_wp2_with fail
      refine (PNm.out _ g v s3 _ H4'.out.rd).mono ?_
      rw [hC]
      rintro e w5 ⟨rfl, ht5⟩
      have H5 := Lib.hid (H4'.out.turn ht5)
      clear ht5 H4 H4'
      obtain ⟨_, _, _, x3, _, _, _⟩ := H5.out.bx.facts
      obtain ⟨_, _, _, y3, _, _, _⟩ := H5.out.bx.free
      simp only at x3
      have H5' := Lib.hid (H5.out.put (j := 3) (u := .int .i64 (sg c1)) ⟨1, sg a1, sg b1, sg c1, 0, ⟨#[]⟩, ⟨#[]⟩⟩)
      go_wp2_with fail
      refine (PNm.out _ g v s4 _ H5'.out.rd).mono ?_
      rw [hD]
      rintro e w6 ⟨rfl, ht6⟩
      have H6 := Lib.hid (H5'.out.turn ht6)
      clear ht6 H5 H5' x3 y3
      obtain ⟨_, _, _, _, x4, _, _⟩ := H6.out.bx.facts
      obtain ⟨_, _, _, _, y4, _, _⟩ := H6.out.bx.free
      simp only at x4
      have H6' := Lib.hid (H6.out.put (j := 4) (u := .int .i64 (sg d1)) ⟨1, sg a1, sg b1, sg c1, sg d1, ⟨#[]⟩, ⟨#[]⟩⟩)
      go_wp2_with fail
      go_meet
      case rel => exact H6'.out
    · have h4' : ¬ (4 : Int) ≤ (f : Int) := by omega
      rw [nst_no h4] at hC hD
      injection hC with e1 e2
      subst e1 e2
      injection hD with e1 e2
      subst e1 e2
      go_wp2_with fail
      go_meet
      case rel => exact H4'.out
  case' rest => have H7 := Lib.hid hcut; clear hcut H4 H4' x2 y2
  have PT := Lib.hid (fun W (h : Rdr (w.alloc zrc).heap.size W 95 Rs.rcells g v s5) => rtext_r (w.alloc zrc).heap.size g v s5 64 W h (by omega))
  rw [hK] at PT
  go_wp2_with fail
  refine (PT.out _ H7.out.rd).mono ?_
  rintro e w7 ⟨rfl, ht7⟩
  have H8 := Lib.hid (H7.out.turn ht7)
  clear ht7 H7
  obtain ⟨_, _, _, _, _, x5, _⟩ := H8.out.bx.facts
  obtain ⟨_, _, _, _, _, y5, _⟩ := H8.out.bx.free
  simp only at x5
  have H8' := Lib.hid (H8.out.put (j := 5) (u := .string (strOf k1)) ⟨1, sg a1, sg b1, sg c1, sg d1, strOf k1, ⟨#[]⟩⟩)
  go_wp2_with fail
  refine (rrest_is _ g v s6 _ H8'.out.rd).mono ?_
  rintro e w8 ⟨rfl, m8, rfl⟩
  have H9 := Lib.hid (H8'.out.below (below_drewN (Below.refl _ _) m8))
  clear x5 y5 H8 H8'
  have PR := Lib.hid (fun W (h : Rdr (w.alloc zrc).heap.size W 95 Rs.rcells g v s6) => rraw_all (w.alloc zrc).heap.size g v s6 (s6.rest : Nat) W h)
  rw [hV] at PR
  go_wp2_with fail
  refine (PR.out _ H9.out.rd).mono ?_
  rintro e w9 ⟨A9, c9, rfl, ho9, ht9⟩
  have H10 := Lib.hid (H9.out.turn ht9)
  have R10 := Lib.hid (rd_own ho9)
  have HA9 : Hid (∀ a, A9 = some a → a.block ≠ w1.heap.size) := Lib.hid (fun a ha => by have h1 := (own_at ho9 a ha).1; have h2 := H9.out.bx.lt; omega)
  clear ho9 ht9 H9
  obtain ⟨K, hK2⟩ : ∃ K : Int, K = if f % 2 = 1 then 2 else 1 := ⟨_, rfl⟩
  have F2 := quo_two hf8
  obtain ⟨t, ht⟩ : ∃ t, t = if f / 2 % 2 = 1 then (dec v1).1 else v1 := ⟨_, rfl⟩
  rw [← hK2, ← ht] at HQ
  go_upto_if 41 with (fail)
  go_cut [] from 9 (fun wx => RdB (w.alloc zrc) wx 95 Rs.rcells g v s7 w1.heap.size ⟨K, sg a1, sg b1, sg c1, sg d1, strOf k1, ⟨#[]⟩⟩ ∧ Rd wx A9 (b8 v1))
  case first =>
    by_cases h1 : f % 2 = 1
    · rw [if_pos h1] at hK2
      subst hK2
      have hd1 := decide_eq_true h1
      obtain ⟨x0, _, _, _, _, _, _⟩ := H10.out.bx.facts
      obtain ⟨y0, _, _, _, _, _, _⟩ := H10.out.bx.free
      simp only at x0
      go_wp2_with fail
      go_meet
      case rel => exact ⟨H10.out.put (j := 0) (u := .int .i64 2) ⟨2, sg a1, sg b1, sg c1, sg d1, strOf k1, ⟨#[]⟩⟩, rd_kept R10.out (kept1_set _ _ _ _) HA9.out⟩
    · rw [if_neg h1] at hK2
      subst hK2
      have hd1 := decide_eq_false h1
      go_wp2_with fail
      go_meet
      case rel => exact ⟨H10.out, R10.out⟩
  case' rest => obtain ⟨hcut, hrc⟩ := hcut; have H11 := Lib.hid hcut; have R11 := Lib.hid hrc; clear hcut hrc H10 R10 F1 hK2
  go_upto_if 46 with (fail)
  go_cut [6, 7, 8] from 9 (fun s6' s7' s8' wx => (∃ A' c', s6' = .slice A' t.length c' ∧ Rd wx A' (b8 t)) ∧ RdB (w.alloc zrc) wx 95 Rs.rcells g v s7 w1.heap.size ⟨K, sg a1, sg b1, sg c1, sg d1, strOf k1, ⟨#[]⟩⟩)
  case first =>
    by_cases h2 : f / 2 % 2 = 1
    · rw [if_pos h2] at ht
      have hd2 := decide_eq_true h2
      have PDc := Lib.hid (rdecode_is A9 v1.length c9 v1 wc R11.out rfl ok7.1 (by omega))
      unfold Ans8 at PDc
      rw [← ht] at PDc
      clear ht
      go_wp2_with fail
      refine PDc.out.mono ?_
      rintro e w12 ⟨A12, c12, rfl, ho12, hb12⟩
      have H12 := Lib.hid (H11.out.below hb12)
      have R12 := Lib.hid (rd_own ho12)
      clear ho12 hb12
      go_wp2_with fail
      go_meet
      case rel => exact ⟨⟨A12, c12, rfl, R12.out⟩, H12.out⟩
    · rw [if_neg h2] at ht
      have hd2 := decide_eq_false h2
      subst ht
      go_wp2_with fail
      go_meet
      case rel => exact ⟨⟨A9, c9, rfl, R11.out⟩, H11.out⟩
  have hTB : By t := by
    rw [ht]
    split
    · rcases dec_cases ok7.1 ok7.2 with hd | ⟨u, hd, _, hu4, hu⟩
      · rw [hd]; exact fun b hb => (by cases hb)
      · rw [hd]; exact hu
    · exact ok7.1
  obtain ⟨⟨A', c', rfl, hrc⟩, hcut⟩ := hcut
  have H12 := Lib.hid hcut
  have R12 := Lib.hid hrc
  clear hcut hrc H11 R11 ht F2
  obtain ⟨_, _, _, _, _, _, x6⟩ := H12.out.bx.facts
  obtain ⟨_, _, _, _, _, _, y6⟩ := H12.out.bx.free
  simp only at x6
  have H13 := Lib.hid ((H12.out.put (j := 6) (u := .string (strOf t)) ⟨K, sg a1, sg b1, sg c1, sg d1, strOf k1, strOf t⟩).fin)
  obtain ⟨u0, u1, u2, u3, u4, u5, u6⟩ := H13.out.bx.facts
  obtain ⟨z0, z1, z2, z3, z4, z5, z6⟩ := H13.out.rx.facts
  obtain ⟨r0, r1, r2, r3, r4, r5, r6⟩ := H13.out.rx.free
  simp only [rc0] at u0 u1 u2 u3 u4 u5 u6 z0 z1 z2 z3 z4 z5 z6
  go_wp2_with (refine wpList_str _ rfl (.tmp 53) 27 9 5 rfl Tryz.underlying27 Tryz.underlying5 Tryz.underlying9 A' t.length c' t rfl R12.out rfl hTB ?_)
  refine bodyPost_ret (v := .agg #[.int .i64 K, .int .i64 (sg a1), .int .i64 (sg b1), .int .i64 (sg c1), .int .i64 (sg d1), .string (strOf k1), .string (strOf t)]) (by simp [results, Tryz.results80, go_sem, z0, z1, z2, z3, z4, z5, z6]) rfl ⟨by rw [HQ.out]; rfl, ?_⟩
  exact (H13.out.store ⟨K, sg a1, sg b1, sg c1, sg d1, strOf k1, strOf t⟩).be
end Go.Proofs.YtljfmcgeiceagaaGreat
