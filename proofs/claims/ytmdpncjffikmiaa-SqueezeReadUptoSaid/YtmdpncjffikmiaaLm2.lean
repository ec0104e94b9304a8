/- chroniclelaw2: sameTokens, twins, unharmed, other: what the statements do to tokens. -/
import Derived.Test.YtmdpncjffikmiaaLm
import Derived.Test.YtmdpncjffikmiaaSqExp2
import Derived.StillTailTactics
namespace Go.Proofs.Ytmdpncjffikmiaa
open Go Go.RowKit
set_option linter.unusedVariables false
set_option linter.unusedSimpArgs false

set_option maxHeartbeats 1000000 in
set_option maxRecDepth 100000 in
theorem sameTokens_yes (A B : Option Addr) (n c d : Nat) (la lb : List TkV) (w : World) (ha : Rd w A (tkCells la)) (hb : Rd w B (tkCells lb)) (he : toks la = toks lb) (hn : la.length = n) (oa : ∀ x ∈ la, x.Ok w) (ob : ∀ x ∈ lb, x.Ok w) (hl : n ≤ 4000000000000) :
    Calls Try.prog 29 #[.slice A n c, .slice B n d] w fun e w' => Looks w w' e (.bool true) := by
  have HA := Lib.hid ha
  have HB := Lib.hid hb
  have HN := Lib.hid hn
  have HM : Hid (lb.length = n) := Lib.hid (by have := congrArg List.length he; simp only [toks, List.length_map] at this; omega)
  have HE := Lib.hid he
  have OA := Lib.hid oa
  have OB := Lib.hid ob
  clear ha hb he hn oa ob
  have hne : ((n : Int) != (n : Int)) = false := by simp
  go_enter Try.func29, Try.ntmps29
  go_wp2
  go_loopw [5] (fun i wr => ∃ k j : Nat, k ≤ n ∧ i = .int .i64 k ∧ wr = w.drewN j) (fun i _ => n - (intOf i).toNat)
  case atStart => exact ⟨0, 0, Nat.zero_le _, rfl, rfl⟩
  case round =>
    obtain ⟨k, j, hk, rfl, rfl⟩ := hrel
    by_cases hlt : k < n
    · obtain ⟨x, hx⟩ : ∃ x, la[k]? = some x := ⟨_, List.getElem?_eq_getElem (by rw [HN.out]; exact hlt)⟩
      obtain ⟨y, hy⟩ : ∃ y, lb[k]? = some y := ⟨_, List.getElem?_eq_getElem (by rw [HM.out]; exact hlt)⟩
      have hxy : x.tk = y.tk := by
        have h1 := toks_get hx
        have h2 := toks_get hy
        rw [HE.out, h2] at h1
        injection h1 with h1
        exact h1.symm
      have ox := OA.out x (List.mem_of_getElem? hx)
      have oy := OB.out y (List.mem_of_getElem? hy)
      obtain ⟨g, off, rfl, hg, hc0, hc1, hc2⟩ := HA.out.tok hx
      obtain ⟨g', off', rfl, hg', hd0, hd1, hd2⟩ := HB.out.tok hy
      obtain ⟨xA, xc, lit, xd, xl⟩ := x
      obtain ⟨yA, yc, lit', yd, yl⟩ := y
      unfold TkV.tk at hxy
      simp only [Tk.mk.injEq] at hxy
      obtain ⟨rfl, rfl, rfl⟩ := hxy
      have PS := Lib.hid (fun W (hW : Below w.heap.size w W) => lsame_yes xA yA lit.length lit.length xc yc lit lit W (ox.rd.below hW) (oy.rd.below hW) rfl rfl (by have := ox.sz; simp only at this; omega) (by have := ox.sz; simp only at this; omega) rfl)
      simp only at hc0 hc1 hc2 hd0 hd1 hd2
      have e1 : ((xd : Int) != xd) = false := by simp
      have e2 : ((xl : Int) != xl) = false := by simp
      have i0 : (0 : Int) ≤ (k : Int) := by omega
      have i1 : (k : Int) < (n : Int) := by omega
      clear ox oy hx hy
      go_wp2
      go_quiet ((go_at_call 19; go_loud (refine (PS.out _ (by first | exact below_drewN (below_drewN (Below.refl _ _) _) _ | exact below_drewN (Below.refl _ _) _)).mono ?_; rintro r w1 ⟨rfl, m, rfl⟩; exact ⟨rfl, _, (World.drewN_drewN ..).trans (congrArg _ (Nat.add_assoc ..))⟩)))
      go_wp2
      go_roundw
      case rel => exact ⟨k + 1, _, by omega, by go_num, rfl⟩
      case measure => simp [intOf]; omega
    · go_wp2
      go_ret
      exact ⟨rfl, _, rfl⟩

/-- Tokens in a row of the call's own: their cells, and one of them laid anew. -/
theorem tok_row {w : World} {base g N c k : Nat} {xs : List TkV} {x : TkV} (h : w.ownsRow base 37 3 (.slice (some ⟨g, 0, none⟩) N c) N (tkCells xs)) (hk : xs[k]? = some x) :
    (w.cell? ⟨g, k * 3, none⟩ = some (.slice x.A x.lit.length x.c) ∧ w.cell? ⟨g, k * 3 + 1, none⟩ = some (.int .i64 x.d) ∧ w.cell? ⟨g, k * 3 + 2, none⟩ = some (.int .i64 x.l)) ∧
    w.frozen? ⟨g, k * 3, none⟩ = false ∧ w.frozen? ⟨g, k * 3 + 1, none⟩ = false ∧ w.frozen? ⟨g, k * 3 + 2, none⟩ = false := by
  have hn := h.1
  rw [tkCells_length] at hn
  have hl := (List.getElem?_eq_some_iff.1 hk).1
  obtain ⟨h0, h1, h2⟩ := tkCells_get hk
  exact ⟨⟨(h.cellAt _ (by omega)).trans h0, (h.cellAt _ (by omega)).trans h1, (h.cellAt _ (by omega)).trans h2⟩, h.frozenAt _, h.frozenAt _, h.frozenAt _⟩
theorem tok_stored {w : World} {base g N c k : Nat} {xs : List TkV} (h : w.ownsRow base 37 3 (.slice (some ⟨g, 0, none⟩) N c) N (tkCells xs)) (hk : k < xs.length) (y : TkV) :
    (((w.setCell ⟨g, k * 3, none⟩ (.slice y.A y.lit.length y.c)).setCell ⟨g, k * 3 + 1, none⟩ (.int .i64 y.d)).setCell ⟨g, k * 3 + 2, none⟩ (.int .i64 y.l)).ownsRow base 37 3 (.slice (some ⟨g, 0, none⟩) N c) N (tkCells (xs.set k y)) ∧
    w.grownBy (((w.setCell ⟨g, k * 3, none⟩ (.slice y.A y.lit.length y.c)).setCell ⟨g, k * 3 + 1, none⟩ (.int .i64 y.d)).setCell ⟨g, k * 3 + 2, none⟩ (.int .i64 y.l)) (some g) := by
  have h1 := h.stored (k * 3) (.slice y.A y.lit.length y.c)
  have h2 := h1.1.stored (k * 3 + 1) (.int .i64 y.d)
  have h3 := h2.1.stored (k * 3 + 2) (.int .i64 y.l)
  rw [tkCells_set3 y hk] at h3
  exact ⟨h3.1, grown_trans h1.2 (grown_trans h2.2 h3.2)⟩

theorem infoTok : (Try.prog.info? 37).map (fun i => (i.zero, i.size, i.bytes)) = some (some (.agg #[.slice none 0 0, .int .i64 0, .int .i64 0]), 3, 40) := by kernel_rfl

/-- A token's twin: its bytes in memory of their own, with marks behind. -/
structure Twin (W : World) (g0 : Nat) (x y : TkV) : Prop where
  lit : y.lit = x.lit
  d : y.d = x.d
  l : y.l = x.l
  c : y.c = x.lit.length + 64
  at_ : ∃ gi, y.A = some ⟨gi, 0, none⟩ ∧ g0 < gi
  rd : Rd W y.A (b8 (x.lit ++ pat x.lit.length))
theorem Twin.grown {W W' : World} {g0 g2 : Nat} {x y : TkV} (h : Twin W g0 x y) (hg : W.grownBy W' (some g2)) (h2 : g2 ≤ g0) : Twin W' g0 x y := by
  obtain ⟨gi, e, hne⟩ := h.at_
  exact ⟨h.lit, h.d, h.l, h.c, h.at_, h.rd.grown hg (fun a ha e2 => by rw [e] at ha; injection ha with ha; subst ha; injection e2 with e2; have e3 : gi = g2 := e2; omega)⟩
theorem Twin.below {W W' : World} {g0 : Nat} {x y : TkV} (h : Twin W g0 x y) (hb : Below W.heap.size W W') : Twin W' g0 x y := ⟨h.lit, h.d, h.l, h.c, h.at_, h.rd.below hb⟩
theorem Twin.tk {W : World} {g0 : Nat} {x y : TkV} (h : Twin W g0 x y) : y.tk = x.tk := by unfold TkV.tk; rw [h.lit, h.d, h.l]
theorem Twin.ok {W w : World} {g0 : Nat} {x y : TkV} (h : Twin W g0 x y) (o : x.Ok w) : y.Ok W := by
  have hs := o.sz
  refine ⟨?_, ?_, ?_, ?_, ?_, ?_, ?_⟩
  · rw [h.lit, h.c]; omega
  · rw [h.c]; unfold maxLen; omega
  · rw [h.lit]
    have := h.rd.take_ x.lit.length
    rw [b8_append, List.take_left' (b8_length _)] at this
    exact this
  · rw [h.lit]; exact o.by_
  · rw [h.lit]; exact hs
  · rw [h.d]; exact o.d64
  · rw [h.l]; exact o.l64

def tkZero : TkV := ⟨none, 0, [], 0, 0⟩
def tkEnd : TkV := ⟨none, 0, [], 77, -5⟩
/-- The first of them are twins of those. -/
def TwinsTo (W : World) (g0 : Nat) (l ms : List TkV) : Prop := ∀ (i : Nat) (y : TkV), ms[i]? = some y → ∃ x, l[i]? = some x ∧ Twin W g0 x y
def Twins (w : World) (l : List TkV) (n : Nat) (e : Ending) (W : World) : Prop :=
  ∃ ms, e = .returned (.slice (some ⟨w.heap.size, 0, none⟩) (n + 1) (n + 1)) ∧ W.ownsRow w.heap.size 37 3 (.slice (some ⟨w.heap.size, 0, none⟩) (n + 1) (n + 1)) (n + 1) (tkCells (ms ++ [tkEnd])) ∧ ms.length = n ∧ TwinsTo W w.heap.size l ms ∧ Below w.heap.size w W

theorem TwinsTo.grown {W W' : World} {g0 g2 : Nat} {l ms : List TkV} (h : TwinsTo W g0 l ms) (hg : W.grownBy W' (some g2)) (h2 : g2 ≤ g0) : TwinsTo W' g0 l ms := fun i y hy => by
  obtain ⟨x, hx, ht⟩ := h i y hy
  exact ⟨x, hx, ht.grown hg h2⟩
theorem TwinsTo.below {W W' : World} {g0 : Nat} {l ms : List TkV} (h : TwinsTo W g0 l ms) (hb : Below W.heap.size W W') : TwinsTo W' g0 l ms := fun i y hy => by
  obtain ⟨x, hx, ht⟩ := h i y hy
  exact ⟨x, hx, ht.below hb⟩
theorem twin_set {ms : List TkV} {k n : Nat} (h : ms.length = k) (hk : k < n) {y : TkV} : (ms ++ List.replicate (n + 1 - k) tkZero).set k y = (ms ++ [y]) ++ List.replicate (n + 1 - (k + 1)) tkZero := by
  rw [List.set_append_right _ _ (by omega), h, Nat.sub_self, show n + 1 - k = (n + 1 - (k + 1)) + 1 by omega, List.replicate_succ, List.set_cons_zero, List.append_assoc]
  rfl
theorem TwinsTo.snoc {wr w2 W : World} {g0 k xc : Nat} {xA : Option Addr} {lit : List Nat} {xd xl : Int} {l ms : List TkV} (h : TwinsTo wr g0 l ms) (hk : ms.length = k) (hx : l[k]? = some ⟨xA, xc, lit, xd, xl⟩)
    (hr : Rd w2 (some ⟨wr.heap.size, 0, none⟩) (b8 (lit ++ pat lit.length))) (hg : g0 < wr.heap.size) (hb : Below wr.heap.size wr w2) (hs : w2.grownBy W (some g0)) : TwinsTo W.drew g0 l (ms ++ [⟨some ⟨wr.heap.size, 0, none⟩, lit.length + 64, lit, xd, xl⟩]) := by
  have hd : Below W.heap.size W W.drew := (Below.refl _ _).drew
  intro i y hy
  rcases Nat.lt_or_ge i ms.length with hi | hi
  · rw [List.getElem?_append_left hi] at hy
    obtain ⟨x, h1, h2⟩ := h i y hy
    exact ⟨x, h1, ((h2.below hb).grown hs (Nat.le_refl _)).below hd⟩
  · rw [List.getElem?_append_right hi] at hy
    have hik : i - ms.length = 0 := by
      have := (List.getElem?_eq_some_iff.1 hy).1
      simp only [List.length_singleton] at this
      omega
    rw [hik] at hy
    simp only [List.getElem?_cons_zero, Option.some.injEq] at hy
    subst hy
    refine ⟨⟨xA, xc, lit, xd, xl⟩, by rw [show i = k by omega]; exact hx, ⟨rfl, rfl, rfl, rfl, ⟨_, rfl, by omega⟩, ?_⟩⟩
    refine (hr.grown hs (fun a ha e => ?_)).below hd
    injection ha with ha
    subst ha
    injection e with e
    have e' : wr.heap.size = g0 := e
    omega
theorem TwinsTo.toks {W : World} {g0 n : Nat} {l ms : List TkV} (h : TwinsTo W g0 l ms) (hl : l.length = n) (hm : ms.length = n) : toks ms = toks l := by
  apply List.ext_getElem?
  intro i
  unfold Go.Proofs.Ytmdpncjffikmiaa.toks
  rw [List.getElem?_map, List.getElem?_map]
  cases hy : ms[i]? with
  | none =>
    have : l[i]? = none := by rw [List.getElem?_eq_none_iff] at hy ⊢; omega
    rw [this]
  | some y =>
    obtain ⟨x, hx, ht⟩ := h i y hy
    rw [hx]
    simp [ht.tk]

theorem zeroToks (n : Nat) : (madeCells (Value.agg #[.slice none 0 0, .int .i64 0, .int .i64 0]).cells (n * 3)).toList = tkCells (List.replicate n tkZero) := by
  have hc : (Value.agg #[.slice none 0 0, .int .i64 0, .int .i64 0]).cells = #[.slice none 0 0, .int .i64 0, .int .i64 0] := by simp [Value.cells]
  rw [hc]
  apply List.ext_getElem?
  intro i
  by_cases hi : i < n * 3
  · have hk : (List.replicate n tkZero)[i / 3]? = some tkZero := by rw [List.getElem?_replicate, if_pos (by omega)]
    obtain ⟨h0, h1, h2⟩ := tkCells_get hk
    have hm : ((madeCells #[Value.slice none 0 0, .int .i64 0, .int .i64 0] (n * 3)).toList)[i]? = some (#[Value.slice none 0 0, .int .i64 0, .int .i64 0][i % 3]!) := by
      simp [madeCells, hi]
    rw [hm]
    rcases (show i % 3 = 0 ∨ i % 3 = 1 ∨ i % 3 = 2 by omega) with e | e | e
    · rw [e, show i = i / 3 * 3 by omega, h0]; rfl
    · rw [e, show i = i / 3 * 3 + 1 by omega, h1]; rfl
    · rw [e, show i = i / 3 * 3 + 2 by omega, h2]; rfl
  · rw [List.getElem?_eq_none (by simp [madeCells]; omega), List.getElem?_eq_none (by rw [tkCells_length, List.length_replicate]; omega)]

set_option maxHeartbeats 1000000 in
set_option maxRecDepth 100000 in
theorem twins_is (A : Option Addr) (n c : Nat) (l : List TkV) (w : World) (hr : Rd w A (tkCells l)) (hn : l.length = n) (ok : ∀ x ∈ l, x.Ok w) (hl : n ≤ 4000000000000) :
    Calls Try.prog 17 #[.slice A n c] w (Twins w l n) := by
  obtain ⟨inf, hi, hz0, hz1, hz2⟩ := info_parts infoTok
  have HI := Lib.hid hi
  have HZ0 := Lib.hid hz0
  have HZ1 := Lib.hid hz1
  have HZ2 := Lib.hid hz2
  have HR := Lib.hid hr
  have HN := Lib.hid hn
  have OK := Lib.hid ok
  have HYZ := Lib.hid (zeroToks (n + 1))
  clear hr hn ok hi hz0 hz1 hz2
  go_enter Try.func17, Try.ntmps17
  go_wp2_with (at_make; refine wpList_make_full _ rfl (.tmp 8) (.tmp 8) 22 rfl w.heap.size 37 inf (.agg #[.slice none 0 0, .int .i64 0, .int .i64 0]) 3 Try.underlying22 HI.out HZ0.out HZ1.out .i64 .i64 _ _ (n + 1) rfl rfl (by omega) (by omega) (by rw [HZ2.out]; omega) (by unfold maxLen; omega) (Nat.le_refl _) ?_; intro w1 hown1 hg1; have HO := Lib.hid (HYZ.out ▸ hown1); have HB := Lib.hid (below_of_grown hg1 (Nat.le_refl _) (fun k hk => by cases hk)); clear hown1 hg1)
  go_loopw [4, 5] (fun i v wr => ∃ (k : Nat) (ms : List TkV), k ≤ n ∧ i = .int .i64 k ∧ Hid (ms.length = k) ∧ Hid (wr.ownsRow w.heap.size 37 3 (.slice (some ⟨w.heap.size, 0, none⟩) (n + 1) (n + 1)) (n + 1) (tkCells (ms ++ List.replicate (n + 1 - k) tkZero))) ∧ Hid (TwinsTo wr w.heap.size l ms) ∧ Hid (Below w.heap.size w wr)) (fun i _ _ => n - (intOf i).toNat)
  case atStart => exact ⟨0, [], Nat.zero_le _, rfl, Lib.hid rfl, HO, Lib.hid (fun i y h => by simp at h), HB⟩
  case round =>
    clear HO HB
    obtain ⟨k, ms, hk, rfl, HL, HO, HT, HB⟩ := hrel
    have hsz := HB.out.size
    by_cases hlt : k < n
    · obtain ⟨x, hx⟩ : ∃ x, l[k]? = some x := ⟨_, List.getElem?_eq_getElem (by rw [HN.out]; exact hlt)⟩
      have OX := Lib.hid (OK.out x (List.mem_of_getElem? hx))
      obtain ⟨g, off, rfl, hg, hc0, hc1, hc2⟩ := HR.out.tok hx
      have HX := Lib.hid hx
      replace hc0 := (HB.out.cell (p := ⟨g, off + k * 3, none⟩) hg).trans hc0
      replace hc1 := (HB.out.cell (p := ⟨g, off + k * 3 + 1, none⟩) hg).trans hc1
      replace hc2 := (HB.out.cell (p := ⟨g, off + k * 3 + 2, none⟩) hg).trans hc2
      have hls := OX.out.sz
      have hcap := OX.out.cap
      have PS := Lib.hid (spare_is x.A x.lit.length x.c x.lit wr (OX.out.rd.below HB.out) rfl hls)
      obtain ⟨xA, xc, lit, xd, xl⟩ := x
      simp only at hc0 hc1 hc2 hls hcap
      have i0 : (0 : Int) ≤ (k : Int) := by omega
      have i1 : (k : Int) < (n : Int) := by omega
      have i2 : (k : Int) < (n : Int) + 1 := by omega
      have i3 : (lit.length : Int) ≤ (lit.length : Int) + 64 := by omega
      have i4 : lit.length ≤ lit.length + 64 := by omega
      have i5 : (0 : Int) ≤ (lit.length : Int) := by omega
      have hfz : w.heap.size < wr.heap.size := (HO.out.lt _ rfl).2
      clear hx
      go_wp2_with (go_at_call 27; refine PS.out.mono ?_; rintro e w2 ⟨rfl, ho2, hb2⟩; replace hc0 := (hb2.cell (p := ⟨g, off + k * 3, none⟩) (Nat.lt_of_lt_of_le hg hsz)).trans hc0; replace hc1 := (hb2.cell (p := ⟨g, off + k * 3 + 1, none⟩) (Nat.lt_of_lt_of_le hg hsz)).trans hc1; replace hc2 := (hb2.cell (p := ⟨g, off + k * 3 + 2, none⟩) (Nat.lt_of_lt_of_le hg hsz)).trans hc2; have HO2 := Lib.hid ho2; have HB2 := Lib.hid hb2; clear ho2 hb2)
      have HO3 := Lib.hid (own_below HO.out HB2.out)
      have hz : (ms ++ List.replicate (n + 1 - k) tkZero)[k]? = some tkZero := by
        rw [List.getElem?_append_right (by rw [HL.out]; omega), HL.out, Nat.sub_self, List.getElem?_replicate, if_pos (by omega)]
      obtain ⟨⟨q0, q1, q2⟩, f0, f1, f2⟩ := tok_row HO3.out hz
      clear hz
      refine wp_region_still_tail 22 (by kernel_rfl) (by kernel_rfl) ?_
      simp only [List.take_succ_cons, List.take_zero, List.drop_succ_cons, List.drop_zero]
      repeat still_step
      refine wpStill_nil ?_
      change wpList _ _ _ _ _ w2.drew
      go_wp2
      have hs := tok_stored HO3.out (k := k) (by rw [List.length_append, List.length_replicate, HL.out]; omega) ⟨some ⟨wr.heap.size, 0, none⟩, lit.length + 64, lit, xd, xl⟩
      rw [twin_set HL.out hlt] at hs
      have HS := Lib.hid hs
      clear hs q0 q1 q2 f0 f1 f2 hc0 hc1 hc2
      go_roundw
      case rel => exact ⟨k + 1, _, by omega, by go_num, Lib.hid (by rw [List.length_append, HL.out]; rfl), Lib.hid HS.out.1.drew, Lib.hid (HT.out.snoc HL.out HX.out (rd_own HO2.out) hfz HB2.out HS.out.2), Lib.hid ((HB.out.trans ((HB2.out.mono hsz).trans (below_of_grown HS.out.2 (Nat.le_trans hsz HB2.out.size) (fun q hq => by injection hq with hq; omega)))).drew)⟩
      case measure => simp [intOf]; omega
    · have hkn : k = n := by omega
      subst hkn
      have hz : (ms ++ List.replicate (k + 1 - k) tkZero)[k]? = some tkZero := by
        rw [List.getElem?_append_right (by rw [HL.out]; omega), HL.out, Nat.sub_self, List.getElem?_replicate, if_pos (by omega)]
      obtain ⟨⟨q0, q1, q2⟩, f0, f1, f2⟩ := tok_row HO.out hz
      have hfz : w.heap.size < wr.heap.size := (HO.out.lt _ rfl).2
      have hs := tok_stored HO.out (k := k) (by rw [List.length_append, List.length_replicate, HL.out]; omega) tkEnd
      have hl1 : (ms ++ List.replicate (k + 1 - k) tkZero).set k tkEnd = ms ++ [tkEnd] := by
        rw [List.set_append_right _ _ (by rw [HL.out]; omega), HL.out, Nat.sub_self, show k + 1 - k = 1 by omega]
        rfl
      rw [hl1] at hs
      have HS := Lib.hid hs
      have i2 : (k : Int) < (k : Int) + 1 := by omega
      have i0 : (0 : Int) ≤ (k : Int) := by omega
      clear hz hl1 hs
      go_wp2
      go_ret
      exact ⟨ms, rfl, HS.out.1, HL.out, HT.out.grown HS.out.2 (Nat.le_refl _), HB.out.trans (below_of_grown HS.out.2 hsz (fun q hq => by injection hq with hq; omega))⟩
theorem TwinsTo.ok {W w : World} {g0 : Nat} {l ms : List TkV} (h : TwinsTo W g0 l ms) (ok : ∀ x ∈ l, x.Ok w) : ∀ y ∈ ms, y.Ok W := by
  intro y hy
  obtain ⟨i, hi⟩ := List.mem_iff_getElem?.1 hy
  obtain ⟨x, hx, ht⟩ := h i y hi
  exact ht.ok (ok x (List.mem_of_getElem? hx))
theorem rd_tkpre {W : World} {A : Option Addr} {xs ys : List TkV} (h : Rd W A (tkCells (xs ++ ys))) : Rd W A (tkCells xs) := by
  have := h.take_ (xs.length * 3)
  rw [tkCells_append, List.take_left' (tkCells_length xs)] at this
  exact this

set_option maxHeartbeats 1000000 in
set_option maxRecDepth 100000 in
theorem unharmed_is (A : Option Addr) (g0 n c : Nat) (l ms : List TkV) (w : World) (hr : Rd w A (tkCells l)) (hn : l.length = n) (ok : ∀ x ∈ l, x.Ok w) (ho : Rd w (some ⟨g0, 0, none⟩) (tkCells (ms ++ [tkEnd]))) (hm : ms.length = n) (ht : TwinsTo w g0 l ms) (hl : n ≤ 4000000000000) :
    Calls Try.prog 21 #[.slice (some ⟨g0, 0, none⟩) (n + 1) (n + 1), .slice A n c] w fun e w' => Looks w w' e (.bool true) := by
  have PS := Lib.hid (fun W (hW : Below w.heap.size w W) => sameTokens_yes (some ⟨g0, 0, none⟩) A n (n + 1) c ms l W ((rd_tkpre ho).below hW) (hr.below hW) (ht.toks hn hm) hm (fun x hx => (ht.ok ok x hx).below hW) (fun x hx => (ok x hx).below hW) hl)
  have hz : (ms ++ [tkEnd])[n]? = some tkEnd := by rw [List.getElem?_append_right (by omega), hm, Nat.sub_self]; rfl
  obtain ⟨g1, off1, he1, hg1, _, q1, q2⟩ := ho.tok hz
  injection he1 with he1
  injection he1 with he1 he2
  subst he1 he2
  rw [Nat.zero_add] at q1 q2
  simp only [tkEnd] at q1 q2
  have HR := Lib.hid hr
  have HN := Lib.hid hn
  have OK := Lib.hid ok
  have HO := Lib.hid ho
  have HM := Lib.hid hm
  have HT := Lib.hid ht
  have i0 : (0 : Int) ≤ (n : Int) := by omega
  have i1 : (n : Int) ≤ (n : Int) + 1 := by omega
  have i2 : (n : Int) < (n : Int) + 1 := by omega
  have i3 : n ≤ n + 1 := by omega
  clear hr hn ok ho hm ht hz
  go_enter Try.func21, Try.ntmps21
  go_wp2_with (go_at_call 29; go_loud (refine (PS.out _ (Below.refl _ _)).mono ?_; rintro r w1 ⟨rfl, m, rfl⟩))
  clear q1 q2 PS
  go_loopw [5] (fun i wr => ∃ k j : Nat, k ≤ n ∧ i = .int .i64 k ∧ wr = w.drewN j) (fun i _ => n - (intOf i).toNat)
  case atStart => exact ⟨0, _, Nat.zero_le _, rfl, rfl⟩
  case round =>
    obtain ⟨k, j, hk, rfl, rfl⟩ := hrel
    by_cases hlt : k < n
    · obtain ⟨y, hy⟩ : ∃ y, ms[k]? = some y := ⟨_, List.getElem?_eq_getElem (by rw [HM.out]; exact hlt)⟩
      obtain ⟨x, hx, htw⟩ := HT.out k y hy
      have ox := OK.out x (List.mem_of_getElem? hx)
      obtain ⟨g, off, rfl, hg, hc0, hc1, hc2⟩ := HR.out.tok hx
      obtain ⟨g', off', he', hg', hd0, hd1, hd2⟩ := (rd_tkpre HO.out).tok hy
      injection he' with he'
      injection he' with he1 he2
      subst he1 he2
      rw [Nat.zero_add] at hd0 hd1 hd2
      have hls := ox.sz
      have hcap := ox.cap
      have PK := Lib.hid (fun W (hW : Below w.heap.size w W) => kept_is y.A x.A x.lit.length (x.lit.length + 64) y.c x.c x.lit W (htw.rd.below hW) (ox.rd.below hW) rfl rfl hls)
      have hyl := htw.lit
      have hyc := htw.c
      clear htw hx hy ox
      obtain ⟨xA, xc, lit, xd, xl⟩ := x
      obtain ⟨yA, yc, ylit, yd, yl⟩ := y
      simp only at hc0 hc1 hc2 hd0 hd1 hd2 hls hcap hyl hyc PK
      subst hyl hyc
      have j0 : (0 : Int) ≤ (k : Int) := by omega
      have j1 : (k : Int) < (n : Int) := by omega
      have j2 : (k : Int) < (n : Int) + 1 := by omega
      have j3 : (0 : Int) ≤ (ylit.length : Int) + 64 := by omega
      have j4 : ((ylit.length : Int) + 64).toNat = ylit.length + 64 := by omega
      have j5 : ylit.length ≤ ylit.length + 64 := by omega
      go_wp2
      go_quiet ((go_at_call 31; go_loud (refine (PK.out _ (by first | exact below_drewN (below_drewN (Below.refl _ _) _) _ | exact below_drewN (Below.refl _ _) _ | exact Below.refl _ _)).mono ?_; rintro r w1 ⟨rfl, m, rfl⟩; exact ⟨rfl, _, (World.drewN_drewN ..).trans (congrArg _ (Nat.add_assoc ..))⟩)))
      go_wp2
      go_roundw
      case rel => exact ⟨k + 1, _, by omega, by go_num, rfl⟩
      case measure => simp [intOf]; omega
    · go_wp2
      go_ret
      exact ⟨rfl, _, rfl⟩
end Go.Proofs.Ytmdpncjffikmiaa
