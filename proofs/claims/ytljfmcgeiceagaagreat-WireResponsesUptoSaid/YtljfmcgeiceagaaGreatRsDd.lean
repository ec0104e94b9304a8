/- The document's reading of a response: what is carried. -/
import Derived.Test.YtljfmcgeiceagaaGreatRsDR
import Derived.Test.YtljfmcgeiceagaaGreatRsDec
import Derived.Test.YtljfmcgeiceagaaGreatRsRef3
namespace Go.Proofs.YtljfmcgeiceagaaGreat
open Go Go.RowKit
set_option linter.unusedVariables false
set_option linter.unusedSimpArgs false

/-- The document's reader in memory, a response's box, and the rows of its lists. -/
structure DdL (w0 W : World) (g : Nat) (v : Value) (s : Rs) (b : Nat) (x : Rp) (vr vn : Value) : Prop where
  rd : Rdr w0.heap.size W 95 Rs.rcells g v s
  bx : B8 W b (.int .u32 (x.id : Int)) (.int .i64 x.op) (.int .i64 x.code) (.int .i64 x.off) (.int .i64 x.num) (.bool x.more) vr vn
  bb : w0.heap.size ≤ b
  ng : b ≠ g
  nv : ∀ q, v.ownBlock = some q → q ≠ b
  on : W.ownsRow w0.heap.size 9 1 vn x.names.length (strs x.names)
  or_ : W.ownsRow w0.heap.size 43 7 vr x.recs.length (rcCells x.recs)
  be : Below w0.heap.size w0 W
section
variable {w0 W W' : World} {g : Nat} {v : Value} {s s' : Rs} {b : Nat} {x x' : Rp} {vr vn v' : Value}
theorem DdL.turn (h : DdL w0 W g v s b x vr vn) (ht : Turned w0.heap.size W 95 Rs.rcells g v s' W') : DdL w0 W' g v s' b x vr vn :=
  ⟨ht.rd, (ht.kept.block b h.bx.lt h.ng).trans h.bx, h.bb, h.ng, h.nv,
   own_keptS h.on ht.kept (fun q hq e => own_ne_kind h.on h.rd.cell (by decide) (by rw [hq, e])),
   own_keptS h.or_ ht.kept (fun q hq e => own_ne_kind h.or_ h.rd.cell (by decide) (by rw [hq, e])), h.be.trans (ht.low h.be.size)⟩
theorem DdL.below (h : DdL w0 W g v s b x vr vn) (hb : Below W.heap.size W W') : DdL w0 W' g v s b x vr vn :=
  ⟨h.rd.below hb, (hb.block b h.bx.lt).trans h.bx, h.bb, h.ng, h.nv, own_below h.on hb, own_below h.or_ hb, h.be.trans (hb.mono h.be.size)⟩
theorem Rdr.stored2 {base : Nat} {T : TypeId} {cf : Rs → Value → Array Value} {j : Nat} {u : Value} (h : Rdr base W T cf g v s) (hg : b ≠ g) (hv : ∀ q, v.ownBlock = some q → q ≠ b) : Rdr base (W.setCell ⟨b, j, none⟩ u) T cf g v s :=
  h.keptS (kept1_set W b j u) (fun e => hg e.symm) (fun q hq e => hv q hq e)
theorem DdL.put {j : Nat} {u : Value} (h : DdL w0 W g v s b x vr vn) (x' : Rp) (hn : x'.names = x.names) (hr : x'.recs = x.recs) (hx : B8 (W.setCell ⟨b, j, none⟩ u) b (.int .u32 (x'.id : Int)) (.int .i64 x'.op) (.int .i64 x'.code) (.int .i64 x'.off) (.int .i64 x'.num) (.bool x'.more) vr vn) : DdL w0 (W.setCell ⟨b, j, none⟩ u) g v s b x' vr vn :=
  ⟨h.rd.stored2 h.ng h.nv, hx, h.bb, h.ng, h.nv,
   by rw [hn]; exact ownsRow_setCell_other h.on (a := ⟨b, j, none⟩) (own_ne_kind h.on h.bx (by decide)) _,
   by rw [hr]; exact ownsRow_setCell_other h.or_ (a := ⟨b, j, none⟩) (own_ne_kind h.or_ h.bx (by decide)) _, h.be.setCell h.bb _⟩
theorem DdL.new (h : Rdr w0.heap.size W 95 Rs.rcells g v s) (hb : Below w0.heap.size w0 W) : DdL w0 (W.alloc zrp) g v s W.heap.size rp0 (.slice none 0 0) (.slice none 0 0) :=
  ⟨h.below ((Below.refl _ _).alloc (Nat.le_refl _) _), heap_alloc_new W _, hb.size, fun e => by have := h.lt; omega, fun q hq e => by have := (h.own.lt q hq).2; omega, World.ownsRow_nil _ _ _ _, World.ownsRow_nil _ _ _ _, hb.alloc hb.size _⟩
theorem DdL.pushN {y : ByteArray} {n : Nat} (h : DdL w0 W g v s b x vr vn) (hn : n = x.names.length) (ho : W'.ownsRow w0.heap.size 9 1 v' (n + 1) (strs x.names ++ [.string y])) (hg : W.grownBy W' vn.ownBlock) :
    DdL w0 (W'.setCell ⟨b, 7, none⟩ v') g v s b ⟨x.id, x.op, x.code, x.off, x.num, x.more, x.names ++ [y], x.recs⟩ vr v' := by
  subst hn
  have hk : KeptS W W' (fun q => vn.ownBlock = some q) := KeptS.of_grown (S := fun q => vn.ownBlock = some q) hg (fun q hq => hq)
  have hb : B8 W' b (.int .u32 (x.id : Int)) (.int .i64 x.op) (.int .i64 x.code) (.int .i64 x.off) (.int .i64 x.num) (.bool x.more) vr vn := (hk.block b h.bx.lt (own_ne_kind h.on h.bx (by decide))).trans h.bx
  have hi := h.rd.keptS hk (own_ne_kind h.on h.rd.cell (by decide)) (fun q hq e => by
    rcases own_types h.rd.own h.on (by decide) with h1 | h1
    · rw [h1] at hq; cases hq
    · exact h1 (hq.trans e.symm))
  refine ⟨hi.stored2 h.ng h.nv, hb.put7 v', h.bb, h.ng, h.nv, ?_, ?_, (h.be.trans (hk.below (fun q e => own_ge h.on e) h.be.size)).setCell h.bb _⟩
  · simp only [List.length_append, List.length_cons, List.length_nil]
    rw [show strs (x.names ++ [y]) = strs x.names ++ [.string y] by simp [strs]]
    exact ownsRow_setCell_other ho (a := ⟨b, 7, none⟩) (own_ne_kind ho hb (by decide)) _
  · have h2 := h.or_.kept hg (own_types h.or_ h.on (by decide))
    exact ownsRow_setCell_other h2 (a := ⟨b, 7, none⟩) (own_ne_kind h2 hb (by decide)) _
theorem DdL.pushR {y : Rc} {n : Nat} (h : DdL w0 W g v s b x vr vn) (hn : n = x.recs.length) (ho : W'.ownsRow w0.heap.size 43 7 v' (n + 1) (rcCells x.recs ++ y.cells)) (hg : W.grownBy W' vr.ownBlock) :
    DdL w0 (W'.setCell ⟨b, 6, none⟩ v') g v s b ⟨x.id, x.op, x.code, x.off, x.num, x.more, x.names, x.recs ++ [y]⟩ v' vn := by
  subst hn
  have hk : KeptS W W' (fun q => vr.ownBlock = some q) := KeptS.of_grown (S := fun q => vr.ownBlock = some q) hg (fun q hq => hq)
  have hb : B8 W' b (.int .u32 (x.id : Int)) (.int .i64 x.op) (.int .i64 x.code) (.int .i64 x.off) (.int .i64 x.num) (.bool x.more) vr vn := (hk.block b h.bx.lt (own_ne_kind h.or_ h.bx (by decide))).trans h.bx
  have hi := h.rd.keptS hk (own_ne_kind h.or_ h.rd.cell (by decide)) (fun q hq e => by
    rcases own_types h.rd.own h.or_ (by decide) with h1 | h1
    · rw [h1] at hq; cases hq
    · exact h1 (hq.trans e.symm))
  refine ⟨hi.stored2 h.ng h.nv, hb.put6 v', h.bb, h.ng, h.nv, ?_, ?_, (h.be.trans (hk.below (fun q e => own_ge h.or_ e) h.be.size)).setCell h.bb _⟩
  · have h2 := h.on.kept hg (own_types h.on h.or_ (by decide))
    exact ownsRow_setCell_other h2 (a := ⟨b, 6, none⟩) (own_ne_kind h2 hb (by decide)) _
  · simp only [List.length_append, List.length_cons, List.length_nil]
    rw [show rcCells (x.recs ++ [y]) = rcCells x.recs ++ y.cells by simp [rcCells]]
    exact ownsRow_setCell_other ho (a := ⟨b, 6, none⟩) (own_ne_kind ho hb (by decide)) _
theorem DdL.onj {j : Nat} (h : DdL w0 W g v s b x vr vn) (hn : x.names.length = j) : W.ownsRow w0.heap.size 9 1 vn j (strs x.names) := hn ▸ h.on
theorem DdL.orj {j : Nat} (h : DdL w0 W g v s b x vr vn) (hn : x.recs.length = j) : W.ownsRow w0.heap.size 43 7 vr j (rcCells x.recs) := hn ▸ h.or_
theorem DdL.bxn (h : DdL w0 W g v s b x vr vn) (hg : W.grownBy W' vn.ownBlock) : W'.cell? ⟨b, 7, none⟩ = some vn ∧ W'.frozen? ⟨b, 7, none⟩ = false := by
  have hb : B8 W' b (.int .u32 (x.id : Int)) (.int .i64 x.op) (.int .i64 x.code) (.int .i64 x.off) (.int .i64 x.num) (.bool x.more) vr vn := (hg.block b h.bx.lt (fun e => own_ne_kind h.on h.bx (by decide) e.symm)).trans h.bx
  exact ⟨hb.facts.2.2.2.2.2.2.2, hb.marks.2.2.2.2.2.2.2⟩
theorem DdL.bxr (h : DdL w0 W g v s b x vr vn) (hg : W.grownBy W' vr.ownBlock) : W'.cell? ⟨b, 6, none⟩ = some vr ∧ W'.frozen? ⟨b, 6, none⟩ = false := by
  have hb : B8 W' b (.int .u32 (x.id : Int)) (.int .i64 x.op) (.int .i64 x.code) (.int .i64 x.off) (.int .i64 x.num) (.bool x.more) vr vn := (hg.block b h.bx.lt (fun e => own_ne_kind h.or_ h.bx (by decide) e.symm)).trans h.bx
  exact ⟨hb.facts.2.2.2.2.2.2.1, hb.marks.2.2.2.2.2.2.1⟩
theorem rrest_at (h : DdL w0 W g v s b x vr vn) : Calls Tryz.prog 42 #[.pointer (some ⟨g, 0, none⟩)] W fun e w' => e = .returned (.int .i64 (s.rest : Int)) ∧ DdL w0 w' g v s b x vr vn := by
  refine (rrest_is w0.heap.size g v s W h.rd).mono ?_
  rintro e w' ⟨rfl, m, rfl⟩
  exact ⟨rfl, h.below (below_drewN (Below.refl _ _) m)⟩
theorem rraw_at {n : Nat} {l : List Nat} (h : DdL w0 W g v s b x vr vn) (hk : s.take (n : Int) = (l, s')) : Calls Tryz.prog 41 #[.pointer (some ⟨g, 0, none⟩), .int .i64 (n : Int)] W fun e w' => ∃ A c, e = .returned (.slice A l.length c) ∧ w'.ownsRow w0.heap.size 5 1 (.slice A l.length c) l.length (b8 l) ∧ DdL w0 w' g v s' b x vr vn := by
  have P := rraw_all w0.heap.size g v s (n : Int) W h.rd
  rw [hk] at P
  refine P.mono ?_
  rintro e w' ⟨A, c, rfl, ho, ht⟩
  exact ⟨A, c, rfl, own_lower ho h.be.size, h.turn ht⟩
end
theorem bd_code16 (b : List Nat) : (bd b).2 ≠ 0 → (bd b).2 = 160 := by
  unfold bd
  split
  · intro _; rfl
  split
  · intro h; exact absurd rfl h
  · intro _; rfl
theorem num_bs (s : Rs) : s.num.2.bs = s.bs := by
  unfold Rs.num; split
  · rfl
  split
  · rfl
  · exact Rs.fail_bs _ _
theorem take_bs2 (s : Rs) (n : Int) : (s.take n).2.bs = s.bs := by
  unfold Rs.take
  split
  · rfl
  split
  · exact Rs.fail_bs _ _
  split
  · exact Rs.fail_bs _ _
  · rfl
theorem text_bs (s : Rs) (most : Int) : (s.text most).2.bs = s.bs := by
  unfold Rs.text
  split
  · rfl
  split
  · exact num_bs s
  split
  · rw [Rs.failAt_bs, num_bs]
  split
  · rw [Rs.failAt_bs, num_bs]
  · exact num_bs s
theorem nms_bs (s : Rs) : ∀ k, (nms k s).2.bs = s.bs
  | 0 => rfl
  | k + 1 => (text_bs _ _).trans (nms_bs s k)
theorem take_len9 (s : Rs) (n : Int) : (s.take n).1.length ≤ s.bs.length := by
  unfold Rs.take
  split
  · simp
  split
  · simp
  split
  · simp
  · simp only [List.length_take, List.length_drop]; omega
theorem dpr0_len (bs : List Nat) : (dpr0 bs).1.r.length ≤ bs.length := by
  unfold dpr0
  simp only
  refine Nat.le_trans (take_len9 _ _) ?_
  unfold vi
  simp only [num_bs, nms_bs, take_bs2]
  exact Nat.le_refl _
theorem drc_stop {j : Nat} {rl : List Nat} {l : List Rc} (h : drc j rl = some (l, [])) : ∀ {k : Nat}, j ≤ k → drc k rl = some (l, []) := by
  intro k hk
  induction k with
  | zero => rw [show j = 0 by omega] at h; exact h
  | succ k ih =>
    by_cases he : j = k + 1
    · rw [he] at h; exact h
    · unfold drc
      rw [ih (by omega)]
      rfl
theorem drc_none {j : Nat} {rl : List Nat} (h : drc j rl = none) : ∀ {k : Nat}, j ≤ k → drc k rl = none := by
  intro k hk
  induction k with
  | zero => rw [show j = 0 by omega] at h; exact h
  | succ k ih =>
    by_cases he : j = k + 1
    · rw [he] at h; exact h
    · unfold drc
      rw [ih (by omega)]
      rfl
theorem drc_succ {j : Nat} {rl r : List Nat} {l : List Rc} (h : drc j rl = some (l, r)) (hr : r ≠ []) : drc (j + 1) rl = rcs1 (some (l, r)) := by
  show drc1 (drc j rl) = _
  rw [h]
  unfold drc1
  simp only
  rw [if_neg hr]
/-- Records under way: j of them are read, the rest of the bytes stands at p. -/
structure DrS (w1 wx : World) (g : Nat) (v : Value) (s : Rs) (g8 : Nat) (F : List Rc → Rp) (A0 : Option Addr) (c0 : Nat) (rl : List Nat) (vn : Value) (j p : Nat) (lj : List Rc) (vr s11v : Value) : Prop where
  rc : drc j rl = some (lj, rl.drop p)
  le : p ≤ rl.length
  len : lj.length = j
  j14 : j * 14 ≤ p
  at_ : At11 A0 rl p s11v
  rd : DdL w1 wx g v s g8 (F lj) vr vn
  ow : wx.ownsRow w1.heap.size 5 1 (.slice A0 rl.length c0) rl.length (b8 rl)
theorem drs_next {w1 W : World} {g : Nat} {v : Value} {s : Rs} {g8 : Nat} {F : List Rc → Rp} {q0 c0 : Nat} {rl : List Nat} {vn vr : Value} {j p sz N c' : Nat} {lj : List Rc} {y : Rc} {x' : Rp} (hF : F (lj ++ [y]) = x') (hrc : drc (j + 1) rl = some (lj ++ [y], (rl.drop p).drop sz)) (hN : N = rl.length - p) (hle : p ≤ rl.length) (h14 : 14 ≤ sz) (hj : j * 14 ≤ p) (hsz : sz ≤ N) (hnc : N ≤ c') (hlen : lj.length = j)
    (hrd : DdL w1 W g v s g8 x' vr vn) (how : W.ownsRow w1.heap.size 5 1 (.slice (some ⟨q0, 0, none⟩) rl.length c0) rl.length (b8 rl)) :
    DrS w1 W g v s g8 F (some ⟨q0, 0, none⟩) c0 rl vn (j + 1) (p + sz) (lj ++ [y]) vr (.slice (if c' = sz then some ⟨q0, p, none⟩ else some ⟨q0, p + sz, none⟩) (N - sz) (c' - sz)) := by
  subst hN
  refine ⟨by rw [hrc, List.drop_drop], by omega, by simp [hlen], by omega, ⟨_, c' - sz, by rw [show rl.length - p - sz = rl.length - (p + sz) by omega], by omega, fun hp => ⟨q0, rfl, by rw [if_neg (by omega)]⟩⟩, by rw [hF]; exact hrd, how⟩
end Go.Proofs.YtljfmcgeiceagaaGreat
