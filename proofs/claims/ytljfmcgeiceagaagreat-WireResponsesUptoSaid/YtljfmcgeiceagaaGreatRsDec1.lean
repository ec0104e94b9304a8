/- wire.DecodeResponse: laws of its regions. -/
import Derived.Test.YtljfmcgeiceagaaGreatRsRd
import Derived.Test.YtljfmcgeiceagaaGreatF5
import Derived.Deep.RegionLaw
namespace Go.Proofs.YtljfmcgeiceagaaGreat
open Go Go.RowKit
set_option linter.unusedVariables false
set_option linter.unusedSimpArgs false

/-- A call of a function, as a step of a region that draws. -/
theorem step_fn {P : Program} {ops : Array Oper} {o : Oper} {a : Act} {w : World} {K : Act → World → Prop} {Q : Exit → Act → World → Prop} {E : Prop} (hg : o.guard = none) {f : FuncId} {args : Array Value} (hrun : (execOp a.eval o).run P w = .ok (.enter f args) w) {R : Ending → World → Prop} (hc : Calls P f args w R) (hK : ∀ e w', R e w' → ∃ v, e = .returned v ∧ K (a.put o.dst v) w') :
    if Region.wanted o (yielded ops a.tmps) = true then Oper.wp P o a w K Q else E := by
  rw [if_pos (by simp [Region.wanted, hg])]
  unfold Oper.wp
  rw [hrun, Oper.upon_enter]
  refine hc.mono ?_
  intro e w' h
  obtain ⟨v, rfl, hk⟩ := hK e w' h
  exact hk
theorem infoS : (Tryz.prog.info? 9).map (fun i => (i.zero, i.size, i.bytes)) = some (some (.string ⟨#[]⟩), 1, 16) := by kernel_rfl
set_option maxRecDepth 100000 in
/-- One string behind a row of the call's own, as a step of a region that draws. -/
theorem step_pushS (w : World) {ops : Array Oper} {o : Oper} {a : Act} {K : Act → World → Prop} {Q : Exit → Act → World → Prop} {E : Prop} (hgd : o.guard = none) (s x : Operand)
    (ho : o.op = .call { callee := .builtin .append, args := #[s, x], argTypes := #[24, 24] })
    (base : Nat) (v : Value) (n : Nat) (xs : List Value) (hs : a.eval s = v) (hown : w.ownsRow base 9 1 v n xs) (y : ByteArray) (q : Nat) (hq : q = w.heap.size)
    (hx : a.eval x = .slice (some ⟨q, 0, none⟩) 1 1)
    (hbytes : (n + 1) * 16 ≤ 140737488355328) (hbase : base ≤ w.heap.size)
    (h : ∀ v' w', w'.ownsRow base 9 1 v' (n + 1) (xs ++ [.string y]) → w.grownBy w' v.ownBlock → K (a.put o.dst v') w') :
    if Region.wanted o (yielded ops a.tmps) = true then Oper.wp Tryz.prog o a (w.alloc (.cells #[.string y] 9)) K Q else E := by
  subst hq
  have hw : Region.wanted o (yielded ops a.tmps) = true := by simp [Region.wanted, hgd]
  rw [if_pos hw]
  obtain ⟨i0, hi, hz0, hz1, hz2⟩ := info_parts infoS
  have hr : Rd (w.alloc (.cells #[.string y] 9)) (some ⟨w.heap.size, 0, none⟩) [.string y] := rd_lit w _ _
  obtain ⟨v', w', hrun, h2, h3, _, h5⟩ := run_append_own_at (P := Tryz.prog) (w.alloc (.cells #[.string y] 9)) base 24 o.type 9 i0 _ 1 16 Tryz.underlying24 hi hz0 hz1 hz2 rfl (by omega) v n xs (hown.alloc _) ⟨w.heap.size, 0, none⟩ 1 1 [.string y] rfl
    (by
      intro j u hj
      obtain ⟨g, off, e, _, hc⟩ := hr (by simp)
      injection e with e
      injection e with e1 e2
      subst e1 e2
      have h1 := hc j u hj
      rw [Nat.zero_add] at h1
      have e3 : (⟨w.heap.size, 0, none⟩ : Addr).add j = ⟨w.heap.size, j, none⟩ := by
        unfold Addr.add
        split
        next h0 => rw [show j = 0 from h0]
        next h0 => simp
      rw [e3]
      exact h1)
    (fun u hu => by simp at hu; rw [hu]; rfl) (by unfold maxLen; omega) hbytes (by simp; omega)
  unfold Oper.wp execOp
  simp only [ho, resolve, invoke, builtin, Sem.run_bind, Sem.run_pure, Result.andThen_ok, List.map_toArray, List.map_cons, List.map_nil, hs, hx, hrun]
  exact h v' w' h2 (grown_trans (World.grownBy_alloc w _ _) h3)
section
variable {w0 W W' : World} {g : Nat} {v : Value} {s s' : Rs} {gi b : Nat} {x x' : Rp} {vr vn v' : Value}
theorem RdI.keptS {S : Nat → Prop} (h : RdI w0 W g v s gi) (hk : KeptS W W' S) (hg : ¬ S g) (hi : ¬ S gi) (hv : ∀ q, v.ownBlock = some q → ¬ S q) (hlow : ∀ q, S q → w0.heap.size ≤ q) : RdI w0 W' g v s gi :=
  ⟨h.rd.keptS hk hg hv, (hk.block gi h.lt hi).trans h.ci, h.n1, h.nv, h.b0, h.be.trans (hk.below hlow h.be.size)⟩
theorem RdL.pushN {y : ByteArray} {n : Nat} (h : RdL w0 W g v s gi b x vr vn) (hn : n = x.names.length) (ho : W'.ownsRow w0.heap.size 9 1 v' (n + 1) (strs x.names ++ [.string y])) (hg : W.grownBy W' vn.ownBlock) :
    RdL w0 (W'.setCell ⟨b, 7, none⟩ v') g v s gi b ⟨x.id, x.op, x.code, x.off, x.num, x.more, x.names ++ [y], x.recs⟩ vr v' := by
  subst hn
  have hk : KeptS W W' (fun q => vn.ownBlock = some q) := KeptS.of_grown (S := fun q => vn.ownBlock = some q) hg (fun q hq => hq)
  have hb : B8 W' b (.int .u32 (x.id : Int)) (.int .i64 x.op) (.int .i64 x.code) (.int .i64 x.off) (.int .i64 x.num) (.bool x.more) vr vn := (hk.block b h.bx.lt (own_ne_kind h.on h.bx (by decide))).trans h.bx
  have hi := h.ri.keptS hk (own_ne_kind h.on h.ri.rd.cell (by decide)) (own_ne_kind h.on h.ri.ci (by decide)) (fun q hq e => by
    rcases own_types h.ri.rd.own h.on (by decide) with h1 | h1
    · rw [h1] at hq; cases hq
    · exact h1 (hq.trans e.symm)) (fun q e => own_ge h.on e)
  refine ⟨hi.stored h.bb h.ng h.ni h.nv, hb.put7 v', h.bb, h.ng, h.ni, h.nv, ?_, ?_⟩
  · simp only [List.length_append, List.length_cons, List.length_nil]
    rw [show strs (x.names ++ [y]) = strs x.names ++ [.string y] by simp [strs]]
    exact ownsRow_setCell_other ho (a := ⟨b, 7, none⟩) (own_ne_kind ho hb (by decide)) _
  · have h2 := h.or_.kept hg (own_types h.or_ h.on (by decide))
    exact ownsRow_setCell_other h2 (a := ⟨b, 7, none⟩) (own_ne_kind h2 hb (by decide)) _
theorem RdL.pushR {y : Rc} {n : Nat} (h : RdL w0 W g v s gi b x vr vn) (hn : n = x.recs.length) (ho : W'.ownsRow w0.heap.size 43 7 v' (n + 1) (rcCells x.recs ++ y.cells)) (hg : W.grownBy W' vr.ownBlock) :
    RdL w0 (W'.setCell ⟨b, 6, none⟩ v') g v s gi b ⟨x.id, x.op, x.code, x.off, x.num, x.more, x.names, x.recs ++ [y]⟩ v' vn := by
  subst hn
  have hk : KeptS W W' (fun q => vr.ownBlock = some q) := KeptS.of_grown (S := fun q => vr.ownBlock = some q) hg (fun q hq => hq)
  have hb : B8 W' b (.int .u32 (x.id : Int)) (.int .i64 x.op) (.int .i64 x.code) (.int .i64 x.off) (.int .i64 x.num) (.bool x.more) vr vn := (hk.block b h.bx.lt (own_ne_kind h.or_ h.bx (by decide))).trans h.bx
  have hi := h.ri.keptS hk (own_ne_kind h.or_ h.ri.rd.cell (by decide)) (own_ne_kind h.or_ h.ri.ci (by decide)) (fun q hq e => by
    rcases own_types h.ri.rd.own h.or_ (by decide) with h1 | h1
    · rw [h1] at hq; cases hq
    · exact h1 (hq.trans e.symm)) (fun q e => own_ge h.or_ e)
  refine ⟨hi.stored h.bb h.ng h.ni h.nv, hb.put6 v', h.bb, h.ng, h.ni, h.nv, ?_, ?_⟩
  · have h2 := h.on.kept hg (own_types h.on h.or_ (by decide))
    exact ownsRow_setCell_other h2 (a := ⟨b, 6, none⟩) (own_ne_kind h2 hb (by decide)) _
  · simp only [List.length_append, List.length_cons, List.length_nil]
    rw [show rcCells (x.recs ++ [y]) = rcCells x.recs ++ y.cells by simp [rcCells]]
    exact ownsRow_setCell_other ho (a := ⟨b, 6, none⟩) (own_ne_kind ho hb (by decide)) _
end
theorem RdL.onj {w0 W : World} {g : Nat} {v : Value} {s : Rs} {gi b j : Nat} {x : Rp} {vr vn : Value} (h : RdL w0 W g v s gi b x vr vn) (hn : x.names.length = j) : W.ownsRow w0.heap.size 9 1 vn j (strs x.names) := hn ▸ h.on
theorem RdL.orj {w0 W : World} {g : Nat} {v : Value} {s : Rs} {gi b j : Nat} {x : Rp} {vr vn : Value} (h : RdL w0 W g v s gi b x vr vn) (hn : x.recs.length = j) : W.ownsRow w0.heap.size 43 7 vr j (rcCells x.recs) := hn ▸ h.or_
theorem RdL.bxn {w0 W W' : World} {g : Nat} {v : Value} {s : Rs} {gi b : Nat} {x : Rp} {vr vn : Value} (h : RdL w0 W g v s gi b x vr vn) (hg : W.grownBy W' vn.ownBlock) : W'.cell? ⟨b, 7, none⟩ = some vn ∧ W'.frozen? ⟨b, 7, none⟩ = false := by
  have hb : B8 W' b (.int .u32 (x.id : Int)) (.int .i64 x.op) (.int .i64 x.code) (.int .i64 x.off) (.int .i64 x.num) (.bool x.more) vr vn := (hg.block b h.bx.lt (fun e => own_ne_kind h.on h.bx (by decide) e.symm)).trans h.bx
  exact ⟨hb.facts.2.2.2.2.2.2.2, hb.marks.2.2.2.2.2.2.2⟩
theorem RdL.bxr {w0 W W' : World} {g : Nat} {v : Value} {s : Rs} {gi b : Nat} {x : Rp} {vr vn : Value} (h : RdL w0 W g v s gi b x vr vn) (hg : W.grownBy W' vr.ownBlock) : W'.cell? ⟨b, 6, none⟩ = some vr ∧ W'.frozen? ⟨b, 6, none⟩ = false := by
  have hb : B8 W' b (.int .u32 (x.id : Int)) (.int .i64 x.op) (.int .i64 x.code) (.int .i64 x.off) (.int .i64 x.num) (.bool x.more) vr vn := (hg.block b h.bx.lt (fun e => own_ne_kind h.or_ h.bx (by decide) e.symm)).trans h.bx
  exact ⟨hb.facts.2.2.2.2.2.2.1, hb.marks.2.2.2.2.2.2.1⟩
theorem nms_succ (j : Nat) (s : Rs) : nms (j + 1) s = ((nms j s).1 ++ [strOf ((nms j s).2.text 24).1], ((nms j s).2.text 24).2) := rfl
/-- Behind the response's variable. -/
def RelP (w0 : World) (g : Nat) (v : Value) (s : Rs) (gi : Nat) (o c : Nat) (s8 : Value) (wx : World) : Prop :=
  ∃ g8, s8 = .pointer (some ⟨g8, 0, none⟩) ∧ RdL w0 wx g v s gi g8 ⟨0, o, c, 0, 0, false, [], []⟩ (.slice none 0 0) (.slice none 0 0)
theorem relp_chain {w0 W : World} {g : Nat} {v : Value} {s : Rs} {gi o c b : Nat} {x0 x1 x2 x3 x4 x5 x6 x7 : Value} (hz : B8 W b x0 x1 x2 x3 x4 x5 x6 x7) (hd : RdI w0 W g v s gi) (hb : w0.heap.size ≤ b) (h1 : b ≠ g) (h2 : b ≠ gi) (h4 : ∀ q, v.ownBlock = some q → q ≠ b) :
    RelP w0 g v s gi o c (.pointer (some ⟨b, 0, none⟩)) ((((((((W.setCell ⟨b, 0, none⟩ (.int .u32 0)).setCell ⟨b, 1, none⟩ (.int .i64 (o : Int))).setCell ⟨b, 2, none⟩ (.int .i64 (c : Int))).setCell ⟨b, 3, none⟩ (.int .i64 0)).setCell ⟨b, 4, none⟩ (.int .i64 0)).setCell ⟨b, 5, none⟩ (.bool false)).setCell ⟨b, 6, none⟩ (.slice none 0 0)).setCell ⟨b, 7, none⟩ (.slice none 0 0)) :=
  ⟨b, rfl, RdL.new ((((((((hd.stored hb h1 h2 h4).stored hb h1 h2 h4).stored hb h1 h2 h4).stored hb h1 h2 h4).stored hb h1 h2 h4).stored hb h1 h2 h4).stored hb h1 h2 h4).stored hb h1 h2 h4) ((((((((hz.put0 _).put1 _).put2 _).put3 _).put4 _).put5 _).put6 _).put7 _) hb h1 h2 h4 rfl rfl⟩
theorem relp_alloc {w0 W : World} {g : Nat} {v : Value} {s : Rs} {gi o c : Nat} (hd : RdI w0 W g v s gi) :
    RelP w0 g v s gi o c (.pointer (some ⟨W.heap.size, 0, none⟩)) (W.alloc (.cells #[.int .u32 0, .int .i64 (o : Int), .int .i64 (c : Int), .int .i64 0, .int .i64 0, .bool false, .slice none 0 0, .slice none 0 0] 26)) :=
  ⟨W.heap.size, rfl, RdL.new (hd.below ((Below.refl _ _).alloc (Nat.le_refl _) _)) (heap_alloc_new W _) hd.be.size (fun e => by have := hd.rd.lt; omega) (fun e => by have := hd.lt; omega) (fun q hq e => by have := (hd.rd.own.lt q hq).2; omega) rfl rfl⟩
theorem B8.keptg {W W' : World} {b g : Nat} {x0 x1 x2 x3 x4 x5 x6 x7 : Value} (h : B8 W b x0 x1 x2 x3 x4 x5 x6 x7) (hk : KeptS W W' (fun q => q = g)) (hne : b ≠ g) : B8 W' b x0 x1 x2 x3 x4 x5 x6 x7 := (hk.block b h.lt hne).trans h
/-- A byte read, whose place in memory is told. -/
def ByteAt (w0 : World) (g : Nat) (v : Value) (gi x : Nat) (s' : Rs) (W : World) (e : Ending) (w' : World) : Prop := e = .returned (.int .u8 (x : Int)) ∧ RdI w0 w' g v s' gi ∧ KeptS W w' (fun q => q = g)
theorem byte_at {w0 W : World} {g : Nat} {v : Value} {s s' : Rs} {gi x : Nat} {l : List Nat} (h : RdI w0 W g v s gi) (hk : s.take 1 = (l, s')) (hx : x = l.headD 0) : Calls Tryz.prog 26 #[.pointer (some ⟨g, 0, none⟩)] W (ByteAt w0 g v gi x s' W) := by
  have P := byte_r w0.heap.size g v s W h.rd
  rw [hk] at P
  refine P.mono ?_
  rintro e w' ⟨rfl, ht⟩
  exact ⟨by rw [hx], h.turn ht, ht.kept⟩
theorem bd_small {b : List Nat} (hb : By b) (h : (bd b).2 = 0) : (bd b).1.length ≤ 4087 := by
  by_cases hl : 9 < b.length
  · rw [bd_frame hb hl] at h ⊢
    by_cases hf : frm (b.drop 9) = (b, 0)
    · rw [if_pos hf]
      unfold frm at hf
      split at hf
      · injection hf with _ e; cases e
      · split at hf
        · injection hf with _ e; cases e
        · simp only; omega
    · rw [if_neg hf] at h
      cases h
  · rw [bd_short (by omega)] at h
    cases h
theorem rs_take_len {s : Rs} (h : s.Ok) (n : Int) : (s.take n).1.length ≤ 140737488351232 := by
  have := h.sz
  unfold Rs.take
  split
  · simp
  · split
    · simp
    · split
      · simp
      · simp only [List.length_take, List.length_drop]; omega
theorem rest_at {w0 W : World} {g : Nat} {v : Value} {s : Rs} {gi b : Nat} {x : Rp} {vr vn : Value} (h : RdL w0 W g v s gi b x vr vn) : Calls Tryz.prog 32 #[.pointer (some ⟨g, 0, none⟩)] W fun e w' => e = .returned (.int .i64 (s.rest : Int)) ∧ RdL w0 w' g v s gi b x vr vn := by
  refine (rest_is w0.heap.size g v s W h.ri.rd).mono ?_
  rintro e w' ⟨rfl, m, rfl⟩
  exact ⟨rfl, h.below (below_drewN (Below.refl _ _) m)⟩
theorem raw_at {w0 W : World} {g : Nat} {v : Value} {s s' : Rs} {gi b n : Nat} {x : Rp} {vr vn : Value} {l : List Nat} (h : RdL w0 W g v s gi b x vr vn) (hk : s.take (n : Int) = (l, s')) : Calls Tryz.prog 31 #[.pointer (some ⟨g, 0, none⟩), .int .i64 (n : Int)] W fun e w' => ∃ A c, e = .returned (.slice A l.length c) ∧ w'.ownsRow w0.heap.size 5 1 (.slice A l.length c) l.length (b8 l) ∧ RdL w0 w' g v s' gi b x vr vn := by
  have P := raw_r w0.heap.size g v s (n : Int) W h.ri.rd
  rw [hk] at P
  refine P.mono ?_
  rintro e w' ⟨A, c, rfl, ho, ht⟩
  exact ⟨A, c, rfl, own_lower ho h.ri.be.size, h.turn ht⟩
theorem end_at {w0 W : World} {g : Nat} {v : Value} {s : Rs} {gi b : Nat} {x : Rp} {vr vn : Value} (h : RdL w0 W g v s gi b x vr vn) : Calls Tryz.prog 33 #[.pointer (some ⟨g, 0, none⟩)] W fun e w' => e = .returned (.agg #[.int .i64 s.fin.1, .int .i64 (s.fin.2 : Int)]) ∧ RdL w0 w' g v s gi b x vr vn ∧ Below W.heap.size W w' := by
  refine (end_r w0.heap.size g v s W h.ri.rd).mono ?_
  rintro e w' ⟨he, hb⟩
  exact ⟨he, h.below hb, hb⟩
/-- Where the records' bytes go on. -/
def At11 (A0 : Option Addr) (rl : List Nat) (p : Nat) (s11 : Value) : Prop := ∃ A' c', s11 = .slice A' (rl.length - p) c' ∧ rl.length - p ≤ c' ∧ (p < rl.length → ∃ q, A0 = some ⟨q, 0, none⟩ ∧ A' = some ⟨q, p, none⟩)
theorem rd_drop8 {W : World} {q p : Nat} {l : List Nat} (h : Rd W (some ⟨q, 0, none⟩) (b8 l)) : Rd W (some ⟨q, p, none⟩) (b8 (l.drop p)) := by
  intro hne
  have hl : l ≠ [] := by rintro rfl; simp [b8] at hne
  obtain ⟨g, off, e, hg, hc⟩ := h (by unfold b8; simpa using hl)
  injection e with e
  injection e with e1 e2
  subst e1 e2
  refine ⟨q, p, rfl, hg, fun k u hu => ?_⟩
  have := hc (p + k) u (by unfold b8 at hu ⊢; rw [List.map_drop, List.getElem?_drop] at hu; exact hu)
  rwa [Nat.zero_add] at this
theorem at11_rd {W : World} {A0 A' : Option Addr} {rl : List Nat} {p : Nat} (h : Rd W A0 (b8 rl)) (ha : p < rl.length → ∃ q, A0 = some ⟨q, 0, none⟩ ∧ A' = some ⟨q, p, none⟩) : Rd W A' (b8 (rl.drop p)) := by
  by_cases hp : p < rl.length
  · obtain ⟨q, rfl, rfl⟩ := ha hp
    exact rd_drop8 h
  · rw [List.drop_of_length_le (by omega)]
    exact Rd.nil_ _ _
theorem rcs1_ok {l : List Rc} {r : List Nat} {x : Rc} {n : Nat} (h : rdec r = (x, n, 0)) : rcs1 (some (l, r)) = some (l ++ [x], r.drop n) := by unfold rcs1; simp only [h]; rfl
theorem rcs1_bad {l : List Rc} {r : List Nat} {x : Rc} {n e : Nat} (h : rdec r = (x, n, e)) (he : e ≠ 0) : rcs1 (some (l, r)) = none := by unfold rcs1; simp only [h]; rw [if_neg he]
theorem q32_lt (s : Rs) : (q32 s).1 < 4294967296 := by unfold q32; simp only; exact Nat.mod_lt _ (by omega)
theorem nm_of {ii op co m : Nat} {of nu : Int} {ns : List ByteArray} (h1 : ii < 4294967296) (h2 : op < 256) (h3 : co < 256) (h4 : r64 of) (h5 : r64 nu) (mo : Bool) (l : List Rc) : Rp.Nm ⟨ii, op, co, of, nu, mo, ns, l⟩ := ⟨h1, ⟨by show (_ : Int) ≤ ((op : Nat) : Int); omega, by show ((op : Nat) : Int) ≤ _; omega⟩, ⟨by show (_ : Int) ≤ ((co : Nat) : Int); omega, by show ((co : Nat) : Int) ≤ _; omega⟩, h4, h5⟩
theorem prs2_left {F : List Rc → Rp} {l : List Rc} {r : List Nat} (h : r ≠ []) : prs2 F (some (l, r)) = none := by unfold prs2; simp only; rw [if_pos (.inl h)]
theorem prs2_bad {F : List Rc → Rp} {l : List Rc} {r : List Nat} (h : (renp (F l)).2 ≠ 0) : prs2 F (some (l, r)) = none := by unfold prs2; simp only; rw [if_pos (.inr h)]
theorem prs2_ok {F : List Rc → Rp} {l : List Rc} (h : (renp (F l)).2 = 0) : prs2 F (some (l, [])) = some (F l) := by unfold prs2; simp only; rw [if_neg]; rintro (h1 | h1); exact h1 rfl; exact h1 h
theorem encs_total : ∀ l : List Rc, (l.flatMap encs).length ≤ l.length * 1124
  | [] => by simp
  | x :: r => by
    have h1 := encs_total r
    have h2 : (encs x).length ≤ 1124 := rsize_le x
    rw [List.flatMap_cons, List.length_append, List.length_cons]
    omega
theorem meas_next {j n : Nat} (h : j < n) : n - (intOf (.int .i64 ((j + 1 : Nat) : Int))).toNat < n - (intOf (.int .i64 (j : Int))).toNat := by simp [intOf]; omega
theorem wrap_next {j n : Nat} (h : j < n) (h2 : n ≤ 4087) : wrap64 ((j : Int) + 1) = ((j + 1 : Nat) : Int) := by unfold wrap64; omega
/-- Records under way: j of them are read, the rest of the bytes stands at p. -/
structure RecS (w1 wx : World) (g : Nat) (v : Value) (s : Rs) (gi g8 : Nat) (F : List Rc → Rp) (A0 : Option Addr) (c0 : Nat) (rl : List Nat) (vn : Value) (j p : Nat) (lj : List Rc) (vr s11v : Value) : Prop where
  rc : rcs j rl = some (lj, rl.drop p)
  le : p ≤ rl.length
  len : lj.length = j
  at_ : At11 A0 rl p s11v
  rd : RdL w1 wx g v s gi g8 (F lj) vr vn
  ow : wx.ownsRow w1.heap.size 5 1 (.slice A0 rl.length c0) rl.length (b8 rl)
theorem at11_start {W : World} {base : Nat} {A0 : Option Addr} {c0 : Nat} {rl : List Nat} (h : W.ownsRow base 5 1 (.slice A0 rl.length c0) rl.length (b8 rl)) : At11 A0 rl 0 (.slice A0 rl.length c0) := by
  refine ⟨A0, c0, by simp, by have := own_cap h; omega, fun hp => ?_⟩
  obtain ⟨g, rfl, _⟩ := own_pos h hp
  exact ⟨g, rfl, rfl⟩
theorem recs_next {w1 W : World} {g : Nat} {v : Value} {s : Rs} {gi g8 : Nat} {F : List Rc → Rp} {q0 c0 : Nat} {rl : List Nat} {vn vr : Value} {j p sz N c' : Nat} {lj : List Rc} {y : Rc} {x' : Rp} (hF : F (lj ++ [y]) = x') (hrc : rcs (j + 1) rl = some (lj ++ [y], (rl.drop p).drop sz)) (hN : N = rl.length - p) (hle : p ≤ rl.length) (hsz : sz ≤ N) (hnc : N ≤ c') (hlen : lj.length = j)
    (hrd : RdL w1 W g v s gi g8 x' vr vn) (how : W.ownsRow w1.heap.size 5 1 (.slice (some ⟨q0, 0, none⟩) rl.length c0) rl.length (b8 rl)) :
    RecS w1 W g v s gi g8 F (some ⟨q0, 0, none⟩) c0 rl vn (j + 1) (p + sz) (lj ++ [y]) vr (.slice (if c' = sz then some ⟨q0, p, none⟩ else some ⟨q0, p + sz, none⟩) (N - sz) (c' - sz)) := by
  subst hN
  refine ⟨by rw [hrc, List.drop_drop], by omega, by simp [hlen], ⟨_, c' - sz, by rw [show rl.length - p - sz = rl.length - (p + sz) by omega], by omega, fun hp => ⟨q0, rfl, by rw [if_neg (by omega)]⟩⟩, by rw [hF]; exact hrd, how⟩
/-- What DecodeResponse gives. -/
def DecR (w : World) (q : Rp × Int) (e : Ending) (w' : World) : Prop :=
  ∃ vr vn, e = .returned (.tuple #[q.1.V vr vn, .int .i64 q.2]) ∧ w'.ownsRow w.heap.size 9 1 vn q.1.names.length (strs q.1.names) ∧ w'.ownsRow w.heap.size 43 7 vr q.1.recs.length (rcCells q.1.recs) ∧ Below w.heap.size w w'
abbrev W8 (W : World) (b : Nat) (c0 c1 c2 c3 c4 c5 c6 c7 : Value) : World := ((((((((W.setCell ⟨b, 0, none⟩ c0).setCell ⟨b, 1, none⟩ c1).setCell ⟨b, 2, none⟩ c2).setCell ⟨b, 3, none⟩ c3).setCell ⟨b, 4, none⟩ c4).setCell ⟨b, 5, none⟩ c5).setCell ⟨b, 6, none⟩ c6).setCell ⟨b, 7, none⟩ c7)
theorem below_w8 {w W : World} {b : Nat} (c0 c1 c2 c3 c4 c5 c6 c7 : Value) (h : Below w.heap.size w W) (hr : w.heap.size ≤ b) : Below w.heap.size w (W8 W b c0 c1 c2 c3 c4 c5 c6 c7) :=
  (((((((h.setCell hr _).setCell hr _).setCell hr _).setCell hr _).setCell hr _).setCell hr _).setCell hr _).setCell hr _
theorem own_w8 {W : World} {b base : Nat} {e : TypeId} {sz n : Nat} {v : Value} {xs : List Value} {x0 x1 x2 x3 x4 x5 x6 x7 : Value} (hz : B8 W b x0 x1 x2 x3 x4 x5 x6 x7) (c0 c1 c2 c3 c4 c5 c6 c7 : Value) (h : W.ownsRow base e sz v n xs) (hne : e ≠ 26) : (W8 W b c0 c1 c2 c3 c4 c5 c6 c7).ownsRow base e sz v n xs := by
  have hb := own_ne_kind h hz hne
  exact ownsRow_setCell_other (ownsRow_setCell_other (ownsRow_setCell_other (ownsRow_setCell_other (ownsRow_setCell_other (ownsRow_setCell_other (ownsRow_setCell_other (ownsRow_setCell_other h (a := ⟨b, 0, none⟩) hb _) (a := ⟨b, 1, none⟩) hb _) (a := ⟨b, 2, none⟩) hb _) (a := ⟨b, 3, none⟩) hb _) (a := ⟨b, 4, none⟩) hb _) (a := ⟨b, 5, none⟩) hb _) (a := ⟨b, 6, none⟩) hb _) (a := ⟨b, 7, none⟩) hb _
end Go.Proofs.YtljfmcgeiceagaaGreat
