/- Several texts in one: AppStep, RRdr, RRdr2, RRdr3, RRdr4, RRdr5. -/
import Derived.Test.YtljfmcgeiceagaaGreatF1
import Derived.Test.YtljfmcgeiceagaaGreatF2
import Derived.Deep.RegionHeld3
import Derived.Lib.AppendStr
import Derived.Test.YtljfmcgeiceagaaGreatF4
import Derived.StillTailTactics
/- append as one step of a region that draws. -/
namespace Go.Proofs.YtljfmcgeiceagaaGreat
open Go Go.RowKit
set_option linter.unusedVariables false

section
variable {P : Program}
/-- One step: the value and the world. -/
theorem oper_app (w : World) {o : Oper} {a : Act} {Q : Exit → Act → World → Prop} {K : Act → World → Prop} (s x : Operand) (t u : TypeId)
    (ho : o.op = .call { callee := .builtin .append, args := #[s, x], argTypes := #[t, u] }) (v y v' : Value) (w' : World) (hs : a.eval s = v) (hx : a.eval x = y)
    (hrun : (Builtin.append_ #[t, u] o.type #[v, y]).run P w = .ok v' w') (hK : K (a.put o.dst v') w') : Oper.wp P o a w K Q := by
  unfold Oper.wp execOp
  simp only [ho, resolve, invoke, builtin, Sem.run_bind, Sem.run_pure, Result.andThen_ok, List.map_toArray, List.map_cons, List.map_nil, hs, hx, hrun]
  exact hK
theorem run_app (w : World) (base : Nat) (t ty e : TypeId) (i : TypeInfo) (z : Value) (size bytes : Nat) (ht : P.underlying t = some (.slice e)) (hi : P.info? e = some i) (hz : i.zero = some z)
    (hsize : i.size = size) (hby : i.bytes = bytes) (hzs : z.cells.size = size) (hsz : 0 < size)
    (v : Value) (n : Nat) (xs : List Value) (hown : w.ownsRow base e size v n xs)
    (A : Option Addr) (m c : Nat) (news : List Value) (hl : news.length = m * size) (hr : Rd w A news) (h1 : ∀ u ∈ news, u.oneCell' = true)
    (hbytes : (n + m) * bytes ≤ 140737488355328) (h63 : n + m ≤ maxLen) (hbase : base ≤ w.heap.size) :
    ∃ v' w', (Builtin.append_ #[t, t] ty #[v, .slice A m c]).run P w = .ok v' w' ∧ w'.ownsRow base e size v' (n + m) (xs ++ news) ∧ w.grownBy w' v.ownBlock ∧ (v'.ownBlock = v.ownBlock ∨ ∃ k, v'.ownBlock = some k ∧ w.heap.size ≤ k) := by
  rcases A with _ | ad
  · have hn : news = [] := by
      apply Classical.byContradiction
      intro hne
      obtain ⟨g, off, hh, _⟩ := hr hne
      cases hh
    subst hn
    have hm : m = 0 := by
      rcases Nat.eq_zero_or_pos m with h0 | h0
      · exact h0
      · have := Nat.mul_pos h0 hsz
        simp at hl
        omega
    subst hm
    refine ⟨v, w, ?_, by simpa using hown, ⟨rfl, rfl, rfl, Nat.le_refl _, fun _ _ _ => rfl⟩, .inl rfl⟩
    rcases hown.2 with ⟨rfl, rfl⟩ | ⟨g, cap, cur, rfl, _, _, hnc, _⟩
    · simp [Builtin.append_, run_underlying ht, sizeOf, typeInfo, hi, Builtin.lenOf, Builtin.firstCells]
    · simp [Builtin.append_, run_underlying ht, sizeOf, typeInfo, hi, Builtin.lenOf, Builtin.firstCells, hnc, storeCells]
  · have hcells : ∀ j u, news[j]? = some u → w.cell? (ad.add j) = some u := by
      intro j u hu
      obtain ⟨g, off, hh, _, hc⟩ := hr (by rintro rfl; simp at hu)
      injection hh with hh
      subst hh
      rw [add_zero_off]
      exact hc j u hu
    obtain ⟨v', w', hrun, h2, h3, _, h5⟩ := run_append_own_at (P := P) w base t ty e i z size bytes ht hi hz hsize hby hzs hsz v n xs hown ad m c news hl hcells h1 h63 hbytes hbase
    refine ⟨v', w', hrun, h2, h3, ?_⟩
    rcases h5 with h5 | h5
    · exact .inl h5
    · exact .inr ⟨_, h5, by omega⟩
end

section
variable {ops : Array Oper} {o : Oper} {a : Act} {K : Act → World → Prop} {Q : Exit → Act → World → Prop} {E : Prop}
theorem step_app8 (w : World) (hg : o.guard = none) (s x : Operand)
    (ho : o.op = .call { callee := .builtin .append, args := #[s, x], argTypes := #[27, 27] })
    (base : Nat) (v : Value) (n : Nat) (xs : List Nat) (hs : a.eval s = v) (hown : w.ownsRow base 5 1 v n (b8 xs))
    (A : Option Addr) (m c : Nat) (news : List Nat) (hx : a.eval x = .slice A m c) (hl : news.length = m) (hr : Rd w A (b8 news))
    (hbytes : n + m ≤ 140737488355328) (hbase : base ≤ w.heap.size)
    (h : ∀ v' w', w'.ownsRow base 5 1 v' (n + m) (b8 (xs ++ news)) → w.grownBy w' v.ownBlock → (v'.ownBlock = v.ownBlock ∨ ∃ k, v'.ownBlock = some k ∧ w.heap.size ≤ k) → K (a.put o.dst v') w') :
    if Region.wanted o (yielded ops a.tmps) = true then Oper.wp Tryz.prog o a w K Q else E := by
  rw [if_pos (by simp [Region.wanted, hg])]
  obtain ⟨i0, hi, hz0, hz1, hz2⟩ := info_parts info8
  obtain ⟨v', w', hrun, h1, h2, h3⟩ := run_app (P := Tryz.prog) w base 27 o.type 5 i0 (.int .u8 0) 1 1 Tryz.underlying27 hi hz0 hz1 hz2 rfl (by omega) v n (b8 xs) hown A m c (b8 news) (by rw [b8_length]; omega) hr (b8_one _) (by omega) (by unfold maxLen; omega) hbase
  exact oper_app w s x _ _ ho v _ v' w' hs hx hrun (h v' w' (by rw [b8_append]; exact h1) h2 h3)

end
end Go.Proofs.YtljfmcgeiceagaaGreat

/- The document's readers in memory. -/
namespace Go.Proofs.YtljfmcgeiceagaaGreat
open Go Go.RowKit
set_option linter.unusedVariables false
set_option linter.unusedSimpArgs false
set_option linter.unusedSectionVars false

/-- Its cells. -/
structure RF (W : World) (g : Nat) (v : Value) (p : Int) (e : Int) (q : Int) : Prop where
  c0 : W.cell? ⟨g, 0, none⟩ = some v
  c1 : W.cell? ⟨g, 1, none⟩ = some (.int .i64 p)
  c2 : W.cell? ⟨g, 2, none⟩ = some (.int .i64 e)
  c3 : W.cell? ⟨g, 3, none⟩ = some (.int .i64 q)
  f1 : W.frozen? ⟨g, 1, none⟩ = false
  f2 : W.frozen? ⟨g, 2, none⟩ = false
  f3 : W.frozen? ⟨g, 3, none⟩ = false
theorem Rdr.rf {base : Nat} {W : World} {T : TypeId} {g : Nat} {v : Value} {s : Rs} (h : Rdr base W T Rs.rcells g v s) : RF W g v s.p s.err s.ea := by
  have hc := h.cell
  unfold Rs.rcells at hc
  constructor <;> first | (rw [cell_of_row W g _ _ _ _ hc]; rfl) | simp [World.frozen?, hc]

def RStep0 (base : Nat) (w : World) (g : Nat) (v : Value) (s' : Rs) (r : Ending) (w' : World) : Prop := r = .returned (.tuple #[]) ∧ Turned base w 95 Rs.rcells g v s' w'

set_option maxHeartbeats 400000 in
set_option maxRecDepth 100000 in
theorem rfail_yes (base g : Nat) (v : Value) (s : Rs) (e : Int) (w : World) (h : Rdr base w 95 Rs.rcells g v s) (h0 : s.err = 0) (he : e ≠ 0) (ok : (s.fail e).Ok) :
    Calls Tryz.prog 78 #[.pointer (some ⟨g, 0, none⟩), .int .i64 e] w (RStep0 base w g v (s.fail e)) := by
  obtain ⟨c0, c1, c2, c3, f1, f2, f3⟩ := h.rf
  obtain ⟨A, c, rfl, _⟩ := own_shape h.own
  have hlt := h.lt
  rw [h0] at c2
  have hb : (e != 0) = true := by simpa using he
  have HH := Lib.hid h
  clear h
  go_enter Tryz.func78, Tryz.ntmps78
  go_wp2
  go_end0
  refine ⟨rfl, HH.out.write (s' := s.fail e) ?_ ?_ (s.fail_bs e) ok⟩
  · rw [Rs.fail, Rs.failAt_yes s.p h0 he]
    have := set1 (j := 1) (u := .int .i64 (s.bs.length : Int)) (set1 (j := 3) (u := .int .i64 (s.p : Int)) (set1 (j := 2) (u := .int .i64 e) HH.out.cell))
    simpa [Rs.rcells] using this
  · exact ((kept1_set _ _ _ _).trans (kept1_set _ _ _ _) (fun q h => .inl h)).trans (kept1_set _ _ _ _) (fun q h => .inl h)
set_option maxRecDepth 100000 in
theorem rfail_bad (base g : Nat) (v : Value) (s : Rs) (e : Int) (w : World) (h : Rdr base w 95 Rs.rcells g v s) (h0 : s.err ≠ 0) :
    Calls Tryz.prog 78 #[.pointer (some ⟨g, 0, none⟩), .int .i64 e] w (RStep0 base w g v (s.fail e)) := by
  obtain ⟨c0, c1, c2, c3, f1, f2, f3⟩ := h.rf
  have hlt := h.lt
  have hb : (s.err == 0) = false := by simpa using h0
  have HH := Lib.hid h
  clear h
  go_enter Tryz.func78, Tryz.ntmps78
  go_wp2
  go_end0
  rw [Rs.fail, Rs.failAt_bad s.p h0]
  exact ⟨rfl, HH.out.turned⟩
set_option maxRecDepth 100000 in
theorem rfail_ok (base g : Nat) (v : Value) (s : Rs) (w : World) (h : Rdr base w 95 Rs.rcells g v s) (h0 : s.err = 0) :
    Calls Tryz.prog 78 #[.pointer (some ⟨g, 0, none⟩), .int .i64 0] w (RStep0 base w g v (s.fail 0)) := by
  obtain ⟨c0, c1, c2, c3, f1, f2, f3⟩ := h.rf
  have hlt := h.lt
  rw [h0] at c2
  have HH := Lib.hid h
  clear h
  go_enter Tryz.func78, Tryz.ntmps78
  go_wp2
  go_end0
  rw [Rs.fail, Rs.failAt_ok s.p]
  exact ⟨rfl, HH.out.turned⟩
theorem rfail_is (base g : Nat) (v : Value) (s : Rs) (e : Int) (w : World) (h : Rdr base w 95 Rs.rcells g v s) (he : -9223372036854775808 ≤ e ∧ e ≤ 9223372036854775807) :
    Calls Tryz.prog 78 #[.pointer (some ⟨g, 0, none⟩), .int .i64 e] w (RStep0 base w g v (s.fail e)) := by
  by_cases h0 : s.err = 0
  · by_cases h1 : e = 0
    · subst h1; exact rfail_ok base g v s w h h0
    · exact rfail_yes base g v s e w h h0 h1 (h.ok.fail he)
  · exact rfail_bad base g v s e w h h0
set_option maxRecDepth 100000 in
theorem rrest_is (base g : Nat) (v : Value) (s : Rs) (w : World) (h : Rdr base w 95 Rs.rcells g v s) :
    Calls Tryz.prog 42 #[.pointer (some ⟨g, 0, none⟩)] w fun r w' => r = .returned (.int .i64 (s.rest : Int)) ∧ ∃ m, w' = w.drewN m := by
  obtain ⟨c0, c1, c2, c3, f1, f2, f3⟩ := h.rf
  obtain ⟨A, c, rfl, _⟩ := own_shape h.own
  have hlt := h.lt
  have hle := h.ok.le
  have hsz := h.ok.sz
  have HR := Lib.hid (show ((s.rest : Nat) : Int) = (s.bs.length : Int) - (s.p : Int) by unfold Rs.rest; omega)
  clear h
  go_enter Tryz.func42, Tryz.ntmps42
  go_wp2
  go_quiet (fail)
  go_wp2
  go_ret
  exact ⟨ret_i HR.out.symm, _, rfl⟩
set_option maxRecDepth 100000 in
theorem rraw_neg (base g : Nat) (v : Value) (s : Rs) (n : Int) (w : World) (h : Rdr base w 95 Rs.rcells g v s) (hn : n < 0) :
    Calls Tryz.prog 41 #[.pointer (some ⟨g, 0, none⟩), .int .i64 n] w (Rawed base w 95 Rs.rcells g v [] (s.fail 14)) := by
  have P1 := Lib.hid (rfail_is base g v s 14 w h (by omega))
  unfold RStep0 at P1
  clear h
  go_enter Tryz.func41, Tryz.ntmps41
  go_wp2_with (go_at_call 78; refine P1.out.mono ?_; rintro r w' ⟨rfl, ht⟩; have HT := Lib.hid ht; clear ht)
  go_ret
  exact ⟨none, 0, rfl, World.ownsRow_nil _ _ _ _, HT.out⟩
set_option maxRecDepth 100000 in
theorem rraw_bad (base g : Nat) (v : Value) (s : Rs) (n : Int) (w : World) (h : Rdr base w 95 Rs.rcells g v s) (h0 : s.err ≠ 0) (hn : 0 ≤ n) :
    Calls Tryz.prog 41 #[.pointer (some ⟨g, 0, none⟩), .int .i64 n] w (Rawed base w 95 Rs.rcells g v [] s) := by
  obtain ⟨c0, c1, c2, c3, f1, f2, f3⟩ := h.rf
  have hlt := h.lt
  have hb : (s.err != 0) = true := by simpa using h0
  have HH := Lib.hid h
  clear h
  go_enter Tryz.func41, Tryz.ntmps41
  go_wp2
  go_ret
  exact ⟨none, 0, rfl, World.ownsRow_nil _ _ _ _, HH.out.turned⟩
set_option maxHeartbeats 400000 in
set_option maxRecDepth 100000 in
theorem rraw_short (base g : Nat) (v : Value) (s : Rs) (n : Int) (w : World) (h : Rdr base w 95 Rs.rcells g v s) (h0 : s.err = 0) (hn : 0 ≤ n) (hr : (s.rest : Int) < n) :
    Calls Tryz.prog 41 #[.pointer (some ⟨g, 0, none⟩), .int .i64 n] w (Rawed base w 95 Rs.rcells g v [] (s.fail 10)) := by
  obtain ⟨c0, c1, c2, c3, f1, f2, f3⟩ := h.rf
  obtain ⟨A, c, rfl, _⟩ := own_shape h.own
  have hlt := h.lt
  have hle := h.ok.le
  have hsz := h.ok.sz
  rw [h0] at c2
  have P2 := Lib.hid (fun m => rfail_is base g _ s 10 (w.drewN m) (h.drew m) (by omega))
  unfold RStep0 at P2
  have hr' : (s.bs.length : Int) - (s.p : Int) < n := by unfold Rs.rest at hr; omega
  clear h hr
  go_enter Tryz.func41, Tryz.ntmps41
  go_wp2
  go_quiet (fail)
  go_wp2_with (go_at_call 78; refine (P2.out nq).mono ?_; rintro r w' ⟨rfl, ht⟩; have HT := Lib.hid ht; clear ht)
  go_ret
  exact ⟨none, 0, rfl, World.ownsRow_nil _ _ _ _, HT.out.of_drew⟩
end Go.Proofs.YtljfmcgeiceagaaGreat

/- The document's readers: Raw, and numbers of four and eight bytes. (Printed by gen_rrdr2.py.) -/
namespace Go.Proofs.YtljfmcgeiceagaaGreat
open Go Go.RowKit
set_option linter.unusedVariables false
set_option linter.unusedSimpArgs false
set_option linter.unusedSectionVars false

/-- A reader, from world w on. -/
structure OneR (base : Nat) (w W : World) (g : Nat) (v : Value) (s : Rs) : Prop where
  r : Rdr base W 95 Rs.rcells g v s
  k : Below w.heap.size w W
theorem OneR.mk0 {base : Nat} {w : World} {g : Nat} {v : Value} {s : Rs} (h : Rdr base w 95 Rs.rcells g v s) : OneR base w w g v s := ⟨h, Below.refl _ _⟩
theorem OneR.drew {base : Nat} {w W : World} {g : Nat} {v : Value} {s : Rs} (h : OneR base w W g v s) : OneR base w W.drew g v s := ⟨h.r.below (Below.refl _ _).drew, h.k.drew⟩
theorem OneR.more {base : Nat} {w W W' : World} {g : Nat} {v : Value} {s : Rs} (h : OneR base w W g v s) (hb : Below W.heap.size W W') : OneR base w W' g v s := ⟨h.r.below hb, h.k.trans (hb.mono h.k.size)⟩
theorem OneR.alloc {base : Nat} {w W : World} {g : Nat} {v : Value} {s : Rs} (h : OneR base w W g v s) (o : Obj) : OneR base w (W.alloc o) g v s := h.more ((Below.refl _ _).alloc (Nat.le_refl _) o)
theorem OneR.grown {base : Nat} {w W W' : World} {g : Nat} {v : Value} {s : Rs} {r : Option Nat} (h : OneR base w W g v s) (hg : W.grownBy W' r) (hr : ∀ q, r = some q → w.heap.size ≤ q) (h0 : Rdr base w 95 Rs.rcells g v s) : OneR base w W' g v s :=
  ⟨h.r.keptS (S := fun q => w.heap.size ≤ q) (KeptS.of_grown hg hr) (by have := h0.lt; omega) (fun q hq => by have := (h0.own.lt q hq).2; omega), h.k.trans (below_of_grown hg h.k.size hr)⟩
theorem OneR.s {base : Nat} {w W : World} {g : Nat} {v : Value} {s : Rs} (h : OneR base w W g v s) : W.cell? ⟨g, 0, none⟩ = some v ∧ W.cell? ⟨g, 1, none⟩ = some (.int .i64 (s.p : Int)) ∧ OneR base w W g v s := ⟨h.r.rf.c0, h.r.rf.c1, h⟩
theorem OneR.ofS {base : Nat} {w W : World} {g : Nat} {v : Value} {s : Rs} (h : W.cell? ⟨g, 0, none⟩ = some v ∧ W.cell? ⟨g, 1, none⟩ = some (.int .i64 (s.p : Int)) ∧ OneR base w W g v s) : OneR base w W g v s := h.2.2
theorem OneR.turned {base : Nat} {w W : World} {g : Nat} {v : Value} {s : Rs} (h : OneR base w W g v s) : Turned base w 95 Rs.rcells g v s W := ⟨h.r, KeptS.of_below h.k _⟩
theorem Rdr.rmoved {base : Nat} {W : World} {g : Nat} {v : Value} {s : Rs} (h : Rdr base W 95 Rs.rcells g v s) (h0 : s.err = 0) {k : Nat} (hk : s.p + k ≤ s.bs.length) {x : Int} (hx : x = (s.p : Int) + (k : Int)) :
    Turned base W 95 Rs.rcells g v (s.go k) (W.setCell ⟨g, 1, none⟩ (.int .i64 x)) := by
  refine h.write (s' := s.go k) ?_ (kept1_set _ _ _ _) rfl (h.ok.go h0 hk)
  have := set1 (j := 1) (u := .int .i64 x) h.cell
  have e : ((s.p + k : Nat) : Int) = x := by omega
  simpa [Rs.rcells, Rs.go, e] using this


set_option maxHeartbeats 400000 in
set_option maxRecDepth 100000 in
theorem rraw_nil (base g : Nat) (s : Rs) (k : Nat) (w : World) (h : Rdr base w 95 Rs.rcells g (.slice none 0 0) s) (h0 : s.err = 0) (hk : k ≤ s.rest) (hbs : s.bs = []) (hp0 : s.p = 0) :
    Calls Tryz.prog 41 #[.pointer (some ⟨g, 0, none⟩), .int .i64 (k : Int)] w (Rawed base w 95 Rs.rcells g (.slice none 0 0) ((s.bs.drop s.p).take k) (s.go k)) := by
  obtain ⟨c0, c1, c2, c3, f1, f2, f3⟩ := h.rf
  have hlt := h.lt
  have hle := h.ok.le
  have hsz := h.ok.sz
  rw [h0] at c2
  have HH := Lib.hid h
  have START := Lib.hid (OneR.mk0 h)
  have hpk : s.p + k ≤ s.bs.length := by unfold Rs.rest at hk; omega
  have HPK := Lib.hid hpk
  have hlen : ((s.bs.drop s.p).take k).length = k := by simp; omega
  have HL := Lib.hid hlen
  have hn0 : s.bs.length = 0 := by rw [hbs]; rfl
  have hk0 : k = 0 := by omega
  subst hk0
  have e0 : (s.bs.drop s.p).take 0 = [] := by simp
  rw [hp0] at c1
  have HP := Lib.hid hp0
  have hw : IntKind.i64.wrap 0 = 0 := by decide
  have hd0 : Rd w none (b8 ((s.bs.drop s.p).take 0)) := by rw [e0]; exact Rd.nil_ _ _
  have HRD := Lib.hid hd0
  obtain ⟨bs, hbs'⟩ : ∃ bs, bs = ((s.bs.drop s.p).take 0) := ⟨_, rfl⟩
  rw [← hbs'] at HRD HL hlen ⊢
  have hkr : (0 : Int) ≤ 140737488351232 := by omega
  clear h hlen hbs'
  go_enter Tryz.func41, Tryz.ntmps41
  go_wp2
  go_quiet (fail)
  go_wp2
  have ST2 := Lib.hid (START.out.more (below_drewN (Below.refl _ _) nq))
  have ST3 := Lib.hid (START.out.more (below_drewN (Below.refl _ _) (nq + 1)))
  have OW := Lib.hid (own_lit (w.drewN (nq + 1)) w.heap.size [] 5 0 (Nat.le_refl _) (by decide) rfl)
  have RD := Lib.hid (HRD.out.below ((below_drewN (Below.refl w.heap.size w) (nq + 1)).alloc (Nat.le_refl _) (.cells #[] 5)))
  go_region_held3 (fun W => W.cell? ⟨g, 0, none⟩ = some (.slice none 0 0) ∧ W.cell? ⟨g, 1, none⟩ = some (.int .i64 (0 : Nat)) ∧ OneR base w W g (.slice none 0 0) s)
    (first | assumption | (have hq := OneR.s ST2.out; rw [HP.out] at hq; exact hq) | (have hq := OneR.s ST2.out.drew; rw [HP.out] at hq; exact hq) | (have hq := OneR.s ST3.out; rw [HP.out] at hq; exact hq) | (have hq := OneR.s (ST3.out.alloc (.cells #[] 5)); rw [HP.out] at hq; exact hq) | (have hq := OneR.s hS9; rw [HP.out] at hq; exact hq))
    (first
      | (refine step_app8 _ rfl (.tmp 34) (.tmp 49) rfl w.heap.size (.slice (some ⟨w.heap.size, 0, none⟩) 0 0) 0 [] rfl OW.out none 0 _ bs rfl HL.out RD.out (by omega) (by simp) ?_; intro v9 w9 h1 h2 h3; (rw [Nat.zero_add] at h1); obtain ⟨A9, c9, rfl, _⟩ := own_shape h1; have HV := Lib.hid h1; have hS9 : OneR base w w9 g (.slice none 0 0) s := OneR.grown (ST3.out.alloc _) h2 (fun q hq => Nat.le_of_eq (Option.some.inj hq)) HH.out; have HS9 := Lib.hid hS9; clear h1 h2 h3))
  obtain ⟨_, d1, _, _, e1, _, _⟩ := HS9.out.r.rf
  rw [HP.out] at d1
  have hlt9 := HS9.out.r.lt
  go_wp2
  go_ret
  refine ⟨A9, c9, by rw [HL.out]; rfl, ?_, HS9.out.turned.then (HS9.out.r.rmoved h0 (k := 0) (by have := HPK.out; omega) (by have := HP.out; omega))⟩
  rw [HL.out]
  exact ownsRow_setCell_other HV.out (a := ⟨g, 1, none⟩) (fun e => by have := (HV.out.lt _ e).1; simp at this; omega) _

set_option maxHeartbeats 400000 in
set_option maxRecDepth 100000 in
theorem rraw_end (base g : Nat) (q n c : Nat) (s : Rs) (k : Nat) (w : World) (h : Rdr base w 95 Rs.rcells g (.slice (some ⟨q, 0, none⟩) n c) s) (h0 : s.err = 0) (hk : k ≤ s.rest) (hn : n = s.bs.length) (hnc : n ≤ c) (hcp : c = s.p) :
    Calls Tryz.prog 41 #[.pointer (some ⟨g, 0, none⟩), .int .i64 (k : Int)] w (Rawed base w 95 Rs.rcells g (.slice (some ⟨q, 0, none⟩) n c) ((s.bs.drop s.p).take k) (s.go k)) := by
  obtain ⟨c0, c1, c2, c3, f1, f2, f3⟩ := h.rf
  have hlt := h.lt
  have hle := h.ok.le
  have hsz := h.ok.sz
  rw [h0] at c2
  have HH := Lib.hid h
  have START := Lib.hid (OneR.mk0 h)
  have hpk : s.p + k ≤ s.bs.length := by unfold Rs.rest at hk; omega
  have HPK := Lib.hid hpk
  have hlen : ((s.bs.drop s.p).take k).length = k := by simp; omega
  have HL := Lib.hid hlen
  rw [← hn] at hle hsz hpk
  have hk0 : k = 0 := by omega
  subst hk0
  rw [show (((0 : Nat)) : Int) = 0 from rfl]
  have e0 : (s.bs.drop s.p).take 0 = [] := by simp
  have hpn : s.p = n := by omega
  rw [hpn] at c1
  have hcn : c = n := by omega
  subst hcn
  have HP := Lib.hid hpn
  clear hcp hpn hn
  have hw : IntKind.i64.wrap (c : Int) = (c : Int) := by rw [IntKind.wrap_i64]; omega
  have hd0 : Rd w (some ⟨q, 0, none⟩) (b8 ((s.bs.drop s.p).take 0)) := by rw [e0]; exact Rd.nil_ _ _
  have HRD := Lib.hid hd0
  obtain ⟨bs, hbs'⟩ : ∃ bs, bs = ((s.bs.drop s.p).take 0) := ⟨_, rfl⟩
  rw [← hbs'] at HRD HL hlen ⊢
  have hkr : (0 : Int) ≤ 140737488351232 := by omega
  clear h hlen hbs'
  go_enter Tryz.func41, Tryz.ntmps41
  go_wp2
  go_quiet (fail)
  go_wp2
  have ST2 := Lib.hid (START.out.more (below_drewN (Below.refl _ _) nq))
  have ST3 := Lib.hid (START.out.more (below_drewN (Below.refl _ _) (nq + 1)))
  have OW := Lib.hid (own_lit (w.drewN (nq + 1)) w.heap.size [] 5 0 (Nat.le_refl _) (by decide) rfl)
  have RD := Lib.hid (HRD.out.below ((below_drewN (Below.refl w.heap.size w) (nq + 1)).alloc (Nat.le_refl _) (.cells #[] 5)))
  go_region_held3 (fun W => W.cell? ⟨g, 0, none⟩ = some (.slice (some ⟨q, 0, none⟩) c c) ∧ W.cell? ⟨g, 1, none⟩ = some (.int .i64 (c : Nat)) ∧ OneR base w W g (.slice (some ⟨q, 0, none⟩) c c) s)
    (first | assumption | (have hq := OneR.s ST2.out; rw [HP.out] at hq; exact hq) | (have hq := OneR.s ST2.out.drew; rw [HP.out] at hq; exact hq) | (have hq := OneR.s ST3.out; rw [HP.out] at hq; exact hq) | (have hq := OneR.s (ST3.out.alloc (.cells #[] 5)); rw [HP.out] at hq; exact hq) | (have hq := OneR.s hS9; rw [HP.out] at hq; exact hq))
    (first
      | (refine step_app8 _ rfl (.tmp 34) (.tmp 49) rfl w.heap.size (.slice (some ⟨w.heap.size, 0, none⟩) 0 0) 0 [] rfl OW.out (some ⟨q, 0, none⟩) 0 _ bs rfl HL.out RD.out (by omega) (by simp) ?_; intro v9 w9 h1 h2 h3; (rw [Nat.zero_add] at h1); obtain ⟨A9, c9, rfl, _⟩ := own_shape h1; have HV := Lib.hid h1; have hS9 : OneR base w w9 g (.slice (some ⟨q, 0, none⟩) c c) s := OneR.grown (ST3.out.alloc _) h2 (fun q hq => Nat.le_of_eq (Option.some.inj hq)) HH.out; have HS9 := Lib.hid hS9; clear h1 h2 h3))
  obtain ⟨_, d1, _, _, e1, _, _⟩ := HS9.out.r.rf
  rw [HP.out] at d1
  have hlt9 := HS9.out.r.lt
  go_wp2
  go_ret
  refine ⟨A9, c9, by rw [HL.out]; rfl, ?_, HS9.out.turned.then (HS9.out.r.rmoved h0 (k := 0) (by have := HPK.out; omega) (by have := HP.out; omega))⟩
  rw [HL.out]
  exact ownsRow_setCell_other HV.out (a := ⟨g, 1, none⟩) (fun e => by have := (HV.out.lt _ e).1; simp at this; omega) _

set_option maxHeartbeats 400000 in
set_option maxRecDepth 100000 in
theorem rraw_in (base g : Nat) (q n c : Nat) (s : Rs) (k : Nat) (w : World) (h : Rdr base w 95 Rs.rcells g (.slice (some ⟨q, 0, none⟩) n c) s) (h0 : s.err = 0) (hk : k ≤ s.rest) (hn : n = s.bs.length) (hnc : n ≤ c) (hcp : s.p < c) :
    Calls Tryz.prog 41 #[.pointer (some ⟨g, 0, none⟩), .int .i64 (k : Int)] w (Rawed base w 95 Rs.rcells g (.slice (some ⟨q, 0, none⟩) n c) ((s.bs.drop s.p).take k) (s.go k)) := by
  obtain ⟨c0, c1, c2, c3, f1, f2, f3⟩ := h.rf
  have hlt := h.lt
  have hle := h.ok.le
  have hsz := h.ok.sz
  rw [h0] at c2
  have HH := Lib.hid h
  have START := Lib.hid (OneR.mk0 h)
  have hpk : s.p + k ≤ s.bs.length := by unfold Rs.rest at hk; omega
  have HPK := Lib.hid hpk
  have hlen : ((s.bs.drop s.p).take k).length = k := by simp; omega
  have HL := Lib.hid hlen
  rw [← hn] at hle hsz hpk
  have h9 := h.own
  rw [← hn] at h9
  have HRD := Lib.hid (rd_part (p := s.p) (k := k) (A := some ⟨q, 0, none⟩) (rd_own h9) rfl)
  obtain ⟨pp, hpp⟩ : ∃ pp, pp = s.p := ⟨_, rfl⟩
  have HP := Lib.hid hpp.symm
  rw [← hpp] at c1 hle hpk hcp HRD ⊢
  rw [← hpp] at HL hlen
  have hpc : pp + k ≤ c := by omega
  have hne : ¬ c = pp := by omega
  have hw : IntKind.i64.wrap ((pp : Int) + (k : Int)) = ((pp + k : Nat) : Int) := by rw [IntKind.wrap_i64]; omega
  have ht : ((pp : Int) + (k : Int)).toNat = pp + k := by omega
  have i1 : (0 : Int) ≤ (pp : Int) + (k : Int) := by omega
  have i2 : (pp : Int) + (k : Int) ≤ (c : Int) := by omega
  clear h9 hpp hn
  obtain ⟨bs, hbs'⟩ : ∃ bs, bs = ((s.bs.drop pp).take k) := ⟨_, rfl⟩
  rw [← hbs'] at HRD HL hlen ⊢
  have hkr : (k : Int) ≤ 140737488351232 := by omega
  clear h hlen hbs'
  go_enter Tryz.func41, Tryz.ntmps41
  go_wp2
  go_quiet (fail)
  go_wp2
  have ST2 := Lib.hid (START.out.more (below_drewN (Below.refl _ _) nq))
  have ST3 := Lib.hid (START.out.more (below_drewN (Below.refl _ _) (nq + 1)))
  have OW := Lib.hid (own_lit (w.drewN (nq + 1)) w.heap.size [] 5 0 (Nat.le_refl _) (by decide) rfl)
  have RD := Lib.hid (HRD.out.below ((below_drewN (Below.refl w.heap.size w) (nq + 1)).alloc (Nat.le_refl _) (.cells #[] 5)))
  go_region_held3 (fun W => W.cell? ⟨g, 0, none⟩ = some (.slice (some ⟨q, 0, none⟩) n c) ∧ W.cell? ⟨g, 1, none⟩ = some (.int .i64 (pp : Nat)) ∧ OneR base w W g (.slice (some ⟨q, 0, none⟩) n c) s)
    (first | assumption | (have hq := OneR.s ST2.out; rw [HP.out] at hq; exact hq) | (have hq := OneR.s ST2.out.drew; rw [HP.out] at hq; exact hq) | (have hq := OneR.s ST3.out; rw [HP.out] at hq; exact hq) | (have hq := OneR.s (ST3.out.alloc (.cells #[] 5)); rw [HP.out] at hq; exact hq) | (have hq := OneR.s hS9; rw [HP.out] at hq; exact hq))
    (first
      | (refine step_app8 _ rfl (.tmp 34) (.tmp 49) rfl w.heap.size (.slice (some ⟨w.heap.size, 0, none⟩) 0 0) 0 [] rfl OW.out (some ⟨q, pp, none⟩) k _ bs rfl HL.out RD.out (by omega) (by simp) ?_; intro v9 w9 h1 h2 h3; (rw [Nat.zero_add] at h1); obtain ⟨A9, c9, rfl, _⟩ := own_shape h1; have HV := Lib.hid h1; have hS9 : OneR base w w9 g (.slice (some ⟨q, 0, none⟩) n c) s := OneR.grown (ST3.out.alloc _) h2 (fun q hq => Nat.le_of_eq (Option.some.inj hq)) HH.out; have HS9 := Lib.hid hS9; clear h1 h2 h3))
  obtain ⟨_, d1, _, _, e1, _, _⟩ := HS9.out.r.rf
  rw [HP.out] at d1
  have hlt9 := HS9.out.r.lt
  go_wp2
  go_ret
  refine ⟨A9, c9, by rw [HL.out]; rfl, ?_, HS9.out.turned.then (HS9.out.r.rmoved h0 (k := k) (by have := HPK.out; omega) (by have := HP.out; omega))⟩
  rw [HL.out]
  exact ownsRow_setCell_other HV.out (a := ⟨g, 1, none⟩) (fun e => by have := (HV.out.lt _ e).1; simp at this; omega) _
end Go.Proofs.YtljfmcgeiceagaaGreat

/- The document's readers: Raw, Byte, U32, U64, End, NewReader. -/
namespace Go.Proofs.YtljfmcgeiceagaaGreat
open Go Go.RowKit
set_option linter.unusedVariables false
set_option linter.unusedSimpArgs false
set_option linter.unusedSectionVars false

theorem rraw_all (base g : Nat) (v : Value) (s : Rs) (n : Int) (w : World) (h : Rdr base w 95 Rs.rcells g v s) :
    Calls Tryz.prog 41 #[.pointer (some ⟨g, 0, none⟩), .int .i64 n] w (Rawed base w 95 Rs.rcells g v (s.take n).1 (s.take n).2) := by
  unfold Rs.take
  by_cases h0 : s.err ≠ 0
  · rw [if_pos h0]
    by_cases h1 : n < 0
    · have := rraw_neg base g v s n w h h1
      rw [Rs.fail, Rs.failAt_bad _ h0] at this
      exact this
    · exact rraw_bad base g v s n w h h0 (by omega)
  rw [if_neg h0]
  have h0' : s.err = 0 := by simpa using h0
  by_cases h1 : n < 0
  · rw [if_pos h1]; exact rraw_neg base g v s n w h h1
  rw [if_neg h1]
  by_cases h2 : (s.rest : Int) < n
  · rw [if_pos h2]; exact rraw_short base g v s n w h h0' (by omega) h2
  rw [if_neg h2]
  obtain ⟨k, rfl⟩ : ∃ k : Nat, n = (k : Int) := ⟨n.toNat, by omega⟩
  have hk : k ≤ s.rest := by omega
  rw [show ((k : Int)).toNat = k by omega]
  rcases h.row with ⟨rfl, hb, hp⟩ | ⟨q, c, rfl, hc, _⟩
  · exact rraw_nil base g s k w h h0' hk hb hp
  · have hle := h.ok.le
    by_cases hcp : c = s.p
    · exact rraw_end base g q _ c s k w h h0' hk rfl hc hcp
    · exact rraw_in base g q _ c s k w h h0' hk rfl hc (by omega)

set_option maxHeartbeats 400000 in
set_option maxRecDepth 100000 in
theorem readFixed_is (A : Option Addr) (n c : Nat) (bs : List Nat) (w : World) (hr : Rd w A (b8 bs)) (hn : bs.length = n) (hby : By bs) (hl : n ≤ 8) :
    Calls Tryz.prog 76 #[.slice A n c] w fun r w' => r = .returned (.int .u64 (val bs : Nat)) ∧ w = w' := by
  have HM := Lib.hid hn.symm
  have HY := Lib.hid hby
  have HR := Lib.hid hr
  clear hn hby hr
  go_enter Tryz.func76, Tryz.ntmps76
  go_wp2
  go_loop [3, 4] (fun x i => ∃ k : Nat, k ≤ n ∧ i = .int .i64 k ∧ x = .int .u64 (val (bs.take k) : Nat)) (fun _ i => n - (intOf i).toNat)
  case atStart => exact ⟨0, Nat.zero_le _, rfl, rfl⟩
  case round =>
    obtain ⟨k, hk, rfl, rfl⟩ := hrel
    by_cases hlt : k < n
    · obtain ⟨x, hx⟩ : ∃ x, bs[k]? = some x := ⟨_, List.getElem?_eq_getElem (by rw [← HM.out]; exact hlt)⟩
      have hxl := HY.out x (List.mem_of_getElem? hx)
      obtain ⟨gA, off, rfl, hgA, hcell⟩ := HR.out (by rintro e; have : bs = [] := (by simpa [b8] using e); subst this; simp at hx)
      have d0 := hcell k (.int .u8 (x : Int)) (by rw [b8_get, hx]; rfl)
      have hv := val_lt k (bs.take k) (fun b hb => HY.out b (List.mem_of_mem_take hb)) (by simp; rw [← HM.out]; omega)
      have hv2 : val (bs.take k) < 72057594037927936 := by
        have h2 : (256 : Nat) ^ k ≤ 256 ^ 7 := Nat.pow_le_pow_right (by omega) (by omega)
        have h3 : (256 : Nat) ^ 7 = 72057594037927936 := by decide
        omega
      have HV := Lib.hid (val_take hx)
      obtain ⟨z, hz⟩ : ∃ z, z = val (bs.take k) := ⟨_, rfl⟩
      rw [← hz] at HV hv2 ⊢
      clear hcell hx hv hz
      go_wp2
      go_round
      case rel => exact ⟨k + 1, by omega, by go_num, by rw [HV.out]; go_num⟩
      case measure => simp [intOf]; omega
    · have e0 : bs.take k = bs := List.take_of_length_le (by rw [← HM.out]; omega)
      rw [e0]
      clear e0
      go_wp2
      go_ret
      exact ⟨rfl, rfl⟩

theorem val_one {s : Rs} : val (s.take 1).1 = (s.take 1).1.headD 0 := by
  have h := s.take_len4 1
  have e1 : ((1 : Nat) : Int) = 1 := rfl
  rw [e1] at h
  cases hq : (s.take 1).1 with
  | nil => rfl
  | cons x r =>
    rw [hq] at h
    have : r = [] := by simpa using h
    subst this
    simp [val]
theorem Rs.val1 {s : Rs} (h : s.Ok) : val (s.take 1).1 < 256 := by
  have h1 := val_lt _ _ (s.take_by h 1) rfl
  have h2 := s.take_len4 1
  have h3 : (256 : Nat) ^ (s.take 1).1.length ≤ 256 ^ 1 := Nat.pow_le_pow_right (by omega) h2
  omega

section
variable (base g : Nat) (v : Value) (s : Rs) (w : World) (h : Rdr base w 95 Rs.rcells g v s)
include h
set_option maxRecDepth 100000 in
theorem rbyte_r :
    Calls Tryz.prog 37 #[.pointer (some ⟨g, 0, none⟩)] w (Gave base w 95 Rs.rcells g v (.int .u8 ((s.take 1).1.headD 0 : Nat)) (s.take 1).2) := by
  rw [← val_one]
  have P1 := Lib.hid (rraw_all base g v s 1 w h)
  unfold Rawed at P1
  have hv := Rs.val1 h.ok
  have hl : (s.take 1).1.length ≤ 1 := s.take_len4 1
  have HY := Lib.hid (s.take_by h.ok 1)
  obtain ⟨q, hq⟩ : ∃ q, q = s.take 1 := ⟨_, rfl⟩
  rw [← hq] at P1 hv hl HY ⊢
  have P2 := Lib.hid (fun A c W (hr : Rd W A (b8 q.1)) => readFixed_is A q.1.length c q.1 W hr rfl HY.out (by omega))
  obtain ⟨z, hz⟩ : ∃ z, z = val q.1 := ⟨_, rfl⟩
  rw [← hz] at P2 hv ⊢
  clear h hq hz
  go_enter Tryz.func37, Tryz.ntmps37
  go_wp2_with (first
    | (go_at_call 41; refine P1.out.mono ?_; rintro r w1 ⟨A1, c1, rfl, ho1, ht⟩; have HT := Lib.hid ht; have HO := Lib.hid ho1; clear ht ho1)
    | (go_at_call 76; refine (P2.out _ _ _ (rd_own HO.out)).mono ?_; rintro r w2 ⟨rfl, rfl⟩))
  go_ret
  exact ⟨rfl, HT.out⟩
end
set_option maxRecDepth 100000 in
theorem rnewReader_is (A : Option Addr) (n c : Nat) (bs : List Nat) (w : World) (hr : Rd w A (b8 bs)) (hn : bs.length = n) (hby : By bs) (hl : n ≤ 140737488351232) :
    Calls Tryz.prog 36 #[.slice A n c] w (Newed w 95 Rs.rcells bs) := by
  have HN := Lib.hid hn
  have HY := Lib.hid hby
  have b0 := (Below.refl w.heap.size w).alloc (Nat.le_refl _) (.cells #[] 5)
  have HR := Lib.hid (hr.below b0)
  have B0 := Lib.hid b0
  have HO0 := Lib.hid (own_lit w w.heap.size [] 5 0 (Nat.le_refl _) (by decide) rfl)
  clear hn hby hr b0
  go_enter Tryz.func36, Tryz.ntmps36
  go_wp2_with (at_builtin; (refine app8 _ rfl (.tmp 3) (.tmp 4) rfl w.heap.size _ 0 [] rfl HO0.out A n c bs rfl HN.out HR.out (by omega) (by simp) ?_); intro v' w2 ho hg hn; (rw [Nat.zero_add] at ho); obtain ⟨A9, c9, rfl, _⟩ := own_shape ho; have HO := Lib.hid ho; have HG := Lib.hid hg; clear ho hg hn)
  go_ret
  have hb := B0.out.trans (below_of_grown HG.out B0.out.size (fun k hk => (HO0.out.lt k hk).1))
  exact ⟨_, _, rfl, rdr_new (cf := Rs.rcells) HO.out HN.out.symm rfl HY.out (by rw [HN.out]; exact hl) hb.size, hb.alloc hb.size _⟩
end Go.Proofs.YtljfmcgeiceagaaGreat

/- Readers: Uvarint. (Printed by gen_rrdr4.py.) -/
namespace Go.Proofs.YtljfmcgeiceagaaGreat
open Go Go.RowKit
set_option linter.unusedVariables false
set_option linter.unusedSimpArgs false

set_option maxRecDepth 100000 in
theorem ruv_bad (base g : Nat) (v : Value) (s : Rs) (w : World) (h : Rdr base w 95 Rs.rcells g v s) (h0 : s.err ≠ 0) :
    Calls Tryz.prog 38 #[.pointer (some ⟨g, 0, none⟩)] w (Gave base w 95 Rs.rcells g v (.int .u64 0) s) := by
  obtain ⟨c0, c1, c2, c3, f1, f2, f3⟩ := h.rf
  have hlt := h.lt
  have hb : (s.err != 0) = true := by simpa using h0
  have HH := Lib.hid h
  clear h
  go_enter Tryz.func38, Tryz.ntmps38
  go_wp2
  go_ret
  exact ⟨rfl, HH.out.turned⟩
set_option maxHeartbeats 400000 in
set_option maxRecDepth 100000 in
theorem ruv_nil_yes (base g : Nat) (s : Rs) (z k x : Nat) (w : World) (h : Rdr base w 95 Rs.rcells g (.slice none 0 0) s) (h0 : s.err = 0) (hbs : s.bs = []) (hp0 : s.p = 0) (hk : s.p + k ≤ s.bs.length) (hru : Uv.ru 0 0 (s.bs.drop s.p) = (z, k, 0)) :
    Calls Tryz.prog 38 #[.pointer (some ⟨g, 0, none⟩)] w (Gave base w 95 Rs.rcells g (.slice none 0 0) (.int .u64 (z : Nat)) (s.go k)) := by
  obtain ⟨c0, c1, c2, c3, f1, f2, f3⟩ := h.rf
  have hlt := h.lt
  have hle := h.ok.le
  have hsz := h.ok.sz
  have hrd : Rd w none (b8 (s.bs.drop s.p)) := (by rw [hbs, List.drop_nil]; exact Rd.nil_ _ _)
  have hdl : (s.bs.drop s.p).length = s.bs.length - s.p := by simp
  have PR := Lib.hid (fun W N C (hW : Below w.heap.size w W) (hN : (s.bs.drop s.p).length = N) (hN2 : N ≤ 140737488355328) => rreadUvarint_is none N C (s.bs.drop s.p) W z k 0 (hrd.below hW) (by_drop h.ok.by_ _) hN hN2 hru)
  have PF := Lib.hid (fun m => rfail_is base g _ s (0 : Int) (w.drewN m) (h.drew m) (by omega))
  unfold RStep0 at PF
  rw [h0] at c2
  have HH := Lib.hid h
  have HDL := Lib.hid hdl
  have HK := Lib.hid hk
  have hn0 : s.bs.length = 0 := by rw [hbs]; rfl
  rw [hn0] at hle hsz HDL
  have HP0 := Lib.hid hp0
  rw [hp0] at c1
  clear h hrd hdl hru hle hsz
  go_enter Tryz.func38, Tryz.ntmps38
  go_wp2
  go_quiet ((go_at_call 77; refine (PR.out _ _ _ (below_drewN (Below.refl _ _) _) (by have := HDL.out; omega) (by omega)).mono ?_; rintro r w1 ⟨rfl, rfl⟩; exact ⟨rfl, _, rfl⟩))
  go_wp2_with (go_at_call 78; refine (PF.out nq).mono ?_; rintro r w1 ⟨rfl, ht⟩; (rw [Rs.fail, Rs.failAt_ok] at ht); obtain ⟨d0, d1, d2, d3, e1, e2, e3⟩ := ht.rd.rf; (rw [show s.p = 0 from by rw [HP0.out]] at d1); have hlt1 := ht.rd.lt; have HT := Lib.hid ht; clear ht)
  go_ret
  exact ⟨rfl, HT.out.of_drew.then (HT.out.rd.rmoved h0 HK.out (by rw [show s.p = 0 from by rw [HP0.out]] <;> omega))⟩

set_option maxHeartbeats 400000 in
set_option maxRecDepth 100000 in
theorem ruv_nil_no (base g : Nat) (s : Rs) (z k x : Nat) (w : World) (h : Rdr base w 95 Rs.rcells g (.slice none 0 0) s) (h0 : s.err = 0) (hbs : s.bs = []) (hp0 : s.p = 0) (hx : x = 10 ∨ x = 11) (hru : Uv.ru 0 0 (s.bs.drop s.p) = (0, k, x)) :
    Calls Tryz.prog 38 #[.pointer (some ⟨g, 0, none⟩)] w (Gave base w 95 Rs.rcells g (.slice none 0 0) (.int .u64 (0 : Nat)) (s.fail (x : Int))) := by
  obtain ⟨c0, c1, c2, c3, f1, f2, f3⟩ := h.rf
  have hlt := h.lt
  have hle := h.ok.le
  have hsz := h.ok.sz
  have hrd : Rd w none (b8 (s.bs.drop s.p)) := (by rw [hbs, List.drop_nil]; exact Rd.nil_ _ _)
  have hdl : (s.bs.drop s.p).length = s.bs.length - s.p := by simp
  have PR := Lib.hid (fun W N C (hW : Below w.heap.size w W) (hN : (s.bs.drop s.p).length = N) (hN2 : N ≤ 140737488355328) => rreadUvarint_is none N C (s.bs.drop s.p) W 0 k x (hrd.below hW) (by_drop h.ok.by_ _) hN hN2 hru)
  have PF := Lib.hid (fun m => rfail_is base g _ s (x : Int) (w.drewN m) (h.drew m) (by omega))
  unfold RStep0 at PF
  rw [h0] at c2
  have HH := Lib.hid h
  have HDL := Lib.hid hdl
  have hn0 : s.bs.length = 0 := by rw [hbs]; rfl
  rw [hn0] at hle hsz HDL
  have HP0 := Lib.hid hp0
  rw [hp0] at c1
  clear h hrd hdl hru hle hsz
  go_enter Tryz.func38, Tryz.ntmps38
  go_wp2
  go_quiet ((go_at_call 77; refine (PR.out _ _ _ (below_drewN (Below.refl _ _) _) (by have := HDL.out; omega) (by omega)).mono ?_; rintro r w1 ⟨rfl, rfl⟩; exact ⟨rfl, _, rfl⟩))
  have hxe : ((x : Int) == 0) = false := by rw [beq_eq_false_iff_ne]; omega
  go_wp2_with (go_at_call 78; refine (PF.out nq).mono ?_; rintro r w1 ⟨rfl, ht⟩; obtain ⟨d0, d1, d2, d3, e1, e2, e3⟩ := ht.rd.rf; have hlt1 := ht.rd.lt; have HT := Lib.hid ht; clear ht)
  go_ret
  exact ⟨rfl, HT.out.of_drew⟩

set_option maxHeartbeats 400000 in
set_option maxRecDepth 100000 in
theorem ruv_end_yes (base g : Nat) (q n c : Nat) (s : Rs) (z k x : Nat) (w : World) (h : Rdr base w 95 Rs.rcells g (.slice (some ⟨q, 0, none⟩) n c) s) (h0 : s.err = 0) (hn : n = s.bs.length) (hnc : n ≤ c) (hcp : c = s.p) (hk : s.p + k ≤ s.bs.length) (hru : Uv.ru 0 0 (s.bs.drop s.p) = (z, k, 0)) :
    Calls Tryz.prog 38 #[.pointer (some ⟨g, 0, none⟩)] w (Gave base w 95 Rs.rcells g (.slice (some ⟨q, 0, none⟩) n c) (.int .u64 (z : Nat)) (s.go k)) := by
  obtain ⟨c0, c1, c2, c3, f1, f2, f3⟩ := h.rf
  have hlt := h.lt
  have hle := h.ok.le
  have hsz := h.ok.sz
  have hrd : Rd w (some ⟨q, 0, none⟩) (b8 (s.bs.drop s.p)) := (by rw [List.drop_eq_nil_of_le (by omega)]; exact Rd.nil_ _ _)
  have hdl : (s.bs.drop s.p).length = s.bs.length - s.p := by simp
  have PR := Lib.hid (fun W N C (hW : Below w.heap.size w W) (hN : (s.bs.drop s.p).length = N) (hN2 : N ≤ 140737488355328) => rreadUvarint_is (some ⟨q, 0, none⟩) N C (s.bs.drop s.p) W z k 0 (hrd.below hW) (by_drop h.ok.by_ _) hN hN2 hru)
  have PF := Lib.hid (fun m => rfail_is base g _ s (0 : Int) (w.drewN m) (h.drew m) (by omega))
  unfold RStep0 at PF
  rw [h0] at c2
  have HH := Lib.hid h
  have HDL := Lib.hid hdl
  have HK := Lib.hid hk
  rw [← hn] at hle hsz HDL hk
  obtain ⟨pp, hpp⟩ : ∃ pp, pp = s.p := ⟨_, rfl⟩
  rw [← hpp] at c1 hle HDL hcp PR hk
  have HPP := Lib.hid hpp
  subst hcp
  have hnp : n = c := by omega
  subst hnp
  clear h hrd hdl hru hpp hn
  go_enter Tryz.func38, Tryz.ntmps38
  go_wp2
  go_quiet ((go_at_call 77; refine (PR.out _ _ _ (below_drewN (Below.refl _ _) _) (by have := HDL.out; omega) (by omega)).mono ?_; rintro r w1 ⟨rfl, rfl⟩; exact ⟨rfl, _, rfl⟩))
  go_wp2_with (go_at_call 78; refine (PF.out nq).mono ?_; rintro r w1 ⟨rfl, ht⟩; (rw [Rs.fail, Rs.failAt_ok] at ht); obtain ⟨d0, d1, d2, d3, e1, e2, e3⟩ := ht.rd.rf; (rw [show s.p = n from by rw [← HPP.out]] at d1); have hlt1 := ht.rd.lt; have HT := Lib.hid ht; clear ht)
  go_ret
  exact ⟨rfl, HT.out.of_drew.then (HT.out.rd.rmoved h0 HK.out (by rw [show s.p = n from by rw [← HPP.out]] <;> omega))⟩

set_option maxHeartbeats 400000 in
set_option maxRecDepth 100000 in
theorem ruv_end_no (base g : Nat) (q n c : Nat) (s : Rs) (z k x : Nat) (w : World) (h : Rdr base w 95 Rs.rcells g (.slice (some ⟨q, 0, none⟩) n c) s) (h0 : s.err = 0) (hn : n = s.bs.length) (hnc : n ≤ c) (hcp : c = s.p) (hx : x = 10 ∨ x = 11) (hru : Uv.ru 0 0 (s.bs.drop s.p) = (0, k, x)) :
    Calls Tryz.prog 38 #[.pointer (some ⟨g, 0, none⟩)] w (Gave base w 95 Rs.rcells g (.slice (some ⟨q, 0, none⟩) n c) (.int .u64 (0 : Nat)) (s.fail (x : Int))) := by
  obtain ⟨c0, c1, c2, c3, f1, f2, f3⟩ := h.rf
  have hlt := h.lt
  have hle := h.ok.le
  have hsz := h.ok.sz
  have hrd : Rd w (some ⟨q, 0, none⟩) (b8 (s.bs.drop s.p)) := (by rw [List.drop_eq_nil_of_le (by omega)]; exact Rd.nil_ _ _)
  have hdl : (s.bs.drop s.p).length = s.bs.length - s.p := by simp
  have PR := Lib.hid (fun W N C (hW : Below w.heap.size w W) (hN : (s.bs.drop s.p).length = N) (hN2 : N ≤ 140737488355328) => rreadUvarint_is (some ⟨q, 0, none⟩) N C (s.bs.drop s.p) W 0 k x (hrd.below hW) (by_drop h.ok.by_ _) hN hN2 hru)
  have PF := Lib.hid (fun m => rfail_is base g _ s (x : Int) (w.drewN m) (h.drew m) (by omega))
  unfold RStep0 at PF
  rw [h0] at c2
  have HH := Lib.hid h
  have HDL := Lib.hid hdl
  rw [← hn] at hle hsz HDL
  obtain ⟨pp, hpp⟩ : ∃ pp, pp = s.p := ⟨_, rfl⟩
  rw [← hpp] at c1 hle HDL hcp PR
  have HPP := Lib.hid hpp
  subst hcp
  have hnp : n = c := by omega
  subst hnp
  clear h hrd hdl hru hpp hn
  go_enter Tryz.func38, Tryz.ntmps38
  go_wp2
  go_quiet ((go_at_call 77; refine (PR.out _ _ _ (below_drewN (Below.refl _ _) _) (by have := HDL.out; omega) (by omega)).mono ?_; rintro r w1 ⟨rfl, rfl⟩; exact ⟨rfl, _, rfl⟩))
  have hxe : ((x : Int) == 0) = false := by rw [beq_eq_false_iff_ne]; omega
  go_wp2_with (go_at_call 78; refine (PF.out nq).mono ?_; rintro r w1 ⟨rfl, ht⟩; obtain ⟨d0, d1, d2, d3, e1, e2, e3⟩ := ht.rd.rf; have hlt1 := ht.rd.lt; have HT := Lib.hid ht; clear ht)
  go_ret
  exact ⟨rfl, HT.out.of_drew⟩

set_option maxHeartbeats 400000 in
set_option maxRecDepth 100000 in
theorem ruv_in_yes (base g : Nat) (q n c : Nat) (s : Rs) (z k x : Nat) (w : World) (h : Rdr base w 95 Rs.rcells g (.slice (some ⟨q, 0, none⟩) n c) s) (h0 : s.err = 0) (hn : n = s.bs.length) (hnc : n ≤ c) (hcp : s.p < c) (hk : s.p + k ≤ s.bs.length) (hru : Uv.ru 0 0 (s.bs.drop s.p) = (z, k, 0)) :
    Calls Tryz.prog 38 #[.pointer (some ⟨g, 0, none⟩)] w (Gave base w 95 Rs.rcells g (.slice (some ⟨q, 0, none⟩) n c) (.int .u64 (z : Nat)) (s.go k)) := by
  obtain ⟨c0, c1, c2, c3, f1, f2, f3⟩ := h.rf
  have hlt := h.lt
  have hle := h.ok.le
  have hsz := h.ok.sz
  have hrd : Rd w (some ⟨q, s.p, none⟩) (b8 (s.bs.drop s.p)) := (by have h9 := h.own; rw [← hn] at h9; exact rd_tail (A := some ⟨q, 0, none⟩) (rd_own h9) rfl)
  have hdl : (s.bs.drop s.p).length = s.bs.length - s.p := by simp
  have PR := Lib.hid (fun W N C (hW : Below w.heap.size w W) (hN : (s.bs.drop s.p).length = N) (hN2 : N ≤ 140737488355328) => rreadUvarint_is (some ⟨q, s.p, none⟩) N C (s.bs.drop s.p) W z k 0 (hrd.below hW) (by_drop h.ok.by_ _) hN hN2 hru)
  have PF := Lib.hid (fun m => rfail_is base g _ s (0 : Int) (w.drewN m) (h.drew m) (by omega))
  unfold RStep0 at PF
  rw [h0] at c2
  have HH := Lib.hid h
  have HDL := Lib.hid hdl
  have HK := Lib.hid hk
  rw [← hn] at hle hsz HDL hk
  obtain ⟨pp, hpp⟩ : ∃ pp, pp = s.p := ⟨_, rfl⟩
  rw [← hpp] at c1 hle HDL hcp PR hk
  have HPP := Lib.hid hpp
  clear h hrd hdl hru hpp hn
  go_enter Tryz.func38, Tryz.ntmps38
  go_wp2
  go_quiet ((go_at_call 77; refine (PR.out _ _ _ (below_drewN (Below.refl _ _) _) (by have := HDL.out; omega) (by omega)).mono ?_; rintro r w1 ⟨rfl, rfl⟩; exact ⟨rfl, _, rfl⟩))
  go_wp2_with (go_at_call 78; refine (PF.out nq).mono ?_; rintro r w1 ⟨rfl, ht⟩; (rw [Rs.fail, Rs.failAt_ok] at ht); obtain ⟨d0, d1, d2, d3, e1, e2, e3⟩ := ht.rd.rf; (rw [show s.p = pp from by rw [← HPP.out]] at d1); have hlt1 := ht.rd.lt; have HT := Lib.hid ht; clear ht)
  go_ret
  exact ⟨rfl, HT.out.of_drew.then (HT.out.rd.rmoved h0 HK.out (by rw [show s.p = pp from by rw [← HPP.out]] <;> omega))⟩

set_option maxHeartbeats 400000 in
set_option maxRecDepth 100000 in
theorem ruv_in_no (base g : Nat) (q n c : Nat) (s : Rs) (z k x : Nat) (w : World) (h : Rdr base w 95 Rs.rcells g (.slice (some ⟨q, 0, none⟩) n c) s) (h0 : s.err = 0) (hn : n = s.bs.length) (hnc : n ≤ c) (hcp : s.p < c) (hx : x = 10 ∨ x = 11) (hru : Uv.ru 0 0 (s.bs.drop s.p) = (0, k, x)) :
    Calls Tryz.prog 38 #[.pointer (some ⟨g, 0, none⟩)] w (Gave base w 95 Rs.rcells g (.slice (some ⟨q, 0, none⟩) n c) (.int .u64 (0 : Nat)) (s.fail (x : Int))) := by
  obtain ⟨c0, c1, c2, c3, f1, f2, f3⟩ := h.rf
  have hlt := h.lt
  have hle := h.ok.le
  have hsz := h.ok.sz
  have hrd : Rd w (some ⟨q, s.p, none⟩) (b8 (s.bs.drop s.p)) := (by have h9 := h.own; rw [← hn] at h9; exact rd_tail (A := some ⟨q, 0, none⟩) (rd_own h9) rfl)
  have hdl : (s.bs.drop s.p).length = s.bs.length - s.p := by simp
  have PR := Lib.hid (fun W N C (hW : Below w.heap.size w W) (hN : (s.bs.drop s.p).length = N) (hN2 : N ≤ 140737488355328) => rreadUvarint_is (some ⟨q, s.p, none⟩) N C (s.bs.drop s.p) W 0 k x (hrd.below hW) (by_drop h.ok.by_ _) hN hN2 hru)
  have PF := Lib.hid (fun m => rfail_is base g _ s (x : Int) (w.drewN m) (h.drew m) (by omega))
  unfold RStep0 at PF
  rw [h0] at c2
  have HH := Lib.hid h
  have HDL := Lib.hid hdl
  rw [← hn] at hle hsz HDL
  obtain ⟨pp, hpp⟩ : ∃ pp, pp = s.p := ⟨_, rfl⟩
  rw [← hpp] at c1 hle HDL hcp PR
  have HPP := Lib.hid hpp
  clear h hrd hdl hru hpp hn
  go_enter Tryz.func38, Tryz.ntmps38
  go_wp2
  go_quiet ((go_at_call 77; refine (PR.out _ _ _ (below_drewN (Below.refl _ _) _) (by have := HDL.out; omega) (by omega)).mono ?_; rintro r w1 ⟨rfl, rfl⟩; exact ⟨rfl, _, rfl⟩))
  have hxe : ((x : Int) == 0) = false := by rw [beq_eq_false_iff_ne]; omega
  go_wp2_with (go_at_call 78; refine (PF.out nq).mono ?_; rintro r w1 ⟨rfl, ht⟩; obtain ⟨d0, d1, d2, d3, e1, e2, e3⟩ := ht.rd.rf; have hlt1 := ht.rd.lt; have HT := Lib.hid ht; clear ht)
  go_ret
  exact ⟨rfl, HT.out.of_drew⟩

theorem ruv_r (base g : Nat) (v : Value) (s : Rs) (w : World) (h : Rdr base w 95 Rs.rcells g v s) :
    Calls Tryz.prog 38 #[.pointer (some ⟨g, 0, none⟩)] w (Gave base w 95 Rs.rcells g v (.int .u64 (s.num.1 : Nat)) s.num.2) := by
  by_cases h0 : s.err = 0
  · obtain ⟨z, k, x, hru, hz, ⟨rfl, hk, hnum⟩ | ⟨hx, rfl, hnum⟩⟩ := Rs.num_cases h.ok h0
    · rw [hnum]
      rcases h.row with ⟨rfl, hb, hp⟩ | ⟨q, c, rfl, hc, _⟩
      · exact ruv_nil_yes base g s z k 0 w h h0 hb hp hk hru
      · have hle := h.ok.le
        by_cases hcp : c = s.p
        · exact ruv_end_yes base g q _ c s z k 0 w h h0 rfl hc hcp hk hru
        · exact ruv_in_yes base g q _ c s z k 0 w h h0 rfl hc (by omega) hk hru
    · have hf : s.num = (0, s.fail (x : Int)) := by rw [hnum, Rs.fail, Rs.failAt_yes _ h0 (by omega)]
      rw [hf]
      rcases h.row with ⟨rfl, hb, hp⟩ | ⟨q, c, rfl, hc, _⟩
      · exact ruv_nil_no base g s 0 k x w h h0 hb hp hx hru
      · have hle := h.ok.le
        by_cases hcp : c = s.p
        · exact ruv_end_no base g q _ c s 0 k x w h h0 rfl hc hcp hx hru
        · exact ruv_in_no base g q _ c s 0 k x w h h0 rfl hc (by omega) hx hru
  · rw [Rs.num_bad h0]
    exact ruv_bad base g v s w h h0

set_option maxRecDepth 100000 in
theorem rvarint_r (base g : Nat) (v : Value) (s : Rs) (w : World) (h : Rdr base w 95 Rs.rcells g v s) :
    Calls Tryz.prog 39 #[.pointer (some ⟨g, 0, none⟩)] w (Gave base w 95 Rs.rcells g v (.int .i64 (Uv.zag (s.num.1 : Int))) s.num.2) := by
  have P1 := Lib.hid (ruv_r base g v s w h)
  unfold Gave at P1 ⊢
  have hn := h.ok.num.2.1
  clear h
  go_enter Tryz.func39, Tryz.ntmps39
  go_wp2_with (first
    | (go_at_call 38; refine P1.out.mono ?_; rintro r w1 ⟨rfl, ht⟩; have HT := Lib.hid ht; clear ht)
    | (go_at_call 79; refine (runzigzag_any _ _ hn).mono ?_; rintro r w2 ⟨rfl, rfl⟩))
  go_ret
  exact ⟨rfl, HT.out⟩
end Go.Proofs.YtljfmcgeiceagaaGreat

/- The document's readers: Text. (Printed by gen_rrdr5.py.) -/
namespace Go.Proofs.YtljfmcgeiceagaaGreat
open Go Go.RowKit
set_option linter.unusedVariables false
set_option linter.unusedSimpArgs false

theorem at_world {P : Program} {C : Code} {Q : Exit → Act → World → Prop} {a : Act} {w : World} (F : World → Prop) (hF : F w) (h : ∀ W, F W → Code.wp P C Q a W) : Code.wp P C Q a w := h w hF
theorem ru_nil_no {z k : Nat} (h : Uv.ru 0 0 [] = (z, k, 0)) : False := by simp [Uv.ru] at h
set_option maxRecDepth 100000 in
theorem rtext_bad (base g : Nat) (v : Value) (s : Rs) (most : Int) (w : World) (h : Rdr base w 95 Rs.rcells g v s) (h0 : s.err ≠ 0) :
    Calls Tryz.prog 40 #[.pointer (some ⟨g, 0, none⟩), .int .i64 most] w (Gave base w 95 Rs.rcells g v (.string ⟨#[]⟩) s) := by
  obtain ⟨c0, c1, c2, c3, f1, f2, f3⟩ := h.rf
  have hlt := h.lt
  have hb : (s.err != 0) = true := by simpa using h0
  have HH := Lib.hid h
  clear h
  go_enter Tryz.func40, Tryz.ntmps40
  go_wp2
  go_ret
  exact ⟨rfl, HH.out.turned⟩
set_option maxHeartbeats 400000 in
set_option maxRecDepth 100000 in
theorem rtext_no_nil (base g : Nat) (s : Rs) (z k x : Nat) (most : Int) (w : World) (h : Rdr base w 95 Rs.rcells g (.slice none 0 0) s) (h0 : s.err = 0) (hbs : s.bs = []) (hp0 : s.p = 0) (hx : x = 10 ∨ x = 11) (hru : Uv.ru 0 0 (s.bs.drop s.p) = (0, k, x))  :
    Calls Tryz.prog 40 #[.pointer (some ⟨g, 0, none⟩), .int .i64 most] w (Gave base w 95 Rs.rcells g (.slice none 0 0) (.string ⟨#[]⟩) (s.fail (x : Int))) := by
  obtain ⟨c0, c1, c2, c3, f1, f2, f3⟩ := h.rf
  have hlt := h.lt
  have hle := h.ok.le
  have hsz := h.ok.sz
  have hrd : Rd w none (b8 (s.bs.drop s.p)) := (by rw [hbs, List.drop_nil]; exact Rd.nil_ _ _)
  have hdl : (s.bs.drop s.p).length = s.bs.length - s.p := by simp
  have PR := Lib.hid (fun W N C (hW : Below w.heap.size w W) (hN : (s.bs.drop s.p).length = N) (hN2 : N ≤ 140737488355328) => rreadUvarint_is none N C (s.bs.drop s.p) W 0 k x (hrd.below hW) (by_drop h.ok.by_ _) hN hN2 hru)
  have PF := Lib.hid (fun m (e : Int) (he : -9223372036854775808 ≤ e ∧ e ≤ 9223372036854775807) => rfail_is base g _ s e (w.drewN m) (h.drew m) he)
  unfold RStep0 at PF
  rw [h0] at c2
  have HH := Lib.hid h
  have HDL := Lib.hid hdl
  have hn0 : s.bs.length = 0 := by rw [hbs]; rfl
  rw [hn0] at hle hsz HDL
  have HP0 := Lib.hid hp0
  rw [hp0] at c1
  clear h hrd hdl hru hle hsz
  go_enter Tryz.func40, Tryz.ntmps40
  go_wp2
  go_quiet ((go_at_call 77; refine (PR.out _ _ _ (below_drewN (Below.refl _ _) _) (by have := HDL.out; omega) (by omega)).mono ?_; rintro r w1 ⟨rfl, rfl⟩; exact ⟨rfl, _, rfl⟩))
  have hxe : ((x : Int) == 0) = false := by rw [beq_eq_false_iff_ne]; omega
  have hxn : ((x : Int) != 0) = true := by rw [bne_iff_ne]; omega
  go_wp2
  go_quiet (fail)
  go_wp2_with (go_at_call 78; refine (PF.out _ _ (by omega)).mono ?_; rintro r w1 ⟨rfl, ht⟩; have HT := Lib.hid ht; clear ht)
  go_ret
  exact ⟨rfl, HT.out.of_drew⟩

set_option maxHeartbeats 400000 in
set_option maxRecDepth 100000 in
theorem rtext_no_end (base g : Nat) (q n c : Nat) (s : Rs) (z k x : Nat) (most : Int) (w : World) (h : Rdr base w 95 Rs.rcells g (.slice (some ⟨q, 0, none⟩) n c) s) (h0 : s.err = 0) (hn : n = s.bs.length) (hnc : n ≤ c) (hcp : c = s.p) (hx : x = 10 ∨ x = 11) (hru : Uv.ru 0 0 (s.bs.drop s.p) = (0, k, x))  :
    Calls Tryz.prog 40 #[.pointer (some ⟨g, 0, none⟩), .int .i64 most] w (Gave base w 95 Rs.rcells g (.slice (some ⟨q, 0, none⟩) n c) (.string ⟨#[]⟩) (s.fail (x : Int))) := by
  obtain ⟨c0, c1, c2, c3, f1, f2, f3⟩ := h.rf
  have hlt := h.lt
  have hle := h.ok.le
  have hsz := h.ok.sz
  have hrd : Rd w (some ⟨q, 0, none⟩) (b8 (s.bs.drop s.p)) := (by rw [List.drop_eq_nil_of_le (by omega)]; exact Rd.nil_ _ _)
  have hdl : (s.bs.drop s.p).length = s.bs.length - s.p := by simp
  have PR := Lib.hid (fun W N C (hW : Below w.heap.size w W) (hN : (s.bs.drop s.p).length = N) (hN2 : N ≤ 140737488355328) => rreadUvarint_is (some ⟨q, 0, none⟩) N C (s.bs.drop s.p) W 0 k x (hrd.below hW) (by_drop h.ok.by_ _) hN hN2 hru)
  have PF := Lib.hid (fun m (e : Int) (he : -9223372036854775808 ≤ e ∧ e ≤ 9223372036854775807) => rfail_is base g _ s e (w.drewN m) (h.drew m) he)
  unfold RStep0 at PF
  rw [h0] at c2
  have HH := Lib.hid h
  have HDL := Lib.hid hdl
  rw [← hn] at hle hsz HDL
  obtain ⟨pp, hpp⟩ : ∃ pp, pp = s.p := ⟨_, rfl⟩
  rw [← hpp] at c1 hle HDL hcp PR
  have HPP := Lib.hid hpp
  subst hcp
  have hnp : n = c := by omega
  subst hnp
  clear h hrd hdl hru hpp hn
  go_enter Tryz.func40, Tryz.ntmps40
  go_wp2
  go_quiet ((go_at_call 77; refine (PR.out _ _ _ (below_drewN (Below.refl _ _) _) (by have := HDL.out; omega) (by omega)).mono ?_; rintro r w1 ⟨rfl, rfl⟩; exact ⟨rfl, _, rfl⟩))
  have hxe : ((x : Int) == 0) = false := by rw [beq_eq_false_iff_ne]; omega
  have hxn : ((x : Int) != 0) = true := by rw [bne_iff_ne]; omega
  go_wp2
  go_quiet (fail)
  go_wp2_with (go_at_call 78; refine (PF.out _ _ (by omega)).mono ?_; rintro r w1 ⟨rfl, ht⟩; have HT := Lib.hid ht; clear ht)
  go_ret
  exact ⟨rfl, HT.out.of_drew⟩

set_option maxHeartbeats 400000 in
set_option maxRecDepth 100000 in
theorem rtext_no_in (base g : Nat) (q n c : Nat) (s : Rs) (z k x : Nat) (most : Int) (w : World) (h : Rdr base w 95 Rs.rcells g (.slice (some ⟨q, 0, none⟩) n c) s) (h0 : s.err = 0) (hn : n = s.bs.length) (hnc : n ≤ c) (hcp : s.p < c) (hx : x = 10 ∨ x = 11) (hru : Uv.ru 0 0 (s.bs.drop s.p) = (0, k, x))  :
    Calls Tryz.prog 40 #[.pointer (some ⟨g, 0, none⟩), .int .i64 most] w (Gave base w 95 Rs.rcells g (.slice (some ⟨q, 0, none⟩) n c) (.string ⟨#[]⟩) (s.fail (x : Int))) := by
  obtain ⟨c0, c1, c2, c3, f1, f2, f3⟩ := h.rf
  have hlt := h.lt
  have hle := h.ok.le
  have hsz := h.ok.sz
  have hrd : Rd w (some ⟨q, s.p, none⟩) (b8 (s.bs.drop s.p)) := (by have h9 := h.own; rw [← hn] at h9; exact rd_tail (A := some ⟨q, 0, none⟩) (rd_own h9) rfl)
  have hdl : (s.bs.drop s.p).length = s.bs.length - s.p := by simp
  have PR := Lib.hid (fun W N C (hW : Below w.heap.size w W) (hN : (s.bs.drop s.p).length = N) (hN2 : N ≤ 140737488355328) => rreadUvarint_is (some ⟨q, s.p, none⟩) N C (s.bs.drop s.p) W 0 k x (hrd.below hW) (by_drop h.ok.by_ _) hN hN2 hru)
  have PF := Lib.hid (fun m (e : Int) (he : -9223372036854775808 ≤ e ∧ e ≤ 9223372036854775807) => rfail_is base g _ s e (w.drewN m) (h.drew m) he)
  unfold RStep0 at PF
  rw [h0] at c2
  have HH := Lib.hid h
  have HDL := Lib.hid hdl
  rw [← hn] at hle hsz HDL
  obtain ⟨pp, hpp⟩ : ∃ pp, pp = s.p := ⟨_, rfl⟩
  rw [← hpp] at c1 hle HDL hcp PR
  have HPP := Lib.hid hpp
  have HNN := Lib.hid hn
  clear h hrd hdl hru hpp hn
  go_enter Tryz.func40, Tryz.ntmps40
  go_wp2
  go_quiet ((go_at_call 77; refine (PR.out _ _ _ (below_drewN (Below.refl _ _) _) (by have := HDL.out; omega) (by omega)).mono ?_; rintro r w1 ⟨rfl, rfl⟩; exact ⟨rfl, _, rfl⟩))
  have hxe : ((x : Int) == 0) = false := by rw [beq_eq_false_iff_ne]; omega
  have hxn : ((x : Int) != 0) = true := by rw [bne_iff_ne]; omega
  go_wp2
  go_quiet (fail)
  go_wp2_with (go_at_call 78; refine (PF.out _ _ (by omega)).mono ?_; rintro r w1 ⟨rfl, ht⟩; have HT := Lib.hid ht; clear ht)
  go_ret
  exact ⟨rfl, HT.out.of_drew⟩

set_option maxHeartbeats 400000 in
set_option maxRecDepth 100000 in
theorem rtext_long (base g : Nat) (q n c : Nat) (s : Rs) (z k x : Nat) (most : Int) (w : World) (h : Rdr base w 95 Rs.rcells g (.slice (some ⟨q, 0, none⟩) n c) s) (h0 : s.err = 0) (hn : n = s.bs.length) (hnc : n ≤ c) (hcp : s.p < c) (hk : s.p + k ≤ s.bs.length) (hru : Uv.ru 0 0 (s.bs.drop s.p) = (z, k, 0)) (hz64 : z < 18446744073709551616) (hm64 : most ≤ 9223372036854775807) (hz : max most 0 < (z : Int)) :
    Calls Tryz.prog 40 #[.pointer (some ⟨g, 0, none⟩), .int .i64 most] w (Gave base w 95 Rs.rcells g (.slice (some ⟨q, 0, none⟩) n c) (.string ⟨#[]⟩) (s.fail 14)) := by
  obtain ⟨c0, c1, c2, c3, f1, f2, f3⟩ := h.rf
  have hlt := h.lt
  have hle := h.ok.le
  have hsz := h.ok.sz
  have hrd : Rd w (some ⟨q, s.p, none⟩) (b8 (s.bs.drop s.p)) := (by have h9 := h.own; rw [← hn] at h9; exact rd_tail (A := some ⟨q, 0, none⟩) (rd_own h9) rfl)
  have hdl : (s.bs.drop s.p).length = s.bs.length - s.p := by simp
  have PR := Lib.hid (fun W N C (hW : Below w.heap.size w W) (hN : (s.bs.drop s.p).length = N) (hN2 : N ≤ 140737488355328) => rreadUvarint_is (some ⟨q, s.p, none⟩) N C (s.bs.drop s.p) W z k 0 (hrd.below hW) (by_drop h.ok.by_ _) hN hN2 hru)
  have PF := Lib.hid (fun m (e : Int) (he : -9223372036854775808 ≤ e ∧ e ≤ 9223372036854775807) => rfail_is base g _ s e (w.drewN m) (h.drew m) he)
  unfold RStep0 at PF
  rw [h0] at c2
  have HH := Lib.hid h
  have HDL := Lib.hid hdl
  have HK := Lib.hid hk
  rw [← hn] at hle hsz HDL hk
  obtain ⟨pp, hpp⟩ : ∃ pp, pp = s.p := ⟨_, rfl⟩
  rw [← hpp] at c1 hle HDL hcp PR hk
  have HPP := Lib.hid hpp
  have HNN := Lib.hid hn
  clear h hrd hdl hru hpp hn
  go_enter Tryz.func40, Tryz.ntmps40
  go_wp2
  go_quiet ((go_at_call 77; refine (PR.out _ _ _ (below_drewN (Below.refl _ _) _) (by have := HDL.out; omega) (by omega)).mono ?_; rintro r w1 ⟨rfl, rfl⟩; exact ⟨rfl, _, rfl⟩))
  by_cases hm : most < 0
  · have hz' : 0 < z := by omega
    clear hz
    go_wp2
    all_goals (try (exfalso; omega))
    go_quiet (fail)
    go_wp2_with (go_at_call 78; refine (PF.out _ _ (by omega)).mono ?_; rintro r w1 ⟨rfl, ht⟩; have HT := Lib.hid ht; clear ht)
    go_ret
    exact ⟨rfl, HT.out.of_drew⟩
  · have hz' : most < (z : Int) := by omega
    clear hz
    go_wp2
    all_goals (try (exfalso; omega))
    go_quiet (fail)
    go_wp2_with (go_at_call 78; refine (PF.out _ _ (by omega)).mono ?_; rintro r w1 ⟨rfl, ht⟩; have HT := Lib.hid ht; clear ht)
    go_ret
    exact ⟨rfl, HT.out.of_drew⟩

set_option maxHeartbeats 400000 in
set_option maxRecDepth 100000 in
theorem rtext_short (base g : Nat) (q n c : Nat) (s : Rs) (z k x : Nat) (most : Int) (w : World) (h : Rdr base w 95 Rs.rcells g (.slice (some ⟨q, 0, none⟩) n c) s) (h0 : s.err = 0) (hn : n = s.bs.length) (hnc : n ≤ c) (hcp : s.p < c) (hk : s.p + k ≤ s.bs.length) (hru : Uv.ru 0 0 (s.bs.drop s.p) = (z, k, 0)) (hz64 : z < 18446744073709551616) (hm64 : most ≤ 9223372036854775807) (hz : (z : Int) ≤ max most 0) (hr : s.bs.length < s.p + k + z) :
    Calls Tryz.prog 40 #[.pointer (some ⟨g, 0, none⟩), .int .i64 most] w (Gave base w 95 Rs.rcells g (.slice (some ⟨q, 0, none⟩) n c) (.string ⟨#[]⟩) (s.fail 10)) := by
  obtain ⟨c0, c1, c2, c3, f1, f2, f3⟩ := h.rf
  have hlt := h.lt
  have hle := h.ok.le
  have hsz := h.ok.sz
  have hrd : Rd w (some ⟨q, s.p, none⟩) (b8 (s.bs.drop s.p)) := (by have h9 := h.own; rw [← hn] at h9; exact rd_tail (A := some ⟨q, 0, none⟩) (rd_own h9) rfl)
  have hdl : (s.bs.drop s.p).length = s.bs.length - s.p := by simp
  have PR := Lib.hid (fun W N C (hW : Below w.heap.size w W) (hN : (s.bs.drop s.p).length = N) (hN2 : N ≤ 140737488355328) => rreadUvarint_is (some ⟨q, s.p, none⟩) N C (s.bs.drop s.p) W z k 0 (hrd.below hW) (by_drop h.ok.by_ _) hN hN2 hru)
  have PF := Lib.hid (fun m (e : Int) (he : -9223372036854775808 ≤ e ∧ e ≤ 9223372036854775807) => rfail_is base g _ s e (w.drewN m) (h.drew m) he)
  unfold RStep0 at PF
  rw [h0] at c2
  have HH := Lib.hid h
  have HDL := Lib.hid hdl
  have HK := Lib.hid hk
  rw [← hn] at hle hsz HDL hk hr
  obtain ⟨pp, hpp⟩ : ∃ pp, pp = s.p := ⟨_, rfl⟩
  rw [← hpp] at c1 hle HDL hcp PR hk hr
  have HPP := Lib.hid hpp
  have HNN := Lib.hid hn
  clear h hrd hdl hru hpp hn
  go_enter Tryz.func40, Tryz.ntmps40
  go_wp2
  go_quiet ((go_at_call 77; refine (PR.out _ _ _ (below_drewN (Below.refl _ _) _) (by have := HDL.out; omega) (by omega)).mono ?_; rintro r w1 ⟨rfl, rfl⟩; exact ⟨rfl, _, rfl⟩))
  by_cases hm : most < 0
  · have hz' : z = 0 := by omega
    clear hz
    omega
  · have hz' : (z : Int) ≤ most := by omega
    clear hz
    go_wp2
    all_goals (try (exfalso; omega))
    go_quiet (fail)
    go_wp2_with (go_at_call 78; refine (PF.out _ _ (by omega)).mono ?_; rintro r w1 ⟨rfl, ht⟩; have HT := Lib.hid ht; clear ht)
    go_ret
    exact ⟨rfl, HT.out.of_drew⟩

set_option maxHeartbeats 400000 in
set_option maxRecDepth 100000 in
theorem rtext_yes_a (base g : Nat) (q n c : Nat) (s : Rs) (z k x : Nat) (most : Int) (w : World) (h : Rdr base w 95 Rs.rcells g (.slice (some ⟨q, 0, none⟩) n c) s) (h0 : s.err = 0) (hn : n = s.bs.length) (hnc : n ≤ c) (hcp : s.p < c) (hk : s.p + k ≤ s.bs.length) (hru : Uv.ru 0 0 (s.bs.drop s.p) = (z, k, 0)) (hz64 : z < 18446744073709551616) (hm64 : most ≤ 9223372036854775807) (hz : (z : Int) ≤ max most 0) (hr : s.p + k + z ≤ s.bs.length) (hpc : c = s.p + k) :
    Calls Tryz.prog 40 #[.pointer (some ⟨g, 0, none⟩), .int .i64 most] w (Gave base w 95 Rs.rcells g (.slice (some ⟨q, 0, none⟩) n c) (.string (strOf ((s.bs.drop (s.p + k)).take z))) (s.go (k + z))) := by
  obtain ⟨c0, c1, c2, c3, f1, f2, f3⟩ := h.rf
  have hlt := h.lt
  have hle := h.ok.le
  have hsz := h.ok.sz
  have hrd : Rd w (some ⟨q, s.p, none⟩) (b8 (s.bs.drop s.p)) := (by have h9 := h.own; rw [← hn] at h9; exact rd_tail (A := some ⟨q, 0, none⟩) (rd_own h9) rfl)
  have hdl : (s.bs.drop s.p).length = s.bs.length - s.p := by simp
  have PR := Lib.hid (fun W N C (hW : Below w.heap.size w W) (hN : (s.bs.drop s.p).length = N) (hN2 : N ≤ 140737488355328) => rreadUvarint_is (some ⟨q, s.p, none⟩) N C (s.bs.drop s.p) W z k 0 (hrd.below hW) (by_drop h.ok.by_ _) hN hN2 hru)
  have PF := Lib.hid (fun m (e : Int) (he : -9223372036854775808 ≤ e ∧ e ≤ 9223372036854775807) => rfail_is base g _ s e (w.drewN m) (h.drew m) he)
  unfold RStep0 at PF
  rw [h0] at c2
  have HH := Lib.hid h
  have HDL := Lib.hid hdl
  have HK := Lib.hid hk
  rw [← hn] at hle hsz HDL hk hr
  obtain ⟨pp, hpp⟩ : ∃ pp, pp = s.p := ⟨_, rfl⟩
  rw [← hpp] at c1 hle HDL hcp PR hk hr hpc
  have HPP := Lib.hid hpp
  have HNN := Lib.hid hn
  clear h hrd hdl hru hpp hn
  have hbl : ((s.bs.drop (s.p + k)).take z).length = z := by
    have := HNN.out
    have := HPP.out
    simp only [List.length_take, List.length_drop]
    omega
  have hby : By ((s.bs.drop (s.p + k)).take z) := fun b hb => HH.out.ok.by_ b (List.mem_of_mem_drop (List.mem_of_mem_take hb))
  obtain ⟨bs, hbs⟩ : ∃ bs, bs = (s.bs.drop (s.p + k)).take z := ⟨_, rfl⟩
  rw [← hbs] at hbl hby ⊢
  have HBL := Lib.hid hbl
  have HBY := Lib.hid hby
  have HBS := Lib.hid hbs
  clear hbl hby hbs
  go_enter Tryz.func40, Tryz.ntmps40
  go_wp2
  go_quiet ((go_at_call 77; refine (PR.out _ _ _ (below_drewN (Below.refl _ _) _) (by have := HDL.out; omega) (by omega)).mono ?_; rintro r w1 ⟨rfl, rfl⟩; exact ⟨rfl, _, rfl⟩))
  by_cases hm : most < 0
  · have hz' : z = 0 := by omega
    clear hz
    go_wp2
    all_goals (try (exfalso; omega))
    go_quiet (fail)
    go_wp2
    skip
    have hz0 : z = 0 := by omega
    have t1 : ((pp : Int) + (k : Int)).toNat = pp + k := by omega
    have b1 : (0 : Int) ≤ (pp : Int) + (k : Int) := by omega
    have b2 : (pp : Int) + (k : Int) ≤ (c : Int) := by omega
    have t2 : ((pp : Int) + (k : Int) + (z : Int)).toNat = pp + k + z := by omega
    have b3 : (0 : Int) ≤ (pp : Int) + (k : Int) + (z : Int) := by omega
    have b5 : (pp : Int) + (k : Int) ≤ (pp : Int) + (k : Int) + (z : Int) := by omega
    have b4 : (pp : Int) + (k : Int) + (z : Int) ≤ (c : Int) := by omega
    refine at_world (fun W => Turned base w 95 Rs.rcells g (.slice (some ⟨q, 0, none⟩) n c) (s.go (k + z)) W) (Turned.of_drew ((HH.out.drew _).rmoved h0 (k := k + z) (by rw [← HPP.out, ← HNN.out]; omega) (by rw [← HPP.out]; omega))) ?_
    intro W3 HT3
    obtain ⟨d0, d1, _, _, _, _, _⟩ := HT3.rd.rf
    have hlt3 := HT3.rd.lt
    rw [show (((s.go (k + z)).p : Nat) : Int) = (pp : Int) + (k : Int) + (z : Int) from by simp only [Rs.go]; have := HPP.out; omega] at d1
    have h9 := HT3.rd.own
    rw [show (s.go (k + z)).bs = s.bs from rfl, ← HNN.out] at h9
    have hr9 : Rd W3 (some ⟨q, 0, none⟩) (b8 bs) := (by have : bs = [] := List.eq_nil_of_length_eq_zero (by have := HBL.out; omega); rw [this]; exact Rd.nil_ _ _)
    have HR9 := Lib.hid (hr9.below (Below.refl _ _).drew)
    have HT4 := Lib.hid HT3
    clear HT3 h9 hr9
    refine wp_region_still_tail 10 (by kernel_rfl) (by kernel_rfl) ?_
    simp only [List.take_succ_cons, List.take_zero, List.drop_succ_cons, List.drop_zero]
    repeat still_step
    refine wpStill_nil ?_
    change wpList _ _ _ _ _ W3.drew
    refine wpList_str _ rfl (.tmp 88) 27 9 5 rfl Tryz.underlying27 Tryz.underlying5 Tryz.underlying9 (some ⟨q, 0, none⟩) _ _ bs rfl HR9.out (by have := HBL.out; omega) HBY.out ?_
    go_wp2
    go_ret
    have h9 := HT4.out.below (Below.refl _ _).drew
    exact ⟨rfl, by first | exact h9 | simpa [hz'] using h9⟩
  · have hz' : (z : Int) ≤ most := by omega
    clear hz
    go_wp2
    all_goals (try (exfalso; omega))
    go_quiet (fail)
    go_wp2
    skip
    have hz0 : z = 0 := by omega
    have t1 : ((pp : Int) + (k : Int)).toNat = pp + k := by omega
    have b1 : (0 : Int) ≤ (pp : Int) + (k : Int) := by omega
    have b2 : (pp : Int) + (k : Int) ≤ (c : Int) := by omega
    have t2 : ((pp : Int) + (k : Int) + (z : Int)).toNat = pp + k + z := by omega
    have b3 : (0 : Int) ≤ (pp : Int) + (k : Int) + (z : Int) := by omega
    have b5 : (pp : Int) + (k : Int) ≤ (pp : Int) + (k : Int) + (z : Int) := by omega
    have b4 : (pp : Int) + (k : Int) + (z : Int) ≤ (c : Int) := by omega
    refine at_world (fun W => Turned base w 95 Rs.rcells g (.slice (some ⟨q, 0, none⟩) n c) (s.go (k + z)) W) (Turned.of_drew ((HH.out.drew _).rmoved h0 (k := k + z) (by rw [← HPP.out, ← HNN.out]; omega) (by rw [← HPP.out]; omega))) ?_
    intro W3 HT3
    obtain ⟨d0, d1, _, _, _, _, _⟩ := HT3.rd.rf
    have hlt3 := HT3.rd.lt
    rw [show (((s.go (k + z)).p : Nat) : Int) = (pp : Int) + (k : Int) + (z : Int) from by simp only [Rs.go]; have := HPP.out; omega] at d1
    have h9 := HT3.rd.own
    rw [show (s.go (k + z)).bs = s.bs from rfl, ← HNN.out] at h9
    have hr9 : Rd W3 (some ⟨q, 0, none⟩) (b8 bs) := (by have : bs = [] := List.eq_nil_of_length_eq_zero (by have := HBL.out; omega); rw [this]; exact Rd.nil_ _ _)
    have HR9 := Lib.hid (hr9.below (Below.refl _ _).drew)
    have HT4 := Lib.hid HT3
    clear HT3 h9 hr9
    refine wp_region_still_tail 10 (by kernel_rfl) (by kernel_rfl) ?_
    simp only [List.take_succ_cons, List.take_zero, List.drop_succ_cons, List.drop_zero]
    repeat still_step
    refine wpStill_nil ?_
    change wpList _ _ _ _ _ W3.drew
    refine wpList_str _ rfl (.tmp 88) 27 9 5 rfl Tryz.underlying27 Tryz.underlying5 Tryz.underlying9 (some ⟨q, 0, none⟩) _ _ bs rfl HR9.out (by have := HBL.out; omega) HBY.out ?_
    go_wp2
    go_ret
    have h9 := HT4.out.below (Below.refl _ _).drew
    exact ⟨rfl, by first | exact h9 | simpa [hz'] using h9⟩

set_option maxHeartbeats 400000 in
set_option maxRecDepth 100000 in
theorem rtext_yes_b (base g : Nat) (q n c : Nat) (s : Rs) (z k x : Nat) (most : Int) (w : World) (h : Rdr base w 95 Rs.rcells g (.slice (some ⟨q, 0, none⟩) n c) s) (h0 : s.err = 0) (hn : n = s.bs.length) (hnc : n ≤ c) (hcp : s.p < c) (hk : s.p + k ≤ s.bs.length) (hru : Uv.ru 0 0 (s.bs.drop s.p) = (z, k, 0)) (hz64 : z < 18446744073709551616) (hm64 : most ≤ 9223372036854775807) (hz : (z : Int) ≤ max most 0) (hr : s.p + k + z ≤ s.bs.length) (hpc : s.p + k < c) :
    Calls Tryz.prog 40 #[.pointer (some ⟨g, 0, none⟩), .int .i64 most] w (Gave base w 95 Rs.rcells g (.slice (some ⟨q, 0, none⟩) n c) (.string (strOf ((s.bs.drop (s.p + k)).take z))) (s.go (k + z))) := by
  obtain ⟨c0, c1, c2, c3, f1, f2, f3⟩ := h.rf
  have hlt := h.lt
  have hle := h.ok.le
  have hsz := h.ok.sz
  have hrd : Rd w (some ⟨q, s.p, none⟩) (b8 (s.bs.drop s.p)) := (by have h9 := h.own; rw [← hn] at h9; exact rd_tail (A := some ⟨q, 0, none⟩) (rd_own h9) rfl)
  have hdl : (s.bs.drop s.p).length = s.bs.length - s.p := by simp
  have PR := Lib.hid (fun W N C (hW : Below w.heap.size w W) (hN : (s.bs.drop s.p).length = N) (hN2 : N ≤ 140737488355328) => rreadUvarint_is (some ⟨q, s.p, none⟩) N C (s.bs.drop s.p) W z k 0 (hrd.below hW) (by_drop h.ok.by_ _) hN hN2 hru)
  have PF := Lib.hid (fun m (e : Int) (he : -9223372036854775808 ≤ e ∧ e ≤ 9223372036854775807) => rfail_is base g _ s e (w.drewN m) (h.drew m) he)
  unfold RStep0 at PF
  rw [h0] at c2
  have HH := Lib.hid h
  have HDL := Lib.hid hdl
  have HK := Lib.hid hk
  rw [← hn] at hle hsz HDL hk hr
  obtain ⟨pp, hpp⟩ : ∃ pp, pp = s.p := ⟨_, rfl⟩
  rw [← hpp] at c1 hle HDL hcp PR hk hr hpc
  have HPP := Lib.hid hpp
  have HNN := Lib.hid hn
  clear h hrd hdl hru hpp hn
  have hbl : ((s.bs.drop (s.p + k)).take z).length = z := by
    have := HNN.out
    have := HPP.out
    simp only [List.length_take, List.length_drop]
    omega
  have hby : By ((s.bs.drop (s.p + k)).take z) := fun b hb => HH.out.ok.by_ b (List.mem_of_mem_drop (List.mem_of_mem_take hb))
  obtain ⟨bs, hbs⟩ : ∃ bs, bs = (s.bs.drop (s.p + k)).take z := ⟨_, rfl⟩
  rw [← hbs] at hbl hby ⊢
  have HBL := Lib.hid hbl
  have HBY := Lib.hid hby
  have HBS := Lib.hid hbs
  clear hbl hby hbs
  go_enter Tryz.func40, Tryz.ntmps40
  go_wp2
  go_quiet ((go_at_call 77; refine (PR.out _ _ _ (below_drewN (Below.refl _ _) _) (by have := HDL.out; omega) (by omega)).mono ?_; rintro r w1 ⟨rfl, rfl⟩; exact ⟨rfl, _, rfl⟩))
  by_cases hm : most < 0
  · have hz' : z = 0 := by omega
    clear hz
    go_wp2
    all_goals (try (exfalso; omega))
    go_quiet (fail)
    go_wp2
    have hne : ¬ c = pp + k := by omega
    have hz0 : z = z := by omega
    have t1 : ((pp : Int) + (k : Int)).toNat = pp + k := by omega
    have b1 : (0 : Int) ≤ (pp : Int) + (k : Int) := by omega
    have b2 : (pp : Int) + (k : Int) ≤ (c : Int) := by omega
    have t2 : ((pp : Int) + (k : Int) + (z : Int)).toNat = pp + k + z := by omega
    have b3 : (0 : Int) ≤ (pp : Int) + (k : Int) + (z : Int) := by omega
    have b5 : (pp : Int) + (k : Int) ≤ (pp : Int) + (k : Int) + (z : Int) := by omega
    have b4 : (pp : Int) + (k : Int) + (z : Int) ≤ (c : Int) := by omega
    refine at_world (fun W => Turned base w 95 Rs.rcells g (.slice (some ⟨q, 0, none⟩) n c) (s.go (k + z)) W) (Turned.of_drew ((HH.out.drew _).rmoved h0 (k := k + z) (by rw [← HPP.out, ← HNN.out]; omega) (by rw [← HPP.out]; omega))) ?_
    intro W3 HT3
    obtain ⟨d0, d1, _, _, _, _, _⟩ := HT3.rd.rf
    have hlt3 := HT3.rd.lt
    rw [show (((s.go (k + z)).p : Nat) : Int) = (pp : Int) + (k : Int) + (z : Int) from by simp only [Rs.go]; have := HPP.out; omega] at d1
    have h9 := HT3.rd.own
    rw [show (s.go (k + z)).bs = s.bs from rfl, ← HNN.out] at h9
    have hr9 : Rd W3 (some ⟨q, pp + k, none⟩) (b8 bs) := (by have h8 := rd_part (p := s.p + k) (k := z) (A := some ⟨q, 0, none⟩) (rd_own h9) rfl; rw [← HBS.out, ← HPP.out] at h8; exact h8)
    have HR9 := Lib.hid (hr9.below (Below.refl _ _).drew)
    have HT4 := Lib.hid HT3
    clear HT3 h9 hr9
    refine wp_region_still_tail 10 (by kernel_rfl) (by kernel_rfl) ?_
    simp only [List.take_succ_cons, List.take_zero, List.drop_succ_cons, List.drop_zero]
    repeat still_step
    refine wpStill_nil ?_
    change wpList _ _ _ _ _ W3.drew
    refine wpList_str _ rfl (.tmp 88) 27 9 5 rfl Tryz.underlying27 Tryz.underlying5 Tryz.underlying9 (some ⟨q, pp + k, none⟩) _ _ bs rfl HR9.out (by have := HBL.out; omega) HBY.out ?_
    go_wp2
    go_ret
    have h9 := HT4.out.below (Below.refl _ _).drew
    exact ⟨rfl, by first | exact h9 | simpa [hz'] using h9⟩
  · have hz' : (z : Int) ≤ most := by omega
    clear hz
    go_wp2
    all_goals (try (exfalso; omega))
    go_quiet (fail)
    go_wp2
    have hne : ¬ c = pp + k := by omega
    have hz0 : z = z := by omega
    have t1 : ((pp : Int) + (k : Int)).toNat = pp + k := by omega
    have b1 : (0 : Int) ≤ (pp : Int) + (k : Int) := by omega
    have b2 : (pp : Int) + (k : Int) ≤ (c : Int) := by omega
    have t2 : ((pp : Int) + (k : Int) + (z : Int)).toNat = pp + k + z := by omega
    have b3 : (0 : Int) ≤ (pp : Int) + (k : Int) + (z : Int) := by omega
    have b5 : (pp : Int) + (k : Int) ≤ (pp : Int) + (k : Int) + (z : Int) := by omega
    have b4 : (pp : Int) + (k : Int) + (z : Int) ≤ (c : Int) := by omega
    refine at_world (fun W => Turned base w 95 Rs.rcells g (.slice (some ⟨q, 0, none⟩) n c) (s.go (k + z)) W) (Turned.of_drew ((HH.out.drew _).rmoved h0 (k := k + z) (by rw [← HPP.out, ← HNN.out]; omega) (by rw [← HPP.out]; omega))) ?_
    intro W3 HT3
    obtain ⟨d0, d1, _, _, _, _, _⟩ := HT3.rd.rf
    have hlt3 := HT3.rd.lt
    rw [show (((s.go (k + z)).p : Nat) : Int) = (pp : Int) + (k : Int) + (z : Int) from by simp only [Rs.go]; have := HPP.out; omega] at d1
    have h9 := HT3.rd.own
    rw [show (s.go (k + z)).bs = s.bs from rfl, ← HNN.out] at h9
    have hr9 : Rd W3 (some ⟨q, pp + k, none⟩) (b8 bs) := (by have h8 := rd_part (p := s.p + k) (k := z) (A := some ⟨q, 0, none⟩) (rd_own h9) rfl; rw [← HBS.out, ← HPP.out] at h8; exact h8)
    have HR9 := Lib.hid (hr9.below (Below.refl _ _).drew)
    have HT4 := Lib.hid HT3
    clear HT3 h9 hr9
    refine wp_region_still_tail 10 (by kernel_rfl) (by kernel_rfl) ?_
    simp only [List.take_succ_cons, List.take_zero, List.drop_succ_cons, List.drop_zero]
    repeat still_step
    refine wpStill_nil ?_
    change wpList _ _ _ _ _ W3.drew
    refine wpList_str _ rfl (.tmp 88) 27 9 5 rfl Tryz.underlying27 Tryz.underlying5 Tryz.underlying9 (some ⟨q, pp + k, none⟩) _ _ bs rfl HR9.out (by have := HBL.out; omega) HBY.out ?_
    go_wp2
    go_ret
    have h9 := HT4.out.below (Below.refl _ _).drew
    exact ⟨rfl, by first | exact h9 | simpa [hz'] using h9⟩

theorem rtext_r (base g : Nat) (v : Value) (s : Rs) (most : Int) (w : World) (h : Rdr base w 95 Rs.rcells g v s) (hmost : -9223372036854775808 ≤ most ∧ most ≤ 9223372036854775807) :
    Calls Tryz.prog 40 #[.pointer (some ⟨g, 0, none⟩), .int .i64 most] w (Gave base w 95 Rs.rcells g v (.string (strOf (s.text most).1)) (s.text most).2) := by
  by_cases h0 : s.err = 0
  · obtain ⟨z, k, x, hru, hz, ⟨rfl, hk, hnum⟩ | ⟨hx, rfl, hnum⟩⟩ := Rs.num_cases h.ok h0
    · rcases h.row with ⟨rfl, hb, hp⟩ | ⟨q, c, rfl, hc, _⟩
      · rw [hb, List.drop_nil] at hru
        exact (ru_nil_no hru).elim
      · have hle := h.ok.le
        by_cases hcp : c = s.p
        · rw [List.drop_eq_nil_of_le (by omega)] at hru
          exact (ru_nil_no hru).elim
        · have he : s.num.2.err = 0 := by rw [hnum]; exact h0
          by_cases hm : max most 0 < (z : Int)
          · have e : s.text most = ([], s.fail 14) := by
              rw [Rs.text_long h.ok most he (by rw [hnum]; exact hm), hnum, Rs.fail, Rs.failAt_yes _ h0 (by omega), Rs.failAt_yes _ (by exact h0) (by omega)]
              rfl
            rw [e]
            exact rtext_long base g q _ c s z k 0 most w h h0 rfl hc (by omega) hk hru hz hmost.2 hm
          · by_cases hr : s.bs.length < s.p + k + z
            · have e : s.text most = ([], s.fail 10) := by
                rw [Rs.text_short h.ok most he (by rw [hnum]; simp only; omega) (by rw [hnum]; simp only [Rs.rest, Rs.go]; omega), hnum, Rs.fail, Rs.failAt_yes _ h0 (by omega), Rs.failAt_yes _ (by exact h0) (by omega)]
                rfl
              rw [e]
              exact rtext_short base g q _ c s z k 0 most w h h0 rfl hc (by omega) hk hru hz hmost.2 (by omega) hr
            · have e : s.text most = ((s.bs.drop (s.p + k)).take z, s.go (k + z)) := by
                rw [Rs.text_yes h.ok most he (by rw [hnum]; simp only; omega) (by rw [hnum]; simp only [Rs.rest, Rs.go]; omega), hnum]
                simp only [Rs.go, Nat.add_assoc]
              rw [e]
              by_cases hpc : c = s.p + k
              · exact rtext_yes_a base g q _ c s z k 0 most w h h0 rfl hc (by omega) hk hru hz hmost.2 (by omega) (by omega) hpc
              · exact rtext_yes_b base g q _ c s z k 0 most w h h0 rfl hc (by omega) hk hru hz hmost.2 (by omega) (by omega) (by omega)
    · have hf : s.num.2 = s.fail (x : Int) := by rw [hnum, Rs.fail, Rs.failAt_yes _ h0 (by omega)]
      have e : s.text most = ([], s.fail (x : Int)) := by
        rw [Rs.text_bad most (by rw [hnum]; simp only; omega), hf]
      rw [e]
      rcases h.row with ⟨rfl, hb, hp⟩ | ⟨q, c, rfl, hc, _⟩
      · exact rtext_no_nil base g s 0 k x most w h h0 hb hp hx hru
      · have hle := h.ok.le
        by_cases hcp : c = s.p
        · exact rtext_no_end base g q _ c s 0 k x most w h h0 rfl hc hcp hx hru
        · exact rtext_no_in base g q _ c s 0 k x most w h h0 rfl hc (by omega) hx hru
  · have e : s.text most = ([], s) := by unfold Rs.text; rw [if_pos h0]
    rw [e]
    exact rtext_bad base g v s most w h h0
end Go.Proofs.YtljfmcgeiceagaaGreat
