/- Readers in memory. -/
import Derived.Test.YtmdpncjffikmiaaRs
namespace Go.Proofs.Ytmdpncjffikmiaa
open Go Go.RowKit
set_option linter.unusedVariables false
set_option linter.unusedSimpArgs false

def Rs.cells (s : Rs) (v : Value) : Array Value := #[v, .int .i64 (s.p : Int), .bool (s.err != 0), .int .i64 s.err, .int .i64 (s.ea : Int)]
def Rs.rcells (s : Rs) (v : Value) : Array Value := #[v, .int .i64 (s.p : Int), .int .i64 s.err, .int .i64 (s.ea : Int)]

structure Rdr (base : Nat) (W : World) (T : TypeId) (cf : Rs → Value → Array Value) (g : Nat) (v : Value) (s : Rs) : Prop where
  cell : W.heap[g]? = some (.cells (cf s v) T (0, 0))
  own : W.ownsRow base 5 1 v s.bs.length (b8 s.bs)
  ne : ∀ q, v.ownBlock = some q → q ≠ g
  gb : base ≤ g
  ok : s.Ok

/-- But for one block. -/
abbrev Kept1 (w w' : World) (g : Nat) : Prop := KeptS w w' (fun q => q = g)

/-- What a step of a reader leaves. -/
structure Turned (base : Nat) (W : World) (T : TypeId) (cf : Rs → Value → Array Value) (g : Nat) (v : Value) (s : Rs) (W' : World) : Prop where
  rd : Rdr base W' T cf g v s
  kept : Kept1 W W' g

section
variable {base : Nat} {W W' : World} {T : TypeId} {cf : Rs → Value → Array Value} {g : Nat} {v : Value} {s s' : Rs}
theorem Rdr.lt (h : Rdr base W T cf g v s) : g < W.heap.size := lt_of_block h.cell
theorem Rdr.keptS {S : Nat → Prop} (h : Rdr base W T cf g v s) (hk : KeptS W W' S) (hg : ¬ S g) (hv : ∀ q, v.ownBlock = some q → ¬ S q) : Rdr base W' T cf g v s := by
  refine ⟨(hk.block g h.lt hg).trans h.cell, ⟨h.own.1, ?_⟩, h.ne, h.gb, h.ok⟩
  rcases h.own.2 with hn | ⟨q, cap, cur, e, hb, hh, rest⟩
  · exact .inl hn
  · exact .inr ⟨q, cap, cur, e, hb, (hk.block q (Array.getElem?_eq_some_iff.1 hh).1 (hv q (by rw [e]; rfl))).trans hh, rest⟩
theorem Rdr.below (h : Rdr base W T cf g v s) (hb : Below W.heap.size W W') : Rdr base W' T cf g v s := h.keptS (KeptS.of_below hb (fun _ => False)) (fun h => h) (fun _ _ h => h)
theorem Rdr.turned (h : Rdr base W T cf g v s) : Turned base W T cf g v s W := ⟨h, KeptS.refl _ _⟩
theorem Turned.then {W1 : World} (h : Turned base W T cf g v s W1) (h' : Turned base W1 T cf g v s' W') : Turned base W T cf g v s' W' := ⟨h'.rd, h.kept.trans h'.kept (fun q hq => .inl hq)⟩
theorem Turned.below {W1 : World} (h : Turned base W T cf g v s W1) (hb : Below W1.heap.size W1 W') : Turned base W T cf g v s W' := ⟨h.rd.below hb, h.kept.trans (KeptS.of_below hb _) (fun q hq => .inl hq)⟩
/-- The cells of its block written anew. -/
theorem Rdr.write (h : Rdr base W T cf g v s) (hc : W'.heap[g]? = some (.cells (cf s' v) T (0, 0))) (hk : Kept1 W W' g) (hs : s'.bs = s.bs) (ho : s'.Ok) : Turned base W T cf g v s' W' := by
  refine ⟨⟨hc, ?_, h.ne, h.gb, ho⟩, hk⟩
  rw [hs]
  refine ⟨h.own.1, ?_⟩
  rcases h.own.2 with hn | ⟨q, cap, cur, e, hb, hh, rest⟩
  · exact .inl hn
  · exact .inr ⟨q, cap, cur, e, hb, (hk.block q (Array.getElem?_eq_some_iff.1 hh).1 (h.ne q (by rw [e]; rfl))).trans hh, rest⟩
theorem kept1_set (w : World) (g j : Nat) (u : Value) : Kept1 w (w.setCell ⟨g, j, none⟩ u) g :=
  ⟨rfl, rfl, rfl, by simp, fun k _ hk => heap_setCell_other w ⟨g, j, none⟩ k u (fun e => hk (by simpa using e))⟩
end

/-- The program's cells. -/
structure PF (W : World) (g : Nat) (v : Value) (p : Int) (b : Bool) (e : Int) (q : Int) : Prop where
  c0 : W.cell? ⟨g, 0, none⟩ = some v
  c1 : W.cell? ⟨g, 1, none⟩ = some (.int .i64 p)
  c2 : W.cell? ⟨g, 2, none⟩ = some (.bool b)
  c3 : W.cell? ⟨g, 3, none⟩ = some (.int .i64 e)
  c4 : W.cell? ⟨g, 4, none⟩ = some (.int .i64 q)
  f1 : W.frozen? ⟨g, 1, none⟩ = false
  f2 : W.frozen? ⟨g, 2, none⟩ = false
  f3 : W.frozen? ⟨g, 3, none⟩ = false
  f4 : W.frozen? ⟨g, 4, none⟩ = false
theorem Rdr.pf {base : Nat} {W : World} {T : TypeId} {g : Nat} {v : Value} {s : Rs} (h : Rdr base W T Rs.cells g v s) : PF W g v s.p (s.err != 0) s.err s.ea := by
  have hc := h.cell
  unfold Rs.cells at hc
  constructor <;> first | (rw [cell_of_row W g _ _ _ _ hc]; rfl) | simp [World.frozen?, hc]

theorem set1 {w : World} {g j : Nat} {cur : Array Value} {T : TypeId} {u : Value} (h : w.heap[g]? = some (.cells cur T (0, 0))) : (w.setCell ⟨g, j, none⟩ u).heap[g]? = some (.cells (cur.setIfInBounds j u) T (0, 0)) := heap_setCell_same w g j cur T u h

/-- A contract of a step that gives back nothing. -/
def Step0 (base : Nat) (w : World) (g : Nat) (v : Value) (s' : Rs) (r : Ending) (w' : World) : Prop := r = .returned (.tuple #[]) ∧ Turned base w 78 Rs.cells g v s' w'

set_option maxHeartbeats 400000 in
set_option maxRecDepth 100000 in
theorem failAt_yes (base g : Nat) (v : Value) (s : Rs) (e : Int) (q : Nat) (w : World) (h : Rdr base w 78 Rs.cells g v s) (h0 : s.err = 0) (he : e ≠ 0) (ok : (s.failAt e q).Ok) :
    Calls Try.prog 77 #[.pointer (some ⟨g, 0, none⟩), .int .i64 e, .int .i64 (q : Int)] w (Step0 base w g v (s.failAt e q)) := by
  obtain ⟨c0, c1, c2, c3, c4, f1, f2, f3, f4⟩ := h.pf
  obtain ⟨A, c, rfl, _⟩ := own_shape h.own
  have hlt := h.lt
  rw [h0] at c2
  have HH := Lib.hid h
  clear h
  go_enter Try.func77, Try.ntmps77
  go_wp2
  go_end0
  refine ⟨rfl, HH.out.write (s' := s.failAt e q) ?_ ?_ (s.failAt_bs e q) ok⟩
  · rw [Rs.failAt_yes q h0 he]
    have hb : (e != 0) = true := by simpa using he
    have := set1 (j := 1) (u := .int .i64 (s.bs.length : Int)) (set1 (j := 4) (u := .int .i64 (q : Int)) (set1 (j := 3) (u := .int .i64 e) (set1 (j := 2) (u := .bool true) HH.out.cell)))
    simpa [Rs.cells, hb] using this
  · exact (((kept1_set _ _ _ _).trans (kept1_set _ _ _ _) (fun q h => .inl h)).trans (kept1_set _ _ _ _) (fun q h => .inl h)).trans (kept1_set _ _ _ _) (fun q h => .inl h)
set_option maxRecDepth 100000 in
theorem failAt_bad (base g : Nat) (v : Value) (s : Rs) (e : Int) (q : Nat) (w : World) (h : Rdr base w 78 Rs.cells g v s) (h0 : s.err ≠ 0) :
    Calls Try.prog 77 #[.pointer (some ⟨g, 0, none⟩), .int .i64 e, .int .i64 (q : Int)] w (Step0 base w g v (s.failAt e q)) := by
  obtain ⟨c0, c1, c2, c3, c4, f1, f2, f3, f4⟩ := h.pf
  have hlt := h.lt
  have hb : (s.err != 0) = true := by simpa using h0
  rw [hb] at c2
  have HH := Lib.hid h
  clear h
  go_enter Try.func77, Try.ntmps77
  go_wp2
  go_end0
  rw [Rs.failAt_bad q h0]
  exact ⟨rfl, HH.out.turned⟩
set_option maxRecDepth 100000 in
theorem failAt_ok (base g : Nat) (v : Value) (s : Rs) (q : Nat) (w : World) (h : Rdr base w 78 Rs.cells g v s) (h0 : s.err = 0) :
    Calls Try.prog 77 #[.pointer (some ⟨g, 0, none⟩), .int .i64 0, .int .i64 (q : Int)] w (Step0 base w g v (s.failAt 0 q)) := by
  obtain ⟨c0, c1, c2, c3, c4, f1, f2, f3, f4⟩ := h.pf
  have hlt := h.lt
  rw [h0] at c2
  have HH := Lib.hid h
  clear h
  go_enter Try.func77, Try.ntmps77
  go_wp2
  go_end0
  rw [Rs.failAt_ok q]
  exact ⟨rfl, HH.out.turned⟩
theorem failAt_is (base g : Nat) (v : Value) (s : Rs) (e : Int) (q : Nat) (w : World) (h : Rdr base w 78 Rs.cells g v s) (he : -9223372036854775808 ≤ e ∧ e ≤ 9223372036854775807) (hq : q ≤ s.bs.length) :
    Calls Try.prog 77 #[.pointer (some ⟨g, 0, none⟩), .int .i64 e, .int .i64 (q : Int)] w (Step0 base w g v (s.failAt e q)) := by
  by_cases h0 : s.err = 0
  · by_cases h1 : e = 0
    · subst h1; exact failAt_ok base g v s q w h h0
    · exact failAt_yes base g v s e q w h h0 h1 (h.ok.failAt he hq)
  · exact failAt_bad base g v s e q w h h0
set_option maxRecDepth 100000 in
theorem failAt_none (e q : Int) (w : World) :
    Calls Try.prog 77 #[.pointer none, .int .i64 e, .int .i64 q] w fun r w' => r = .returned (.tuple #[]) ∧ w = w' := by
  go_enter Try.func77, Try.ntmps77
  go_wp2
  refine bodyPost_ret (results_none rfl _ _ _) rfl ?_
  exact ⟨rfl, rfl⟩

set_option maxRecDepth 100000 in
theorem place_is (base g : Nat) (v : Value) (s : Rs) (w : World) (h : Rdr base w 78 Rs.cells g v s) :
    Calls Try.prog 78 #[.pointer (some ⟨g, 0, none⟩)] w fun r w' => r = .returned (.int .i64 (s.p : Int)) ∧ w = w' := by
  obtain ⟨c0, c1, c2, c3, c4, f1, f2, f3, f4⟩ := h.pf
  have hlt := h.lt
  clear h
  go_enter Try.func78, Try.ntmps78
  go_wp2
  go_ret
  exact ⟨rfl, rfl⟩
theorem place_none (w : World) :
    Calls Try.prog 78 #[.pointer none] w fun r w' => r = .returned (.int .i64 0) ∧ w = w' := by
  go_enter Try.func78, Try.ntmps78
  go_wp2
  go_ret
  exact ⟨rfl, rfl⟩

set_option maxRecDepth 100000 in
theorem fail_is (base g : Nat) (v : Value) (s : Rs) (e : Int) (w : World) (h : Rdr base w 78 Rs.cells g v s) (he : -9223372036854775808 ≤ e ∧ e ≤ 9223372036854775807) :
    Calls Try.prog 75 #[.pointer (some ⟨g, 0, none⟩), .int .i64 e] w (Step0 base w g v (s.fail e)) := by
  have P1 := Lib.hid (place_is base g v s w h)
  have P2 := Lib.hid (failAt_is base g v s e s.p w h he h.ok.le)
  unfold Step0 at P2 ⊢
  unfold Rs.fail
  clear h
  go_enter Try.func75, Try.ntmps75
  go_wp2_with (first
    | (go_at_call 78; refine P1.out.mono ?_; rintro r w' ⟨rfl, rfl⟩)
    | (go_at_call 77; refine P2.out.mono ?_; rintro r w' ⟨rfl, ht⟩))
  go_end0
  exact ⟨rfl, ht⟩
set_option maxRecDepth 100000 in
theorem fail_none (e : Int) (w : World) :
    Calls Try.prog 75 #[.pointer none, .int .i64 e] w fun r w' => r = .returned (.tuple #[]) ∧ w = w' := by
  go_enter Try.func75, Try.ntmps75
  go_wp2_with (first
    | (go_at_call 78; refine (place_none _).mono ?_; rintro r w' ⟨rfl, rfl⟩)
    | (go_at_call 77; refine (failAt_none _ _ _).mono ?_; rintro r w' ⟨rfl, rfl⟩))
  go_end0
  exact ⟨rfl, rfl⟩

set_option maxRecDepth 100000 in
theorem rest_is (base g : Nat) (v : Value) (s : Rs) (w : World) (h : Rdr base w 78 Rs.cells g v s) :
    Calls Try.prog 62 #[.pointer (some ⟨g, 0, none⟩)] w fun r w' => r = .returned (.int .i64 (s.rest : Int)) ∧ ∃ m, w' = w.drewN m := by
  obtain ⟨c0, c1, c2, c3, c4, f1, f2, f3, f4⟩ := h.pf
  obtain ⟨A, c, rfl, _⟩ := own_shape h.own
  have hlt := h.lt
  have hle := h.ok.le
  have hsz := h.ok.sz
  have HR := Lib.hid (show ((s.rest : Nat) : Int) = (s.bs.length : Int) - (s.p : Int) by unfold Rs.rest; omega)
  clear h
  go_enter Try.func62, Try.ntmps62
  go_wp2
  go_quiet (fail)
  go_wp2
  go_ret
  exact ⟨ret_i HR.out.symm, _, rfl⟩
theorem rest_none (w : World) :
    Calls Try.prog 62 #[.pointer none] w fun r w' => r = .returned (.int .i64 0) ∧ w = w' := by
  go_enter Try.func62, Try.ntmps62
  go_wp2
  go_ret
  exact ⟨rfl, rfl⟩
end Go.Proofs.Ytmdpncjffikmiaa
