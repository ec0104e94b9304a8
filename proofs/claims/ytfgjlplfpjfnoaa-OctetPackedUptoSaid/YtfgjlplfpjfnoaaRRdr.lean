/- The document's readers in memory. -/
import Derived.Test.YtfgjlplfpjfnoaaRdr5
import Derived.Test.YtfgjlplfpjfnoaaAppStep
namespace Go.Proofs.Ytfgjlplfpjfnoaa
open Go Go.RowKit
set_option linter.unusedVariables false
set_option linter.unusedSimpArgs false
set_option linter.unusedSectionVars false

/-- Its cells. -/
structure RF (W : World) (g : Nat) (v : Value) (p : Int) (e : Int) (q : Int) : Prop where
  c0 : W.cell? ⟨g, 0, none⟩ = some v
  c1 : W.cell? ⟨g, 1, none⟩ = some (.int .i64 p)
  c2 : W.cell? ⟨g, 2, none⟩ = some (.int .i64 e)
  c3 : W.cell? ⟨g, 3, none⟩ = some (.int .i64 q)
  f1 : W.frozen? ⟨g, 1, none⟩ = false
  f2 : W.frozen? ⟨g, 2, none⟩ = false
  f3 : W.frozen? ⟨g, 3, none⟩ = false
theorem Rdr.rf {base : Nat} {W : World} {T : TypeId} {g : Nat} {v : Value} {s : Rs} (h : Rdr base W T Rs.rcells g v s) : RF W g v s.p s.err s.ea := by
  have hc := h.cell
  unfold Rs.rcells at hc
  constructor <;> first | (rw [cell_of_row W g _ _ _ _ hc]; rfl) | simp [World.frozen?, hc]

def RStep0 (base : Nat) (w : World) (g : Nat) (v : Value) (s' : Rs) (r : Ending) (w' : World) : Prop := r = .returned (.tuple #[]) ∧ Turned base w 113 Rs.rcells g v s' w'

set_option maxHeartbeats 400000 in
set_option maxRecDepth 100000 in
theorem rfail_yes (base g : Nat) (v : Value) (s : Rs) (e : Int) (w : World) (h : Rdr base w 113 Rs.rcells g v s) (h0 : s.err = 0) (he : e ≠ 0) (ok : (s.fail e).Ok) :
    Calls Try.prog 104 #[.pointer (some ⟨g, 0, none⟩), .int .i64 e] w (RStep0 base w g v (s.fail e)) := by
  obtain ⟨c0, c1, c2, c3, f1, f2, f3⟩ := h.rf
  obtain ⟨A, c, rfl, _⟩ := own_shape h.own
  have hlt := h.lt
  rw [h0] at c2
  have hb : (e != 0) = true := by simpa using he
  have HH := Lib.hid h
  clear h
  go_enter Try.func104, Try.ntmps104
  go_wp2
  go_end0
  refine ⟨rfl, HH.out.write (s' := s.fail e) ?_ ?_ (s.fail_bs e) ok⟩
  · rw [Rs.fail, Rs.failAt_yes s.p h0 he]
    have := set1 (j := 1) (u := .int .i64 (s.bs.length : Int)) (set1 (j := 3) (u := .int .i64 (s.p : Int)) (set1 (j := 2) (u := .int .i64 e) HH.out.cell))
    simpa [Rs.rcells] using this
  · exact ((kept1_set _ _ _ _).trans (kept1_set _ _ _ _) (fun q h => .inl h)).trans (kept1_set _ _ _ _) (fun q h => .inl h)
set_option maxRecDepth 100000 in
theorem rfail_bad (base g : Nat) (v : Value) (s : Rs) (e : Int) (w : World) (h : Rdr base w 113 Rs.rcells g v s) (h0 : s.err ≠ 0) :
    Calls Try.prog 104 #[.pointer (some ⟨g, 0, none⟩), .int .i64 e] w (RStep0 base w g v (s.fail e)) := by
  obtain ⟨c0, c1, c2, c3, f1, f2, f3⟩ := h.rf
  have hlt := h.lt
  have hb : (s.err == 0) = false := by simpa using h0
  have HH := Lib.hid h
  clear h
  go_enter Try.func104, Try.ntmps104
  go_wp2
  go_end0
  rw [Rs.fail, Rs.failAt_bad s.p h0]
  exact ⟨rfl, HH.out.turned⟩
set_option maxRecDepth 100000 in
theorem rfail_ok (base g : Nat) (v : Value) (s : Rs) (w : World) (h : Rdr base w 113 Rs.rcells g v s) (h0 : s.err = 0) :
    Calls Try.prog 104 #[.pointer (some ⟨g, 0, none⟩), .int .i64 0] w (RStep0 base w g v (s.fail 0)) := by
  obtain ⟨c0, c1, c2, c3, f1, f2, f3⟩ := h.rf
  have hlt := h.lt
  rw [h0] at c2
  have HH := Lib.hid h
  clear h
  go_enter Try.func104, Try.ntmps104
  go_wp2
  go_end0
  rw [Rs.fail, Rs.failAt_ok s.p]
  exact ⟨rfl, HH.out.turned⟩
theorem rfail_is (base g : Nat) (v : Value) (s : Rs) (e : Int) (w : World) (h : Rdr base w 113 Rs.rcells g v s) (he : -9223372036854775808 ≤ e ∧ e ≤ 9223372036854775807) :
    Calls Try.prog 104 #[.pointer (some ⟨g, 0, none⟩), .int .i64 e] w (RStep0 base w g v (s.fail e)) := by
  by_cases h0 : s.err = 0
  · by_cases h1 : e = 0
    · subst h1; exact rfail_ok base g v s w h h0
    · exact rfail_yes base g v s e w h h0 h1 (h.ok.fail he)
  · exact rfail_bad base g v s e w h h0
set_option maxRecDepth 100000 in
theorem rfail_none (e : Int) (w : World) :
    Calls Try.prog 104 #[.pointer none, .int .i64 e] w fun r w' => r = .returned (.tuple #[]) ∧ w = w' := by
  go_enter Try.func104, Try.ntmps104
  go_wp2
  go_end0
  exact ⟨rfl, rfl⟩

set_option maxRecDepth 100000 in
theorem rrest_is (base g : Nat) (v : Value) (s : Rs) (w : World) (h : Rdr base w 113 Rs.rcells g v s) :
    Calls Try.prog 57 #[.pointer (some ⟨g, 0, none⟩)] w fun r w' => r = .returned (.int .i64 (s.rest : Int)) ∧ ∃ m, w' = w.drewN m := by
  obtain ⟨c0, c1, c2, c3, f1, f2, f3⟩ := h.rf
  obtain ⟨A, c, rfl, _⟩ := own_shape h.own
  have hlt := h.lt
  have hle := h.ok.le
  have hsz := h.ok.sz
  have HR := Lib.hid (show ((s.rest : Nat) : Int) = (s.bs.length : Int) - (s.p : Int) by unfold Rs.rest; omega)
  clear h
  go_enter Try.func57, Try.ntmps57
  go_wp2
  go_quiet (fail)
  go_wp2
  go_ret
  exact ⟨ret_i HR.out.symm, _, rfl⟩
theorem rrest_none (w : World) :
    Calls Try.prog 57 #[.pointer none] w fun r w' => r = .returned (.int .i64 0) ∧ w = w' := by
  go_enter Try.func57, Try.ntmps57
  go_wp2
  go_ret
  exact ⟨rfl, rfl⟩

set_option maxRecDepth 100000 in
theorem rraw_neg (base g : Nat) (v : Value) (s : Rs) (n : Int) (w : World) (h : Rdr base w 113 Rs.rcells g v s) (hn : n < 0) :
    Calls Try.prog 102 #[.pointer (some ⟨g, 0, none⟩), .int .i64 n] w (Rawed base w 113 Rs.rcells g v [] (s.fail 14)) := by
  have P1 := Lib.hid (rfail_is base g v s 14 w h (by omega))
  unfold RStep0 at P1
  clear h
  go_enter Try.func102, Try.ntmps102
  go_wp2_with (go_at_call 104; refine P1.out.mono ?_; rintro r w' ⟨rfl, ht⟩; have HT := Lib.hid ht; clear ht)
  go_ret
  exact ⟨none, 0, rfl, World.ownsRow_nil _ _ _ _, HT.out⟩
set_option maxRecDepth 100000 in
theorem rraw_bad (base g : Nat) (v : Value) (s : Rs) (n : Int) (w : World) (h : Rdr base w 113 Rs.rcells g v s) (h0 : s.err ≠ 0) (hn : 0 ≤ n) :
    Calls Try.prog 102 #[.pointer (some ⟨g, 0, none⟩), .int .i64 n] w (Rawed base w 113 Rs.rcells g v [] s) := by
  obtain ⟨c0, c1, c2, c3, f1, f2, f3⟩ := h.rf
  have hlt := h.lt
  have hb : (s.err != 0) = true := by simpa using h0
  have HH := Lib.hid h
  clear h
  go_enter Try.func102, Try.ntmps102
  go_wp2
  go_ret
  exact ⟨none, 0, rfl, World.ownsRow_nil _ _ _ _, HH.out.turned⟩
set_option maxHeartbeats 400000 in
set_option maxRecDepth 100000 in
theorem rraw_short (base g : Nat) (v : Value) (s : Rs) (n : Int) (w : World) (h : Rdr base w 113 Rs.rcells g v s) (h0 : s.err = 0) (hn : 0 ≤ n) (hr : (s.rest : Int) < n) :
    Calls Try.prog 102 #[.pointer (some ⟨g, 0, none⟩), .int .i64 n] w (Rawed base w 113 Rs.rcells g v [] (s.fail 10)) := by
  obtain ⟨c0, c1, c2, c3, f1, f2, f3⟩ := h.rf
  obtain ⟨A, c, rfl, _⟩ := own_shape h.own
  have hlt := h.lt
  have hle := h.ok.le
  have hsz := h.ok.sz
  rw [h0] at c2
  have P2 := Lib.hid (fun m => rfail_is base g _ s 10 (w.drewN m) (h.drew m) (by omega))
  unfold RStep0 at P2
  have hr' : (s.bs.length : Int) - (s.p : Int) < n := by unfold Rs.rest at hr; omega
  clear h hr
  go_enter Try.func102, Try.ntmps102
  go_wp2
  go_quiet (fail)
  go_wp2_with (go_at_call 104; refine (P2.out nq).mono ?_; rintro r w' ⟨rfl, ht⟩; have HT := Lib.hid ht; clear ht)
  go_ret
  exact ⟨none, 0, rfl, World.ownsRow_nil _ _ _ _, HT.out.of_drew⟩
set_option maxRecDepth 100000 in
theorem rraw_rnone (n : Int) (w : World) :
    Calls Try.prog 102 #[.pointer none, .int .i64 n] w fun r w' => r = .returned (.slice none 0 0) ∧ w = w' := by
  by_cases hn : n < 0
  · go_enter Try.func102, Try.ntmps102
    go_wp2_with (go_at_call 104; refine (rfail_none _ _).mono ?_; rintro r w' ⟨rfl, rfl⟩)
    go_ret
    exact ⟨rfl, rfl⟩
  · go_enter Try.func102, Try.ntmps102
    go_wp2
    go_ret
    exact ⟨rfl, rfl⟩
end Go.Proofs.Ytfgjlplfpjfnoaa
