/- Readers: take. -/
import Derived.Test.YtmdpncjffikmiaaRdr
namespace Go.Proofs.Ytmdpncjffikmiaa
open Go Go.RowKit
set_option linter.unusedVariables false
set_option linter.unusedSimpArgs false

theorem Kept1.drew {a b : World} {g : Nat} (h : Kept1 a b g) (n : Nat) : Kept1 a (b.drewN n) g := ⟨h.os, h.tape, h.output, h.size, h.block⟩
theorem KeptS.pre {a b : World} {S : Nat → Prop} {n : Nat} (h : KeptS (a.drewN n) b S) (m : Nat) (e : m = n := by rfl) : KeptS a b S := ⟨h.os, h.tape, h.output, h.size, h.block⟩
theorem Turned.drew {base : Nat} {W W' : World} {T : TypeId} {cf : Rs → Value → Array Value} {g : Nat} {v : Value} {s : Rs} (h : Turned base W T cf g v s W') (n : Nat) : Turned base W T cf g v s (W'.drewN n) := h.below (below_drewN (Below.refl _ _) n)
theorem Rdr.drew {base : Nat} {W : World} {T : TypeId} {cf : Rs → Value → Array Value} {g : Nat} {v : Value} {s : Rs} (h : Rdr base W T cf g v s) (n : Nat) : Rdr base (W.drewN n) T cf g v s := h.below (below_drewN (Below.refl _ _) n)

/-- What is gone on by. -/
theorem Rdr.moved {base : Nat} {W : World} {g : Nat} {v : Value} {s : Rs} (h : Rdr base W 78 Rs.cells g v s) (h0 : s.err = 0) {k : Nat} (hk : s.p + k ≤ s.bs.length) {x : Int} (hx : x = (s.p : Int) + (k : Int)) :
    Turned base W 78 Rs.cells g v (s.go k) (W.setCell ⟨g, 1, none⟩ (.int .i64 x)) := by
  refine h.write (s' := s.go k) ?_ (kept1_set _ _ _ _) rfl (h.ok.go h0 hk)
  have := set1 (j := 1) (u := .int .i64 x) h.cell
  have e : ((s.p + k : Nat) : Int) = x := by omega
  simpa [Rs.cells, Rs.go, e] using this

/-- A part of a row that is read. -/
theorem rd_part {w : World} {q p k : Nat} {A : Option Addr} {bs : List Nat} (h : Rd w A (b8 bs)) (hA : A = some ⟨q, 0, none⟩) : Rd w (some ⟨q, p, none⟩) (b8 ((bs.drop p).take k)) := by
  intro hne
  have hb : b8 bs ≠ [] := by
    rintro e
    have : bs = [] := by simpa [b8] using e
    subst this
    simp [b8] at hne
  obtain ⟨g, off, e, hg, hc⟩ := h hb
  rw [hA] at e
  injection e with e
  injection e with e1 e2 e3
  subst e1 e2
  refine ⟨q, p, rfl, hg, fun j u hu => ?_⟩
  have hj : j < k := by
    have := (List.getElem?_eq_some_iff.1 hu).1
    simp [b8] at this
    omega
  have hu2 : (b8 bs)[p + j]? = some u := by
    rw [b8_get] at hu ⊢
    rw [List.getElem?_take, if_pos hj, List.getElem?_drop] at hu
    exact hu
  have := hc _ _ hu2
  simpa using this

/-- What take gives. -/
def Took (base : Nat) (w : World) (g : Nat) (v : Value) (bs : List Nat) (s' : Rs) (r : Ending) (w' : World) : Prop :=
  ∃ A c, r = .returned (.slice A bs.length c) ∧ bs.length ≤ c ∧ Rd w' A (b8 bs) ∧ Turned base w 78 Rs.cells g v s' w'

set_option maxHeartbeats 400000 in
set_option maxRecDepth 100000 in
theorem take_yes (base g : Nat) (v : Value) (s : Rs) (k : Nat) (w : World) (h : Rdr base w 78 Rs.cells g v s) (h0 : s.err = 0) (hk : k ≤ s.rest) :
    Calls Try.prog 76 #[.pointer (some ⟨g, 0, none⟩), .int .i64 (k : Int)] w (Took base w g v ((s.bs.drop s.p).take k) (s.go k)) := by
  obtain ⟨c0, c1, c2, c3, c4, f1, f2, f3, f4⟩ := h.pf
  obtain ⟨A, c, rfl, hc, _, _⟩ := own_shape h.own
  have P1 := Lib.hid (rest_is base g _ s w h)
  have hlt := h.lt
  have hle := h.ok.le
  have hsz := h.ok.sz
  rw [h0] at c2
  have HH := Lib.hid h
  have hpk : s.p + k ≤ s.bs.length := by unfold Rs.rest at hk; omega
  have hlen : ((s.bs.drop s.p).take k).length = k := by simp; omega
  have HL := Lib.hid hlen
  obtain ⟨p, hp⟩ : ∃ p, p = s.p := ⟨_, rfl⟩
  obtain ⟨n, hn⟩ : ∃ n, n = s.bs.length := ⟨_, rfl⟩
  obtain ⟨rt, hrt⟩ : ∃ rt, rt = s.rest := ⟨_, rfl⟩
  have HP := Lib.hid hp
  have HN := Lib.hid hn
  rw [← hp] at c1 hpk hle
  rw [← hn] at c0 hc hle hsz hpk
  rw [← hrt] at P1 hk
  clear h hlen hp hrt hn
  rcases A with _ | ⟨q, qo, qs⟩
  · have hn0 : n = 0 ∧ c = 0 := by
      rcases HH.out.own.2 with ⟨h1, h⟩ | ⟨_, _, _, h, _⟩
      · exact ⟨by rw [HN.out]; exact h, by injection h1⟩
      · cases h
    obtain ⟨hn0, hc0⟩ := hn0
    subst hc0
    have hp0 : p = 0 := by omega
    have hk0 : k = 0 := by omega
    subst hn0 hp0 hk0
    go_enter Try.func76, Try.ntmps76
    go_wp2_with (go_at_call 62; refine P1.out.mono ?_; rintro r w1 ⟨rfl, m, rfl⟩)
    go_quiet (fail)
    go_wp2
    go_ret
    have e0 : (s.bs.drop s.p).take 0 = [] := by simp
    rw [e0]
    exact ⟨none, 0, rfl, Nat.le_refl _, Rd.nil_ _ _, Turned.drew (⟨((HH.out.drew m).moved h0 (k := 0) (x := 0) (by rw [← HP.out]; omega) (by rw [← HP.out]; rfl)).rd, KeptS.pre ((HH.out.drew m).moved h0 (k := 0) (x := 0) (by rw [← HP.out]; omega) (by rw [← HP.out]; rfl)).kept m⟩ : Turned base w _ _ g _ (s.go 0) _) _⟩
  · obtain ⟨g', hA, _⟩ : ∃ g', (some ⟨q, qo, qs⟩ : Option Addr) = some ⟨g', 0, none⟩ ∧ True := by
      rcases HH.out.own.2 with ⟨h, _⟩ | ⟨g', _, _, h, _⟩
      · cases h
      · injection h with h; exact ⟨g', h, trivial⟩
    injection hA with hA
    injection hA with e1 e2 e3
    subst e1 e2 e3
    go_enter Try.func76, Try.ntmps76
    go_wp2_with (go_at_call 62; refine P1.out.mono ?_; rintro r w1 ⟨rfl, m, rfl⟩)
    go_quiet (fail)
    go_wp2
    all_goals go_ret
    all_goals have HT := Lib.hid (fun nq => Turned.drew (⟨((HH.out.drew m).moved h0 (k := k) (x := (p : Int) + (k : Int)) (by rw [← HP.out, ← HN.out]; omega) (by rw [← HP.out])).rd, ((HH.out.drew m).moved h0 (k := k) (x := (p : Int) + (k : Int)) (by rw [← HP.out, ← HN.out]; omega) (by rw [← HP.out])).kept.pre m⟩ : Turned base w _ _ g _ (s.go k) _) nq)
    · have hk0 : k = 0 := by omega
      have hcp : c = p := by omega
      subst hk0 hcp
      have e0 : (s.bs.drop s.p).take 0 = [] := by simp
      rw [e0]
      exact ⟨_, _, rfl, Nat.le_refl _, Rd.nil_ _ _, HT.out _⟩
    · refine ⟨_, _, by rw [HL.out]; rfl, ?_, ?_, HT.out _⟩
      · rw [HL.out]; omega
      · have hr := rd_part (p := p) (k := k) (rd_own (HT.out 0).rd.own) rfl
        rw [HP.out] at hr ⊢
        exact hr.below (below_drewN (Below.refl _ _) _)

set_option maxRecDepth 100000 in
theorem take_bad (base g : Nat) (v : Value) (s : Rs) (n : Int) (w : World) (h : Rdr base w 78 Rs.cells g v s) (h0 : s.err ≠ 0) :
    Calls Try.prog 76 #[.pointer (some ⟨g, 0, none⟩), .int .i64 n] w (Took base w g v [] s) := by
  obtain ⟨c0, c1, c2, c3, c4, f1, f2, f3, f4⟩ := h.pf
  have hlt := h.lt
  have hb : (s.err != 0) = true := by simpa using h0
  rw [hb] at c2
  have HH := Lib.hid h
  clear h
  go_enter Try.func76, Try.ntmps76
  go_wp2
  go_ret
  exact ⟨none, 0, rfl, Nat.le_refl _, Rd.nil_ _ _, HH.out.turned⟩
set_option maxRecDepth 100000 in
theorem take_neg (base g : Nat) (v : Value) (s : Rs) (n : Int) (w : World) (h : Rdr base w 78 Rs.cells g v s) (h0 : s.err = 0) (hn : n < 0) :
    Calls Try.prog 76 #[.pointer (some ⟨g, 0, none⟩), .int .i64 n] w (Took base w g v [] (s.fail 14)) := by
  obtain ⟨c0, c1, c2, c3, c4, f1, f2, f3, f4⟩ := h.pf
  have hlt := h.lt
  rw [h0] at c2
  have P1 := Lib.hid (fail_is base g v s 14 w h (by omega))
  unfold Step0 at P1
  clear h
  go_enter Try.func76, Try.ntmps76
  go_wp2_with (go_at_call 75; refine P1.out.mono ?_; rintro r w' ⟨rfl, ht⟩; have HT := Lib.hid ht; clear ht)
  go_ret
  exact ⟨none, 0, rfl, Nat.le_refl _, Rd.nil_ _ _, HT.out⟩
theorem Turned.of_drew {base : Nat} {W W' : World} {T : TypeId} {cf : Rs → Value → Array Value} {g : Nat} {v : Value} {s : Rs} {m : Nat} (h : Turned base (W.drewN m) T cf g v s W') : Turned base W T cf g v s W' := ⟨h.rd, h.kept.pre m⟩
set_option maxRecDepth 100000 in
theorem take_short (base g : Nat) (v : Value) (s : Rs) (n : Int) (w : World) (h : Rdr base w 78 Rs.cells g v s) (h0 : s.err = 0) (hn : 0 ≤ n) (hr : (s.rest : Int) < n) :
    Calls Try.prog 76 #[.pointer (some ⟨g, 0, none⟩), .int .i64 n] w (Took base w g v [] (s.fail 10)) := by
  obtain ⟨c0, c1, c2, c3, c4, f1, f2, f3, f4⟩ := h.pf
  have hlt := h.lt
  rw [h0] at c2
  have P1 := Lib.hid (rest_is base g v s w h)
  have P2 := Lib.hid (fun m => fail_is base g v s 10 (w.drewN m) (h.drew m) (by omega))
  unfold Step0 at P2
  obtain ⟨rt, hrt⟩ : ∃ rt, rt = s.rest := ⟨_, rfl⟩
  rw [← hrt] at P1 hr
  clear h hrt
  go_enter Try.func76, Try.ntmps76
  go_wp2_with (first
    | (go_at_call 62; refine P1.out.mono ?_; rintro r w' ⟨rfl, m, rfl⟩)
    | (go_at_call 75; refine (P2.out m).mono ?_; rintro r w' ⟨rfl, ht⟩; have HT := Lib.hid ht; clear ht))
  go_ret
  exact ⟨none, 0, rfl, Nat.le_refl _, Rd.nil_ _ _, HT.out.of_drew⟩
theorem take_is (base g : Nat) (v : Value) (s : Rs) (n : Int) (w : World) (h : Rdr base w 78 Rs.cells g v s) :
    Calls Try.prog 76 #[.pointer (some ⟨g, 0, none⟩), .int .i64 n] w (Took base w g v (s.take n).1 (s.take n).2) := by
  unfold Rs.take
  by_cases h0 : s.err ≠ 0
  · rw [if_pos h0]; exact take_bad base g v s n w h h0
  rw [if_neg h0]
  have h0' : s.err = 0 := by simpa using h0
  by_cases h1 : n < 0
  · rw [if_pos h1]; exact take_neg base g v s n w h h0' h1
  rw [if_neg h1]
  by_cases h2 : (s.rest : Int) < n
  · rw [if_pos h2]; exact take_short base g v s n w h h0' (by omega) h2
  rw [if_neg h2]
  obtain ⟨k, rfl⟩ : ∃ k : Nat, n = (k : Int) := ⟨n.toNat, by omega⟩
  exact take_yes base g v s k w h h0' (by omega)
set_option maxRecDepth 100000 in
theorem take_none (n : Int) (w : World) :
    Calls Try.prog 76 #[.pointer none, .int .i64 n] w fun r w' => r = .returned (.slice none 0 0) ∧ w = w' := by
  go_enter Try.func76, Try.ntmps76
  go_wp2
  go_ret
  exact ⟨rfl, rfl⟩
theorem Rs.take_len (s : Rs) (h : s.Ok) (n : Int) : (s.take n).1.length ≤ 140737488351232 := by
  have := h.sz
  unfold Rs.take
  split
  · simp
  split
  · simp
  split
  · simp
  · simp only [List.length_take, List.length_drop]; omega

theorem own_lower {w : World} {base base' : Nat} {e : TypeId} {size : Nat} {v : Value} {n : Nat} {xs : List Value} (h : w.ownsRow base e size v n xs) (hb : base' ≤ base) : w.ownsRow base' e size v n xs := by
  refine ⟨h.1, ?_⟩
  rcases h.2 with h | ⟨g, cap, cur, a, b, c⟩
  · exact .inl h
  · exact .inr ⟨g, cap, cur, a, Nat.le_trans hb b, c⟩
/-- What Raw gives. -/
def Rawed (base : Nat) (w : World) (T : TypeId) (cf : Rs → Value → Array Value) (g : Nat) (v : Value) (bs : List Nat) (s' : Rs) (r : Ending) (w' : World) : Prop :=
  ∃ A c, r = .returned (.slice A bs.length c) ∧ w'.ownsRow w.heap.size 5 1 (.slice A bs.length c) bs.length (b8 bs) ∧ Turned base w T cf g v s' w'

set_option maxRecDepth 100000 in
theorem raw_r (base g : Nat) (v : Value) (s : Rs) (n : Int) (w : World) (h : Rdr base w 78 Rs.cells g v s) :
    Calls Try.prog 63 #[.pointer (some ⟨g, 0, none⟩), .int .i64 n] w (Rawed base w 78 Rs.cells g v (s.take n).1 (s.take n).2) := by
  have P1 := Lib.hid (take_is base g v s n w h)
  unfold Took at P1
  have hl := s.take_len h.ok n
  obtain ⟨q, hq⟩ : ∃ q, q = s.take n := ⟨_, rfl⟩
  rw [← hq] at P1 hl ⊢
  clear h hq
  go_enter Try.func63, Try.ntmps63
  go_wp2_with (first
    | (go_at_call 76; refine P1.out.mono ?_; rintro r w1 ⟨A1, c1, rfl, _, hr1, ht1⟩; have HR := Lib.hid hr1; have HT := Lib.hid ht1; clear hr1 ht1)
    | (at_builtin; (refine app8 w1 rfl (.const (.slice none 0 0)) (.tmp 7) rfl w1.heap.size (.slice none 0 0) 0 [] rfl (World.ownsRow_nil _ _ _ _) A1 _ c1 q.1 rfl rfl HR.out (by omega) (Nat.le_refl _) ?_); intro v' w2 ho hg hn; obtain ⟨A9, c9, rfl, _⟩ := own_shape ho; have HO := Lib.hid ho; have HG := Lib.hid hg; clear ho hg hn))
  go_ret
  rw [Nat.zero_add] at HO
  refine ⟨A9, c9, rfl, own_lower HO.out HT.out.kept.size, HT.out.below (below_of_grown HG.out (Nat.le_refl _) (fun k hk => by cases hk))⟩
set_option maxRecDepth 100000 in
theorem raw_rnone (n : Int) (w : World) :
    Calls Try.prog 63 #[.pointer none, .int .i64 n] w fun r w' => ∃ A c, r = .returned (.slice A 0 c) ∧ w'.ownsRow w.heap.size 5 1 (.slice A 0 c) 0 (b8 []) ∧ Below w.heap.size w w' := by
  go_enter Try.func63, Try.ntmps63
  go_wp2_with (first
    | (go_at_call 76; refine (take_none _ _).mono ?_; rintro r w1 ⟨rfl, rfl⟩)
    | (at_builtin; (refine app8 w rfl (.const (.slice none 0 0)) (.tmp 7) rfl w.heap.size (.slice none 0 0) 0 [] rfl (World.ownsRow_nil _ _ _ _) none 0 0 [] rfl rfl (Rd.nil_ _ _) (by omega) (Nat.le_refl _) ?_); intro v' w2 ho hg hn; obtain ⟨A9, c9, rfl, _⟩ := own_shape ho; have HO := Lib.hid ho; have HG := Lib.hid hg; clear ho hg hn))
  go_ret
  exact ⟨A9, c9, rfl, HO.out, below_of_grown HG.out (Nat.le_refl _) (fun k hk => by cases hk)⟩
end Go.Proofs.Ytmdpncjffikmiaa
