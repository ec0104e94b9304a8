/- Readers: Text, End, NewReader. -/
import Derived.Test.YtmdpncjffikmiaaRdr4
import Derived.Test.YtmdpncjffikmiaaConv
namespace Go.Proofs.Ytmdpncjffikmiaa
open Go Go.RowKit
set_option linter.unusedVariables false
set_option linter.unusedSimpArgs false
set_option linter.unusedSectionVars false

theorem Rs.text_bad {s : Rs} (most : Int) (h : s.num.2.err ≠ 0) : s.text most = ([], s.num.2) := by
  unfold Rs.text
  by_cases h0 : s.err ≠ 0
  · rw [if_pos h0, Rs.num_bad h0]
  · rw [if_neg h0, if_pos h]
theorem Rs.text_long {s : Rs} (hs : s.Ok) (most : Int) (h : s.num.2.err = 0) (hm : max most 0 < (s.num.1 : Int)) : s.text most = ([], s.num.2.failAt 14 s.p) := by
  have h0 := Rs.num_ok hs h
  unfold Rs.text
  rw [if_neg (by simp [h0]), if_neg (by simp [h]), if_pos hm]
theorem Rs.text_short {s : Rs} (hs : s.Ok) (most : Int) (h : s.num.2.err = 0) (hm : (s.num.1 : Int) ≤ max most 0) (hr : s.num.2.rest < s.num.1) : s.text most = ([], s.num.2.failAt 10 s.p) := by
  have h0 := Rs.num_ok hs h
  unfold Rs.text
  rw [if_neg (by simp [h0]), if_neg (by simp [h]), if_neg (by omega), if_pos hr]
theorem Rs.text_yes {s : Rs} (hs : s.Ok) (most : Int) (h : s.num.2.err = 0) (hm : (s.num.1 : Int) ≤ max most 0) (hr : s.num.1 ≤ s.num.2.rest) : s.text most = ((s.bs.drop s.num.2.p).take s.num.1, s.num.2.go s.num.1) := by
  have h0 := Rs.num_ok hs h
  unfold Rs.text
  rw [if_neg (by simp [h0]), if_neg (by simp [h]), if_neg (by omega), if_neg (by omega)]

section
variable (base g : Nat) (v : Value) (s : Rs) (most : Int) (w : World) (h : Rdr base w 78 Rs.cells g v s) (hmost : -9223372036854775808 ≤ most ∧ most ≤ 9223372036854775807)
include h hmost

end
def Rs.fin (s : Rs) : Int × Nat := if s.err ≠ 0 then (s.err, s.ea) else if s.p < s.bs.length then (13, s.p) else (0, 0)
set_option maxRecDepth 100000 in
theorem end_r_bad (base g : Nat) (v : Value) (s : Rs) (w : World) (h : Rdr base w 78 Rs.cells g v s) (h0 : s.err ≠ 0) :
    Calls Try.prog 64 #[.pointer (some ⟨g, 0, none⟩)] w fun r w' => r = .returned (.agg #[.int .i64 s.err, .int .i64 (s.ea : Int)]) ∧ Below w.heap.size w w' := by
  obtain ⟨c0, c1, c2, c3, c4, f1, f2, f3, f4⟩ := h.pf
  have hlt := h.lt
  have hb : (s.err != 0) = true := by simpa using h0
  rw [hb] at c2
  clear h
  go_enter Try.func64, Try.ntmps64
  go_wp2
  refine bodyPost_ret (v := .agg #[.int .i64 s.err, .int .i64 (s.ea : Int)]) (by simp [results, Try.results64, go_sem, *]) rfl ⟨rfl, ?_⟩
  exact (Below.refl _ _).alloc (Nat.le_refl _) _
set_option maxRecDepth 100000 in
theorem end_r_left (base g : Nat) (v : Value) (s : Rs) (w : World) (h : Rdr base w 78 Rs.cells g v s) (h0 : s.err = 0) (hp : s.p < s.bs.length) :
    Calls Try.prog 64 #[.pointer (some ⟨g, 0, none⟩)] w fun r w' => r = .returned (.agg #[.int .i64 13, .int .i64 (s.p : Int)]) ∧ Below w.heap.size w w' := by
  obtain ⟨c0, c1, c2, c3, c4, f1, f2, f3, f4⟩ := h.pf
  obtain ⟨A, c, rfl, _⟩ := own_shape h.own
  have hlt := h.lt
  rw [h0] at c2
  obtain ⟨p, hpp⟩ : ∃ p, p = s.p := ⟨_, rfl⟩
  obtain ⟨n, hn⟩ : ∃ n, n = s.bs.length := ⟨_, rfl⟩
  rw [← hpp] at c1 hp ⊢
  rw [← hn] at c0 hp
  clear h hpp hn
  go_enter Try.func64, Try.ntmps64
  go_wp2
  go_quiet (fail)
  go_wp2
  refine bodyPost_ret (v := .agg #[.int .i64 13, .int .i64 (p : Int)]) (by simp [results, Try.results64, go_sem, *]) rfl ⟨rfl, ?_⟩
  exact ((below_drewN ((Below.refl _ _).alloc (Nat.le_refl _) _) nq).setCell (Nat.le_refl _) _).setCell (Nat.le_refl _) _
set_option maxRecDepth 100000 in
theorem end_r_ok (base g : Nat) (v : Value) (s : Rs) (w : World) (h : Rdr base w 78 Rs.cells g v s) (h0 : s.err = 0) (hp : s.p = s.bs.length) :
    Calls Try.prog 64 #[.pointer (some ⟨g, 0, none⟩)] w fun r w' => r = .returned (.agg #[.int .i64 0, .int .i64 0]) ∧ Below w.heap.size w w' := by
  obtain ⟨c0, c1, c2, c3, c4, f1, f2, f3, f4⟩ := h.pf
  obtain ⟨A, c, rfl, _⟩ := own_shape h.own
  have hlt := h.lt
  rw [h0] at c2
  obtain ⟨p, hpp⟩ : ∃ p, p = s.p := ⟨_, rfl⟩
  rw [← hp, ← hpp] at c0
  rw [← hpp] at c1
  clear h hpp hp
  go_enter Try.func64, Try.ntmps64
  go_wp2
  go_quiet (fail)
  go_wp2
  refine bodyPost_ret (v := .agg #[.int .i64 0, .int .i64 0]) (by simp [results, Try.results64, go_sem, *]) rfl ⟨rfl, ?_⟩
  exact ((below_drewN ((Below.refl _ _).alloc (Nat.le_refl _) _) nq).setCell (Nat.le_refl _) _).setCell (Nat.le_refl _) _
theorem end_r (base g : Nat) (v : Value) (s : Rs) (w : World) (h : Rdr base w 78 Rs.cells g v s) :
    Calls Try.prog 64 #[.pointer (some ⟨g, 0, none⟩)] w fun r w' => r = .returned (.agg #[.int .i64 s.fin.1, .int .i64 (s.fin.2 : Int)]) ∧ Below w.heap.size w w' := by
  unfold Rs.fin
  by_cases h0 : s.err = 0
  · have hle := h.ok.le
    by_cases hp : s.p < s.bs.length
    · simp only [h0, ne_eq, not_true_eq_false, if_false, hp, if_true]
      exact end_r_left base g v s w h h0 hp
    · simp only [h0, ne_eq, not_true_eq_false, if_false, hp]
      exact end_r_ok base g v s w h h0 (by omega)
  · simp only [h0, ne_eq, not_false_eq_true, if_true]
    exact end_r_bad base g v s w h h0
set_option maxRecDepth 100000 in
theorem end_rnone (w : World) :
    Calls Try.prog 64 #[.pointer none] w fun r w' => r = .returned (.agg #[.int .i64 0, .int .i64 0]) ∧ Below w.heap.size w w' := by
  go_enter Try.func64, Try.ntmps64
  go_wp2
  refine bodyPost_ret (v := .agg #[.int .i64 0, .int .i64 0]) (by simp [results, Try.results64, go_sem, *]) rfl ⟨rfl, ?_⟩
  exact (Below.refl _ _).alloc (Nat.le_refl _) _

/-- What is made anew. -/
def Newed (w : World) (T : TypeId) (cf : Rs → Value → Array Value) (bs : List Nat) (r : Ending) (w' : World) : Prop :=
  ∃ g v, r = .returned (.pointer (some ⟨g, 0, none⟩)) ∧ Rdr w.heap.size w' T cf g v ⟨bs, 0, 0, 0⟩ ∧ Below w.heap.size w w'
theorem ok_new {bs : List Nat} (hb : By bs) (hl : bs.length ≤ 140737488351232) : Rs.Ok ⟨bs, 0, 0, 0⟩ := ⟨Nat.zero_le _, hb, hl, fun _ => rfl, fun h => absurd rfl h, by simp only; omega, Nat.zero_le _⟩
theorem rdr_new {base : Nat} {w1 : World} {T : TypeId} {cf : Rs → Value → Array Value} {v : Value} {bs : List Nat} {n : Nat} {xs : List Value} (ho : w1.ownsRow base 5 1 v n xs) (hn : n = bs.length) (hx : xs = b8 bs) (hb : By bs) (hl : bs.length ≤ 140737488351232) (hbase : base ≤ w1.heap.size) :
    Rdr base (w1.alloc (.cells (cf ⟨bs, 0, 0, 0⟩ v) T)) T cf w1.heap.size v ⟨bs, 0, 0, 0⟩ := by
  subst hn hx
  refine ⟨heap_alloc_new w1 _, ho.alloc _, ?_, hbase, ok_new hb hl⟩
  intro q hq
  have := (ho.lt q hq).2
  omega
set_option maxRecDepth 100000 in
theorem newReader_is (A : Option Addr) (n c : Nat) (bs : List Nat) (w : World) (hr : Rd w A (b8 bs)) (hn : bs.length = n) (hby : By bs) (hl : n ≤ 140737488351232) :
    Calls Try.prog 60 #[.slice A n c] w (Newed w 78 Rs.cells bs) := by
  have HN := Lib.hid hn
  have HY := Lib.hid hby
  clear hn hby
  go_enter Try.func60, Try.ntmps60
  go_wp2_with (at_builtin; (refine app8 w rfl (.const (.slice none 0 0)) (.tmp 3) rfl w.heap.size (.slice none 0 0) 0 [] rfl (World.ownsRow_nil _ _ _ _) A n c bs rfl HN.out hr (by omega) (Nat.le_refl _) ?_); intro v' w2 ho hg hn; obtain ⟨A9, c9, rfl, _⟩ := own_shape ho; have HO := Lib.hid ho; have HG := Lib.hid hg; clear ho hg hn)
  go_ret
  have hb := below_of_grown HG.out (Nat.le_refl _) (fun k hk => by cases hk)
  rw [Nat.zero_add] at HO
  exact ⟨_, _, rfl, rdr_new (cf := Rs.cells) HO.out HN.out.symm rfl HY.out (by rw [HN.out]; exact hl) hb.size, hb.alloc hb.size _⟩
end Go.Proofs.Ytmdpncjffikmiaa
