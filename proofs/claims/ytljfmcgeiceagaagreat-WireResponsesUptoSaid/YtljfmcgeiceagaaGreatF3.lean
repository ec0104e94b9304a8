/- Several texts in one: Step, Rs, Rdr, Rdr2, Rdr3. -/
import Derived.Test.YtljfmcgeiceagaaGreatF2
import Derived.Test.YtljfmcgeiceagaaGreatF1
/- Steps of writers and readers. -/
namespace Go.Proofs.YtljfmcgeiceagaaGreat
open Go Go.RowKit
set_option linter.unusedVariables false

/-- A step: its kind, its number, its text. -/
structure Stp where
  k : Int
  n : Nat
  s : ByteArray

def Stp.cells (x : Stp) : List Value := [.int .i64 x.k, .int .u64 (x.n : Int), .string x.s]
def Stp.val (x : Stp) : Value := .agg #[.int .i64 x.k, .int .u64 (x.n : Int), .string x.s]
def Stp.Ok (x : Stp) : Prop := (-9223372036854775808 ≤ x.k ∧ x.k ≤ 9223372036854775807) ∧ x.n < 18446744073709551616 ∧ x.s.size ≤ 140737488351232

/-- A number of 64 bits, signed. -/
def sg (n : Nat) : Int := if n < 9223372036854775808 then (n : Int) else (n : Int) - 18446744073709551616
/-- What a writer writes at a step. -/
def Stp.out (x : Stp) : List Nat :=
  if x.k = 0 then [x.n % 256]
  else if x.k = 1 then Uv.uv x.n
  else if x.k = 2 then Uv.uv (Uv.zig (sg x.n)).toNat
  else if x.k = 3 then fx (x.n % 4294967296) 4
  else if x.k = 4 then fx x.n 8
  else if x.k = 5 then Uv.uv x.s.size ++ sb x.s
  else if x.k = 10 then sb x.s
  else []

/-! Two writers that write the same. -/

/-- Blocks of both. -/
def Foot (g1 : Nat) (v1 : Value) (g2 : Nat) (v2 : Value) (k : Nat) : Prop := k = g1 ∨ k = g2 ∨ v1.ownBlock = some k ∨ v2.ownBlock = some k

structure KeptS (w w' : World) (S : Nat → Prop) : Prop where
  os : w'.os = w.os
  tape : w'.tape = w.tape
  output : w'.output = w.output
  size : w.heap.size ≤ w'.heap.size
  block : ∀ k, k < w.heap.size → ¬ S k → w'.heap[k]? = w.heap[k]?
theorem KeptS.refl (w : World) (S : Nat → Prop) : KeptS w w S := ⟨rfl, rfl, rfl, Nat.le_refl _, fun _ _ _ => rfl⟩
theorem KeptS.trans {a b c : World} {S S' : Nat → Prop} (h : KeptS a b S) (k : KeptS b c S') (hS : ∀ q, S' q → S q ∨ a.heap.size ≤ q) : KeptS a c S :=
  ⟨k.os.trans h.os, k.tape.trans h.tape, k.output.trans h.output, Nat.le_trans h.size k.size, fun i hi hn => (k.block i (Nat.lt_of_lt_of_le hi h.size) (fun e => by
    rcases hS i e with e | e
    · exact hn e
    · omega)).trans (h.block i hi hn)⟩
theorem KeptS.of_below {a b : World} (h : Below a.heap.size a b) (S : Nat → Prop) : KeptS a b S := ⟨h.os, h.tape, h.output, h.size, fun k hk _ => h.block k hk⟩
theorem KeptS.of_grown {a b : World} {r : Option Nat} {S : Nat → Prop} (h : a.grownBy b r) (hr : ∀ q, r = some q → S q) : KeptS a b S :=
  ⟨h.os, h.tape, h.output, h.size, fun k hk hn => h.block k hk (fun e => hn (hr k e.symm))⟩
theorem KeptS.of2 {a b : World} {g : Nat} {r : Option Nat} {S : Nat → Prop} (h : Kept2 a b g r) (hg : S g) (hr : ∀ q, r = some q → S q) : KeptS a b S :=
  ⟨h.os, h.tape, h.output, h.size, fun k hk hn => h.block k hk (fun e => hn (e ▸ hg)) (fun e => hn (hr k e.symm))⟩
theorem KeptS.below {a b : World} {S : Nat → Prop} {B : Nat} (h : KeptS a b S) (hS : ∀ q, S q → B ≤ q) (hB : B ≤ a.heap.size) : Below B a b :=
  ⟨h.os, h.tape, h.output, h.size, fun k hk => h.block k (by omega) (fun e => by have := hS k e; omega)⟩
theorem KeptS.mono {a b : World} {S S' : Nat → Prop} (h : KeptS a b S) (hS : ∀ q, S q → S' q) : KeptS a b S' := ⟨h.os, h.tape, h.output, h.size, fun k hk hn => h.block k hk (fun e => hn (hS k e))⟩

structure Two (base : Nat) (W : World) (g1 : Nat) (v1 : Value) (xs : List Nat) (g2 : Nat) (v2 : Value) (ys : List Nat) : Prop where
  a : Wr base W 106 g1 v1 xs
  b : Wr base W 110 g2 v2 ys
  ne : g1 ≠ g2
  n12 : v1.ownBlock ≠ some g2
  n21 : v2.ownBlock ≠ some g1
  nv : ∀ q, v1.ownBlock = some q → v2.ownBlock ≠ some q

section
variable {base : Nat} {W : World} {g1 g2 : Nat} {v1 v2 : Value} {xs ys : List Nat}
theorem Wr.ownLt {T : TypeId} {g : Nat} {v : Value} (h : Wr base W T g v xs) : ∀ k, v.ownBlock = some k → base ≤ k ∧ k < W.heap.size := h.own.lt
theorem Wr.hb {T : TypeId} {g : Nat} {v : Value} (h : Wr base W T g v xs) : base ≤ W.heap.size := Nat.le_trans h.gb (Nat.le_of_lt h.lt)
theorem Two.foot (h : Two base W g1 v1 xs g2 v2 ys) : ∀ k, Foot g1 v1 g2 v2 k → base ≤ k ∧ k < W.heap.size := by
  intro k hk
  rcases hk with rfl | rfl | e | e
  · exact ⟨h.a.gb, h.a.lt⟩
  · exact ⟨h.b.gb, h.b.lt⟩
  · exact h.a.ownLt k e
  · exact h.b.ownLt k e
theorem Two.kept {W' : World} {S : Nat → Prop} (h : Two base W g1 v1 xs g2 v2 ys) (hk : KeptS W W' S) (hS : ∀ k, Foot g1 v1 g2 v2 k → ¬ S k) : Two base W' g1 v1 xs g2 v2 ys := by
  have key : ∀ {T : TypeId} {g : Nat} {v : Value} {xs : List Nat}, Wr base W T g v xs → ¬ S g → (∀ q, v.ownBlock = some q → ¬ S q) → Wr base W' T g v xs := by
    intro T g v xs h hg hv
    refine ⟨(hk.block g h.lt hg).trans h.cell, ⟨h.own.1, ?_⟩, h.ne, h.gb⟩
    rcases h.own.2 with hn | ⟨q, cap, cur, e, hb, hh, rest⟩
    · exact .inl hn
    · exact .inr ⟨q, cap, cur, e, hb, (hk.block q (Array.getElem?_eq_some_iff.1 hh).1 (hv q (by rw [e]; rfl))).trans hh, rest⟩
  exact ⟨key h.a (hS g1 (.inl rfl)) (fun q e => hS q (.inr (.inr (.inl e)))), key h.b (hS g2 (.inr (.inl rfl))) (fun q e => hS q (.inr (.inr (.inr e)))), h.ne, h.n12, h.n21, h.nv⟩
theorem Two.below {W' : World} (h : Two base W g1 v1 xs g2 v2 ys) (hb : Below W.heap.size W W') : Two base W' g1 v1 xs g2 v2 ys :=
  h.kept (KeptS.of_below hb (fun _ => False)) (fun _ _ h => h)
end

/-- On the way: from world w0 and the rows that stood there, to world W. -/
structure On2 (base : Nat) (w0 : World) (g1 : Nat) (a1 : Value) (g2 : Nat) (a2 : Value) (W : World) (v1 : Value) (xs : List Nat) (v2 : Value) (ys : List Nat) : Prop where
  two : Two base W g1 v1 xs g2 v2 ys
  kept : KeptS w0 W (Foot g1 a1 g2 a2)
  foot : ∀ k, Foot g1 v1 g2 v2 k → Foot g1 a1 g2 a2 k ∨ w0.heap.size ≤ k

section
variable {base : Nat} {w0 W : World} {g1 g2 : Nat} {a1 a2 v1 v2 : Value} {xs ys : List Nat}
theorem Two.on (h : Two base W g1 v1 xs g2 v2 ys) : On2 base W g1 v1 g2 v2 W v1 xs v2 ys := ⟨h, KeptS.refl _ _, fun _ h => .inl h⟩
theorem On2.below {W' : World} (h : On2 base w0 g1 a1 g2 a2 W v1 xs v2 ys) (hb : Below W.heap.size W W') : On2 base w0 g1 a1 g2 a2 W' v1 xs v2 ys :=
  ⟨h.two.below hb, h.kept.trans (KeptS.of_below hb (fun _ => False)) (fun _ h => h.elim), h.foot⟩
/-- A block beside them. -/
theorem On2.block {k : Nat} (h : On2 base w0 g1 a1 g2 a2 W v1 xs v2 ys) (hk : k < w0.heap.size) (hn : ¬ Foot g1 a1 g2 a2 k) : W.heap[k]? = w0.heap[k]? := h.kept.block k hk hn
theorem On2.then {w1 : World} {b1 b2 : Value} {us vs : List Nat} (h : On2 base w0 g1 a1 g2 a2 w1 b1 us b2 vs) (h' : On2 base w1 g1 b1 g2 b2 W v1 xs v2 ys) : On2 base w0 g1 a1 g2 a2 W v1 xs v2 ys := by
  refine ⟨h'.two, h.kept.trans h'.kept h.foot, fun k hk => ?_⟩
  rcases h'.foot k hk with h4 | h4
  · exact h.foot k h4
  · exact .inr (Nat.le_trans h.kept.size h4)
theorem On2.out {w : World} {o : Obj} {us vs : List Nat} (h0 : Two base w g1 a1 xs g2 a2 ys) (h : On2 base (w.alloc o) g1 a1 g2 a2 W v1 us v2 vs) : On2 base w g1 a1 g2 a2 W v1 us v2 vs := by
  exact (h0.on.below ((Below.refl _ _).alloc (Nat.le_refl _) o)).then h
end

end Go.Proofs.YtljfmcgeiceagaaGreat

/- Readers: their state, and what it comes to. -/
namespace Go.Proofs.YtljfmcgeiceagaaGreat
open Go Go.RowKit
set_option linter.unusedVariables false
set_option linter.unusedSimpArgs false

/-- The bytes, where it stands, the error, its place. -/
structure Rs where
  bs : List Nat
  p : Nat
  err : Int
  ea : Nat

structure Rs.Ok (s : Rs) : Prop where
  le : s.p ≤ s.bs.length
  by_ : By s.bs
  sz : s.bs.length ≤ 140737488351232
  zero : s.err = 0 → s.ea = 0
  bad : s.err ≠ 0 → s.p = s.bs.length
  e64 : -9223372036854775808 ≤ s.err ∧ s.err ≤ 9223372036854775807
  ela : s.ea ≤ s.bs.length

def Rs.failAt (s : Rs) (e : Int) (q : Nat) : Rs := if s.err ≠ 0 ∨ e = 0 then s else ⟨s.bs, s.bs.length, e, q⟩
def Rs.fail (s : Rs) (e : Int) : Rs := s.failAt e s.p
def Rs.rest (s : Rs) : Nat := s.bs.length - s.p
def Rs.go (s : Rs) (n : Nat) : Rs := ⟨s.bs, s.p + n, s.err, s.ea⟩
def Rs.take (s : Rs) (n : Int) : List Nat × Rs :=
  if s.err ≠ 0 then ([], s) else if n < 0 then ([], s.fail 14) else if (s.rest : Int) < n then ([], s.fail 10) else ((s.bs.drop s.p).take n.toNat, s.go n.toNat)
def Rs.num (s : Rs) : Nat × Rs :=
  if s.err ≠ 0 then (0, s) else if (Uv.ru 0 0 (s.bs.drop s.p)).2.2 = 0 then ((Uv.ru 0 0 (s.bs.drop s.p)).1, s.go (Uv.ru 0 0 (s.bs.drop s.p)).2.1) else (0, s.fail ((Uv.ru 0 0 (s.bs.drop s.p)).2.2 : Nat))
def Rs.text (s : Rs) (most : Int) : List Nat × Rs :=
  if s.err ≠ 0 then ([], s) else
  if s.num.2.err ≠ 0 then ([], s.num.2) else
  if (max most 0) < (s.num.1 : Int) then ([], s.num.2.failAt 14 s.p) else
  if s.num.2.rest < s.num.1 then ([], s.num.2.failAt 10 s.p) else
  (((s.bs.drop s.num.2.p).take s.num.1), s.num.2.go s.num.1)

theorem Rs.failAt_bs (s : Rs) (e : Int) (q : Nat) : (s.failAt e q).bs = s.bs := by unfold Rs.failAt; split <;> rfl
theorem Rs.fail_bs (s : Rs) (e : Int) : (s.fail e).bs = s.bs := s.failAt_bs e s.p
theorem Rs.failAt_yes {s : Rs} {e : Int} (q : Nat) (h : s.err = 0) (he : e ≠ 0) : s.failAt e q = ⟨s.bs, s.bs.length, e, q⟩ := by simp [Rs.failAt, h, he]
theorem Rs.failAt_bad {s : Rs} {e : Int} (q : Nat) (h : s.err ≠ 0) : s.failAt e q = s := by simp [Rs.failAt, h]
theorem Rs.failAt_ok {s : Rs} (q : Nat) : s.failAt 0 q = s := by simp [Rs.failAt]
theorem Rs.Ok.failAt {s : Rs} (h : s.Ok) {e : Int} (he : -9223372036854775808 ≤ e ∧ e ≤ 9223372036854775807) {q : Nat} (hq : q ≤ s.bs.length) : (s.failAt e q).Ok := by
  unfold Rs.failAt
  split
  · exact h
  · rename_i hn
    have hn1 : ¬ e = 0 := fun h => hn (.inr h)
    exact ⟨Nat.le_refl _, h.by_, h.sz, fun h => absurd h hn1, fun _ => rfl, he, hq⟩
theorem Rs.Ok.fail {s : Rs} (h : s.Ok) {e : Int} (he : -9223372036854775808 ≤ e ∧ e ≤ 9223372036854775807) : (s.fail e).Ok := h.failAt he h.le
theorem Rs.Ok.go {s : Rs} (h : s.Ok) (h0 : s.err = 0) {n : Nat} (hn : s.p + n ≤ s.bs.length) : (s.go n).Ok := ⟨hn, h.by_, h.sz, h.zero, fun h' => absurd h0 h', h.e64, h.ela⟩
theorem Rs.Ok.take {s : Rs} (h : s.Ok) (n : Int) : (s.take n).2.Ok := by
  unfold Rs.take
  have := h.le
  split
  · exact h
  split
  · exact h.fail (by omega)
  split
  · exact h.fail (by omega)
  · rename_i h1 h2 h3
    simp only [Rs.rest] at h3
    refine h.go (by simpa using h1) ?_
    omega
theorem Rs.take_by {s : Rs} (h : s.Ok) (n : Int) : By (s.take n).1 := by
  unfold Rs.take
  split
  · intro b hb; cases hb
  split
  · intro b hb; cases hb
  split
  · intro b hb; cases hb
  · intro b hb
    exact h.by_ b (List.mem_of_mem_drop (List.mem_of_mem_take hb))
theorem ru_taken0 {b : List Nat} (h : By b) (h0 : (Uv.ru 0 0 b).2.2 = 0) : (Uv.ru 0 0 b).2.1 ≤ b.length ∧ (Uv.ru 0 0 b).1 < 18446744073709551616 := by
  obtain ⟨v, h1, h2, h3, _, _, h6⟩ := Uv.ru_taken b 0 0 h (by omega) (by omega) h0
  omega
theorem ru_code (b : List Nat) : ((Uv.ru 0 0 b).2.2 = 0 ∨ (Uv.ru 0 0 b).2.2 = 10 ∨ (Uv.ru 0 0 b).2.2 = 11) ∧ ((Uv.ru 0 0 b).2.2 ≠ 0 → (Uv.ru 0 0 b).1 = 0) := by
  rcases Uv.ru_err b 0 0 with h | ⟨h1, h2, h3⟩
  · exact ⟨.inl h, fun h' => absurd h h'⟩
  · refine ⟨.inr h3, fun _ => h1⟩
theorem by_drop {b : List Nat} (h : By b) (n : Nat) : By (b.drop n) := fun x hx => h x (List.mem_of_mem_drop hx)

/-- What a number comes to, told apart. -/
theorem Rs.num_bad {s : Rs} (h : s.err ≠ 0) : s.num = (0, s) := by simp [Rs.num, h]
theorem Rs.num_cases {s : Rs} (h : s.Ok) (h0 : s.err = 0) : ∃ v k x : Nat, Uv.ru 0 0 (s.bs.drop s.p) = (v, k, x) ∧ v < 18446744073709551616 ∧
    ((x = 0 ∧ s.p + k ≤ s.bs.length ∧ s.num = (v, s.go k)) ∨ ((x = 10 ∨ x = 11) ∧ v = 0 ∧ s.num = (0, ⟨s.bs, s.bs.length, (x : Int), s.p⟩))) := by
  obtain ⟨⟨v, k, x⟩, hr⟩ : ∃ r, r = Uv.ru 0 0 (s.bs.drop s.p) := ⟨_, rfl⟩
  have hc := ru_code (s.bs.drop s.p)
  have hn : s.num = if x = 0 then (v, s.go k) else (0, s.fail (x : Int)) := by
    unfold Rs.num
    rw [← hr]
    simp only [h0, ne_eq, not_true_eq_false, if_false]
  refine ⟨v, k, x, hr.symm, ?_, ?_⟩
  · by_cases hx : x = 0
    · have := (ru_taken0 (by_drop h.by_ s.p) (by rw [← hr]; exact hx)).2
      rw [← hr] at this
      exact this
    · have := hc.2 (by rw [← hr]; exact hx)
      rw [← hr] at this
      simp only at this
      omega
  · by_cases hx : x = 0
    · have h1 := (ru_taken0 (by_drop h.by_ s.p) (by rw [← hr]; exact hx)).1
      rw [← hr] at h1
      simp only [List.length_drop] at h1
      have := h.le
      exact .inl ⟨hx, by omega, by rw [hn, if_pos hx]⟩
    · have h1 := hc.1
      have h2 := hc.2 (by rw [← hr]; exact hx)
      rw [← hr] at h1 h2
      simp only at h1 h2
      refine .inr ⟨by omega, h2, ?_⟩
      rw [hn, if_neg hx, Rs.fail, Rs.failAt_yes _ h0 (by omega)]
theorem Rs.Ok.num {s : Rs} (h : s.Ok) : s.num.2.Ok ∧ s.num.1 < 18446744073709551616 ∧ s.num.2.bs = s.bs := by
  by_cases h0 : s.err = 0
  · obtain ⟨v, k, x, _, hv, h1 | h1⟩ := Rs.num_cases h h0
    · rw [h1.2.2]
      exact ⟨h.go h0 h1.2.1, hv, rfl⟩
    · rw [h1.2.2]
      exact ⟨⟨Nat.le_refl _, h.by_, h.sz, fun h => by simp only at h; omega, fun _ => rfl, by simp only; omega, h.le⟩, by simp, rfl⟩
  · rw [Rs.num_bad h0]
    exact ⟨h, by simp, rfl⟩
theorem Rs.num_ok {s : Rs} (h : s.Ok) (he : s.num.2.err = 0) : s.err = 0 := by
  apply Classical.byContradiction
  intro h0
  rw [Rs.num_bad h0] at he
  exact h0 he
theorem Rs.Ok.text {s : Rs} (h : s.Ok) (most : Int) : (s.text most).2.Ok ∧ By (s.text most).1 := by
  have hn := h.num
  have nl : By ([] : List Nat) := fun b hb => by cases hb
  unfold Rs.text
  split
  · exact ⟨h, nl⟩
  split
  · exact ⟨hn.1, nl⟩
  have hp : s.p ≤ s.num.2.bs.length := by rw [hn.2.2]; exact h.le
  split
  · exact ⟨hn.1.failAt (by omega) hp, nl⟩
  split
  · exact ⟨hn.1.failAt (by omega) hp, nl⟩
  · rename_i h1 h2 h3 h4
    have := hn.1.le
    simp only [Rs.rest] at h4
    refine ⟨hn.1.go (by simpa using h2) (by omega), fun b hb => h.by_ b (List.mem_of_mem_drop (List.mem_of_mem_take hb))⟩
end Go.Proofs.YtljfmcgeiceagaaGreat

/- Readers in memory. -/
namespace Go.Proofs.YtljfmcgeiceagaaGreat
open Go Go.RowKit
set_option linter.unusedVariables false
set_option linter.unusedSimpArgs false

def Rs.cells (s : Rs) (v : Value) : Array Value := #[v, .int .i64 (s.p : Int), .bool (s.err != 0), .int .i64 s.err, .int .i64 (s.ea : Int)]
def Rs.rcells (s : Rs) (v : Value) : Array Value := #[v, .int .i64 (s.p : Int), .int .i64 s.err, .int .i64 (s.ea : Int)]

structure Rdr (base : Nat) (W : World) (T : TypeId) (cf : Rs → Value → Array Value) (g : Nat) (v : Value) (s : Rs) : Prop where
  cell : W.heap[g]? = some (.cells (cf s v) T (0, 0))
  own : W.ownsRow base 5 1 v s.bs.length (b8 s.bs)
  ne : ∀ q, v.ownBlock = some q → q ≠ g
  gb : base ≤ g
  ok : s.Ok

/-- But for one block. -/
abbrev Kept1 (w w' : World) (g : Nat) : Prop := KeptS w w' (fun q => q = g)

/-- What a step of a reader leaves. -/
structure Turned (base : Nat) (W : World) (T : TypeId) (cf : Rs → Value → Array Value) (g : Nat) (v : Value) (s : Rs) (W' : World) : Prop where
  rd : Rdr base W' T cf g v s
  kept : Kept1 W W' g

section
variable {base : Nat} {W W' : World} {T : TypeId} {cf : Rs → Value → Array Value} {g : Nat} {v : Value} {s s' : Rs}
theorem Rdr.lt (h : Rdr base W T cf g v s) : g < W.heap.size := lt_of_block h.cell
theorem Rdr.keptS {S : Nat → Prop} (h : Rdr base W T cf g v s) (hk : KeptS W W' S) (hg : ¬ S g) (hv : ∀ q, v.ownBlock = some q → ¬ S q) : Rdr base W' T cf g v s := by
  refine ⟨(hk.block g h.lt hg).trans h.cell, ⟨h.own.1, ?_⟩, h.ne, h.gb, h.ok⟩
  rcases h.own.2 with hn | ⟨q, cap, cur, e, hb, hh, rest⟩
  · exact .inl hn
  · exact .inr ⟨q, cap, cur, e, hb, (hk.block q (Array.getElem?_eq_some_iff.1 hh).1 (hv q (by rw [e]; rfl))).trans hh, rest⟩
theorem Rdr.below (h : Rdr base W T cf g v s) (hb : Below W.heap.size W W') : Rdr base W' T cf g v s := h.keptS (KeptS.of_below hb (fun _ => False)) (fun h => h) (fun _ _ h => h)
theorem Rdr.turned (h : Rdr base W T cf g v s) : Turned base W T cf g v s W := ⟨h, KeptS.refl _ _⟩
theorem Turned.then {W1 : World} (h : Turned base W T cf g v s W1) (h' : Turned base W1 T cf g v s' W') : Turned base W T cf g v s' W' := ⟨h'.rd, h.kept.trans h'.kept (fun q hq => .inl hq)⟩
theorem Turned.below {W1 : World} (h : Turned base W T cf g v s W1) (hb : Below W1.heap.size W1 W') : Turned base W T cf g v s W' := ⟨h.rd.below hb, h.kept.trans (KeptS.of_below hb _) (fun q hq => .inl hq)⟩
/-- The cells of its block written anew. -/
theorem Rdr.write (h : Rdr base W T cf g v s) (hc : W'.heap[g]? = some (.cells (cf s' v) T (0, 0))) (hk : Kept1 W W' g) (hs : s'.bs = s.bs) (ho : s'.Ok) : Turned base W T cf g v s' W' := by
  refine ⟨⟨hc, ?_, h.ne, h.gb, ho⟩, hk⟩
  rw [hs]
  refine ⟨h.own.1, ?_⟩
  rcases h.own.2 with hn | ⟨q, cap, cur, e, hb, hh, rest⟩
  · exact .inl hn
  · exact .inr ⟨q, cap, cur, e, hb, (hk.block q (Array.getElem?_eq_some_iff.1 hh).1 (h.ne q (by rw [e]; rfl))).trans hh, rest⟩
theorem kept1_set (w : World) (g j : Nat) (u : Value) : Kept1 w (w.setCell ⟨g, j, none⟩ u) g :=
  ⟨rfl, rfl, rfl, by simp, fun k _ hk => heap_setCell_other w ⟨g, j, none⟩ k u (fun e => hk (by simpa using e))⟩
end

/-- The program's cells. -/
structure PF (W : World) (g : Nat) (v : Value) (p : Int) (b : Bool) (e : Int) (q : Int) : Prop where
  c0 : W.cell? ⟨g, 0, none⟩ = some v
  c1 : W.cell? ⟨g, 1, none⟩ = some (.int .i64 p)
  c2 : W.cell? ⟨g, 2, none⟩ = some (.bool b)
  c3 : W.cell? ⟨g, 3, none⟩ = some (.int .i64 e)
  c4 : W.cell? ⟨g, 4, none⟩ = some (.int .i64 q)
  f1 : W.frozen? ⟨g, 1, none⟩ = false
  f2 : W.frozen? ⟨g, 2, none⟩ = false
  f3 : W.frozen? ⟨g, 3, none⟩ = false
  f4 : W.frozen? ⟨g, 4, none⟩ = false
theorem Rdr.pf {base : Nat} {W : World} {T : TypeId} {g : Nat} {v : Value} {s : Rs} (h : Rdr base W T Rs.cells g v s) : PF W g v s.p (s.err != 0) s.err s.ea := by
  have hc := h.cell
  unfold Rs.cells at hc
  constructor <;> first | (rw [cell_of_row W g _ _ _ _ hc]; rfl) | simp [World.frozen?, hc]

theorem set1 {w : World} {g j : Nat} {cur : Array Value} {T : TypeId} {u : Value} (h : w.heap[g]? = some (.cells cur T (0, 0))) : (w.setCell ⟨g, j, none⟩ u).heap[g]? = some (.cells (cur.setIfInBounds j u) T (0, 0)) := heap_setCell_same w g j cur T u h

/-- A contract of a step that gives back nothing. -/
def Step0 (base : Nat) (w : World) (g : Nat) (v : Value) (s' : Rs) (r : Ending) (w' : World) : Prop := r = .returned (.tuple #[]) ∧ Turned base w 88 Rs.cells g v s' w'

set_option maxHeartbeats 400000 in
set_option maxRecDepth 100000 in
theorem failAt_yes (base g : Nat) (v : Value) (s : Rs) (e : Int) (q : Nat) (w : World) (h : Rdr base w 88 Rs.cells g v s) (h0 : s.err = 0) (he : e ≠ 0) (ok : (s.failAt e q).Ok) :
    Calls Tryz.prog 74 #[.pointer (some ⟨g, 0, none⟩), .int .i64 e, .int .i64 (q : Int)] w (Step0 base w g v (s.failAt e q)) := by
  obtain ⟨c0, c1, c2, c3, c4, f1, f2, f3, f4⟩ := h.pf
  obtain ⟨A, c, rfl, _⟩ := own_shape h.own
  have hlt := h.lt
  rw [h0] at c2
  have HH := Lib.hid h
  clear h
  go_enter Tryz.func74, Tryz.ntmps74
  go_wp2
  go_end0
  refine ⟨rfl, HH.out.write (s' := s.failAt e q) ?_ ?_ (s.failAt_bs e q) ok⟩
  · rw [Rs.failAt_yes q h0 he]
    have hb : (e != 0) = true := by simpa using he
    have := set1 (j := 1) (u := .int .i64 (s.bs.length : Int)) (set1 (j := 4) (u := .int .i64 (q : Int)) (set1 (j := 3) (u := .int .i64 e) (set1 (j := 2) (u := .bool true) HH.out.cell)))
    simpa [Rs.cells, hb] using this
  · exact (((kept1_set _ _ _ _).trans (kept1_set _ _ _ _) (fun q h => .inl h)).trans (kept1_set _ _ _ _) (fun q h => .inl h)).trans (kept1_set _ _ _ _) (fun q h => .inl h)
set_option maxRecDepth 100000 in
theorem failAt_bad (base g : Nat) (v : Value) (s : Rs) (e : Int) (q : Nat) (w : World) (h : Rdr base w 88 Rs.cells g v s) (h0 : s.err ≠ 0) :
    Calls Tryz.prog 74 #[.pointer (some ⟨g, 0, none⟩), .int .i64 e, .int .i64 (q : Int)] w (Step0 base w g v (s.failAt e q)) := by
  obtain ⟨c0, c1, c2, c3, c4, f1, f2, f3, f4⟩ := h.pf
  have hlt := h.lt
  have hb : (s.err != 0) = true := by simpa using h0
  rw [hb] at c2
  have HH := Lib.hid h
  clear h
  go_enter Tryz.func74, Tryz.ntmps74
  go_wp2
  go_end0
  rw [Rs.failAt_bad q h0]
  exact ⟨rfl, HH.out.turned⟩
set_option maxRecDepth 100000 in
theorem failAt_ok (base g : Nat) (v : Value) (s : Rs) (q : Nat) (w : World) (h : Rdr base w 88 Rs.cells g v s) (h0 : s.err = 0) :
    Calls Tryz.prog 74 #[.pointer (some ⟨g, 0, none⟩), .int .i64 0, .int .i64 (q : Int)] w (Step0 base w g v (s.failAt 0 q)) := by
  obtain ⟨c0, c1, c2, c3, c4, f1, f2, f3, f4⟩ := h.pf
  have hlt := h.lt
  rw [h0] at c2
  have HH := Lib.hid h
  clear h
  go_enter Tryz.func74, Tryz.ntmps74
  go_wp2
  go_end0
  rw [Rs.failAt_ok q]
  exact ⟨rfl, HH.out.turned⟩
theorem failAt_is (base g : Nat) (v : Value) (s : Rs) (e : Int) (q : Nat) (w : World) (h : Rdr base w 88 Rs.cells g v s) (he : -9223372036854775808 ≤ e ∧ e ≤ 9223372036854775807) (hq : q ≤ s.bs.length) :
    Calls Tryz.prog 74 #[.pointer (some ⟨g, 0, none⟩), .int .i64 e, .int .i64 (q : Int)] w (Step0 base w g v (s.failAt e q)) := by
  by_cases h0 : s.err = 0
  · by_cases h1 : e = 0
    · subst h1; exact failAt_ok base g v s q w h h0
    · exact failAt_yes base g v s e q w h h0 h1 (h.ok.failAt he hq)
  · exact failAt_bad base g v s e q w h h0
set_option maxRecDepth 100000 in
theorem place_is (base g : Nat) (v : Value) (s : Rs) (w : World) (h : Rdr base w 88 Rs.cells g v s) :
    Calls Tryz.prog 73 #[.pointer (some ⟨g, 0, none⟩)] w fun r w' => r = .returned (.int .i64 (s.p : Int)) ∧ w = w' := by
  obtain ⟨c0, c1, c2, c3, c4, f1, f2, f3, f4⟩ := h.pf
  have hlt := h.lt
  clear h
  go_enter Tryz.func73, Tryz.ntmps73
  go_wp2
  go_ret
  exact ⟨rfl, rfl⟩
set_option maxRecDepth 100000 in
theorem fail_is (base g : Nat) (v : Value) (s : Rs) (e : Int) (w : World) (h : Rdr base w 88 Rs.cells g v s) (he : -9223372036854775808 ≤ e ∧ e ≤ 9223372036854775807) :
    Calls Tryz.prog 71 #[.pointer (some ⟨g, 0, none⟩), .int .i64 e] w (Step0 base w g v (s.fail e)) := by
  have P1 := Lib.hid (place_is base g v s w h)
  have P2 := Lib.hid (failAt_is base g v s e s.p w h he h.ok.le)
  unfold Step0 at P2 ⊢
  unfold Rs.fail
  clear h
  go_enter Tryz.func71, Tryz.ntmps71
  go_wp2_with (first
    | (go_at_call 73; refine P1.out.mono ?_; rintro r w' ⟨rfl, rfl⟩)
    | (go_at_call 74; refine P2.out.mono ?_; rintro r w' ⟨rfl, ht⟩))
  go_end0
  exact ⟨rfl, ht⟩
set_option maxRecDepth 100000 in
theorem rest_is (base g : Nat) (v : Value) (s : Rs) (w : World) (h : Rdr base w 88 Rs.cells g v s) :
    Calls Tryz.prog 32 #[.pointer (some ⟨g, 0, none⟩)] w fun r w' => r = .returned (.int .i64 (s.rest : Int)) ∧ ∃ m, w' = w.drewN m := by
  obtain ⟨c0, c1, c2, c3, c4, f1, f2, f3, f4⟩ := h.pf
  obtain ⟨A, c, rfl, _⟩ := own_shape h.own
  have hlt := h.lt
  have hle := h.ok.le
  have hsz := h.ok.sz
  have HR := Lib.hid (show ((s.rest : Nat) : Int) = (s.bs.length : Int) - (s.p : Int) by unfold Rs.rest; omega)
  clear h
  go_enter Tryz.func32, Tryz.ntmps32
  go_wp2
  go_quiet (fail)
  go_wp2
  go_ret
  exact ⟨ret_i HR.out.symm, _, rfl⟩
end Go.Proofs.YtljfmcgeiceagaaGreat

/- Readers: take. -/
namespace Go.Proofs.YtljfmcgeiceagaaGreat
open Go Go.RowKit
set_option linter.unusedVariables false
set_option linter.unusedSimpArgs false

theorem Kept1.drew {a b : World} {g : Nat} (h : Kept1 a b g) (n : Nat) : Kept1 a (b.drewN n) g := ⟨h.os, h.tape, h.output, h.size, h.block⟩
theorem KeptS.pre {a b : World} {S : Nat → Prop} {n : Nat} (h : KeptS (a.drewN n) b S) (m : Nat) (e : m = n := by rfl) : KeptS a b S := ⟨h.os, h.tape, h.output, h.size, h.block⟩
theorem Turned.drew {base : Nat} {W W' : World} {T : TypeId} {cf : Rs → Value → Array Value} {g : Nat} {v : Value} {s : Rs} (h : Turned base W T cf g v s W') (n : Nat) : Turned base W T cf g v s (W'.drewN n) := h.below (below_drewN (Below.refl _ _) n)
theorem Rdr.drew {base : Nat} {W : World} {T : TypeId} {cf : Rs → Value → Array Value} {g : Nat} {v : Value} {s : Rs} (h : Rdr base W T cf g v s) (n : Nat) : Rdr base (W.drewN n) T cf g v s := h.below (below_drewN (Below.refl _ _) n)

/-- What is gone on by. -/
theorem Rdr.moved {base : Nat} {W : World} {g : Nat} {v : Value} {s : Rs} (h : Rdr base W 88 Rs.cells g v s) (h0 : s.err = 0) {k : Nat} (hk : s.p + k ≤ s.bs.length) {x : Int} (hx : x = (s.p : Int) + (k : Int)) :
    Turned base W 88 Rs.cells g v (s.go k) (W.setCell ⟨g, 1, none⟩ (.int .i64 x)) := by
  refine h.write (s' := s.go k) ?_ (kept1_set _ _ _ _) rfl (h.ok.go h0 hk)
  have := set1 (j := 1) (u := .int .i64 x) h.cell
  have e : ((s.p + k : Nat) : Int) = x := by omega
  simpa [Rs.cells, Rs.go, e] using this

/-- A part of a row that is read. -/
theorem rd_part {w : World} {q p k : Nat} {A : Option Addr} {bs : List Nat} (h : Rd w A (b8 bs)) (hA : A = some ⟨q, 0, none⟩) : Rd w (some ⟨q, p, none⟩) (b8 ((bs.drop p).take k)) := by
  intro hne
  have hb : b8 bs ≠ [] := by
    rintro e
    have : bs = [] := by simpa [b8] using e
    subst this
    simp [b8] at hne
  obtain ⟨g, off, e, hg, hc⟩ := h hb
  rw [hA] at e
  injection e with e
  injection e with e1 e2 e3
  subst e1 e2
  refine ⟨q, p, rfl, hg, fun j u hu => ?_⟩
  have hj : j < k := by
    have := (List.getElem?_eq_some_iff.1 hu).1
    simp [b8] at this
    omega
  have hu2 : (b8 bs)[p + j]? = some u := by
    rw [b8_get] at hu ⊢
    rw [List.getElem?_take, if_pos hj, List.getElem?_drop] at hu
    exact hu
  have := hc _ _ hu2
  simpa using this

/-- What take gives. -/
def Took (base : Nat) (w : World) (g : Nat) (v : Value) (bs : List Nat) (s' : Rs) (r : Ending) (w' : World) : Prop :=
  ∃ A c, r = .returned (.slice A bs.length c) ∧ bs.length ≤ c ∧ Rd w' A (b8 bs) ∧ Turned base w 88 Rs.cells g v s' w'

set_option maxHeartbeats 400000 in
set_option maxRecDepth 100000 in
theorem take_yes (base g : Nat) (v : Value) (s : Rs) (k : Nat) (w : World) (h : Rdr base w 88 Rs.cells g v s) (h0 : s.err = 0) (hk : k ≤ s.rest) :
    Calls Tryz.prog 69 #[.pointer (some ⟨g, 0, none⟩), .int .i64 (k : Int)] w (Took base w g v ((s.bs.drop s.p).take k) (s.go k)) := by
  obtain ⟨c0, c1, c2, c3, c4, f1, f2, f3, f4⟩ := h.pf
  obtain ⟨A, c, rfl, hc, _, _⟩ := own_shape h.own
  have P1 := Lib.hid (rest_is base g _ s w h)
  have hlt := h.lt
  have hle := h.ok.le
  have hsz := h.ok.sz
  rw [h0] at c2
  have HH := Lib.hid h
  have hpk : s.p + k ≤ s.bs.length := by unfold Rs.rest at hk; omega
  have hlen : ((s.bs.drop s.p).take k).length = k := by simp; omega
  have HL := Lib.hid hlen
  obtain ⟨p, hp⟩ : ∃ p, p = s.p := ⟨_, rfl⟩
  obtain ⟨n, hn⟩ : ∃ n, n = s.bs.length := ⟨_, rfl⟩
  obtain ⟨rt, hrt⟩ : ∃ rt, rt = s.rest := ⟨_, rfl⟩
  have HP := Lib.hid hp
  have HN := Lib.hid hn
  rw [← hp] at c1 hpk hle
  rw [← hn] at c0 hc hle hsz hpk
  rw [← hrt] at P1 hk
  clear h hlen hp hrt hn
  rcases A with _ | ⟨q, qo, qs⟩
  · have hn0 : n = 0 ∧ c = 0 := by
      rcases HH.out.own.2 with ⟨h1, h⟩ | ⟨_, _, _, h, _⟩
      · exact ⟨by rw [HN.out]; exact h, by injection h1⟩
      · cases h
    obtain ⟨hn0, hc0⟩ := hn0
    subst hc0
    have hp0 : p = 0 := by omega
    have hk0 : k = 0 := by omega
    subst hn0 hp0 hk0
    go_enter Tryz.func69, Tryz.ntmps69
    go_wp2_with (go_at_call 32; refine P1.out.mono ?_; rintro r w1 ⟨rfl, m, rfl⟩)
    go_quiet (fail)
    go_wp2
    go_ret
    have e0 : (s.bs.drop s.p).take 0 = [] := by simp
    rw [e0]
    exact ⟨none, 0, rfl, Nat.le_refl _, Rd.nil_ _ _, Turned.drew (⟨((HH.out.drew m).moved h0 (k := 0) (x := 0) (by rw [← HP.out]; omega) (by rw [← HP.out]; rfl)).rd, KeptS.pre ((HH.out.drew m).moved h0 (k := 0) (x := 0) (by rw [← HP.out]; omega) (by rw [← HP.out]; rfl)).kept m⟩ : Turned base w _ _ g _ (s.go 0) _) _⟩
  · obtain ⟨g', hA, _⟩ : ∃ g', (some ⟨q, qo, qs⟩ : Option Addr) = some ⟨g', 0, none⟩ ∧ True := by
      rcases HH.out.own.2 with ⟨h, _⟩ | ⟨g', _, _, h, _⟩
      · cases h
      · injection h with h; exact ⟨g', h, trivial⟩
    injection hA with hA
    injection hA with e1 e2 e3
    subst e1 e2 e3
    go_enter Tryz.func69, Tryz.ntmps69
    go_wp2_with (go_at_call 32; refine P1.out.mono ?_; rintro r w1 ⟨rfl, m, rfl⟩)
    go_quiet (fail)
    go_wp2
    all_goals go_ret
    all_goals have HT := Lib.hid (fun nq => Turned.drew (⟨((HH.out.drew m).moved h0 (k := k) (x := (p : Int) + (k : Int)) (by rw [← HP.out, ← HN.out]; omega) (by rw [← HP.out])).rd, ((HH.out.drew m).moved h0 (k := k) (x := (p : Int) + (k : Int)) (by rw [← HP.out, ← HN.out]; omega) (by rw [← HP.out])).kept.pre m⟩ : Turned base w _ _ g _ (s.go k) _) nq)
    · have hk0 : k = 0 := by omega
      have hcp : c = p := by omega
      subst hk0 hcp
      have e0 : (s.bs.drop s.p).take 0 = [] := by simp
      rw [e0]
      exact ⟨_, _, rfl, Nat.le_refl _, Rd.nil_ _ _, HT.out _⟩
    · refine ⟨_, _, by rw [HL.out]; rfl, ?_, ?_, HT.out _⟩
      · rw [HL.out]; omega
      · have hr := rd_part (p := p) (k := k) (rd_own (HT.out 0).rd.own) rfl
        rw [HP.out] at hr ⊢
        exact hr.below (below_drewN (Below.refl _ _) _)

set_option maxRecDepth 100000 in
theorem take_bad (base g : Nat) (v : Value) (s : Rs) (n : Int) (w : World) (h : Rdr base w 88 Rs.cells g v s) (h0 : s.err ≠ 0) :
    Calls Tryz.prog 69 #[.pointer (some ⟨g, 0, none⟩), .int .i64 n] w (Took base w g v [] s) := by
  obtain ⟨c0, c1, c2, c3, c4, f1, f2, f3, f4⟩ := h.pf
  have hlt := h.lt
  have hb : (s.err != 0) = true := by simpa using h0
  rw [hb] at c2
  have HH := Lib.hid h
  clear h
  go_enter Tryz.func69, Tryz.ntmps69
  go_wp2
  go_ret
  exact ⟨none, 0, rfl, Nat.le_refl _, Rd.nil_ _ _, HH.out.turned⟩
set_option maxRecDepth 100000 in
theorem take_neg (base g : Nat) (v : Value) (s : Rs) (n : Int) (w : World) (h : Rdr base w 88 Rs.cells g v s) (h0 : s.err = 0) (hn : n < 0) :
    Calls Tryz.prog 69 #[.pointer (some ⟨g, 0, none⟩), .int .i64 n] w (Took base w g v [] (s.fail 14)) := by
  obtain ⟨c0, c1, c2, c3, c4, f1, f2, f3, f4⟩ := h.pf
  have hlt := h.lt
  rw [h0] at c2
  have P1 := Lib.hid (fail_is base g v s 14 w h (by omega))
  unfold Step0 at P1
  clear h
  go_enter Tryz.func69, Tryz.ntmps69
  go_wp2_with (go_at_call 71; refine P1.out.mono ?_; rintro r w' ⟨rfl, ht⟩; have HT := Lib.hid ht; clear ht)
  go_ret
  exact ⟨none, 0, rfl, Nat.le_refl _, Rd.nil_ _ _, HT.out⟩
theorem Turned.of_drew {base : Nat} {W W' : World} {T : TypeId} {cf : Rs → Value → Array Value} {g : Nat} {v : Value} {s : Rs} {m : Nat} (h : Turned base (W.drewN m) T cf g v s W') : Turned base W T cf g v s W' := ⟨h.rd, h.kept.pre m⟩
set_option maxRecDepth 100000 in
theorem take_short (base g : Nat) (v : Value) (s : Rs) (n : Int) (w : World) (h : Rdr base w 88 Rs.cells g v s) (h0 : s.err = 0) (hn : 0 ≤ n) (hr : (s.rest : Int) < n) :
    Calls Tryz.prog 69 #[.pointer (some ⟨g, 0, none⟩), .int .i64 n] w (Took base w g v [] (s.fail 10)) := by
  obtain ⟨c0, c1, c2, c3, c4, f1, f2, f3, f4⟩ := h.pf
  have hlt := h.lt
  rw [h0] at c2
  have P1 := Lib.hid (rest_is base g v s w h)
  have P2 := Lib.hid (fun m => fail_is base g v s 10 (w.drewN m) (h.drew m) (by omega))
  unfold Step0 at P2
  obtain ⟨rt, hrt⟩ : ∃ rt, rt = s.rest := ⟨_, rfl⟩
  rw [← hrt] at P1 hr
  clear h hrt
  go_enter Tryz.func69, Tryz.ntmps69
  go_wp2_with (first
    | (go_at_call 32; refine P1.out.mono ?_; rintro r w' ⟨rfl, m, rfl⟩)
    | (go_at_call 71; refine (P2.out m).mono ?_; rintro r w' ⟨rfl, ht⟩; have HT := Lib.hid ht; clear ht))
  go_ret
  exact ⟨none, 0, rfl, Nat.le_refl _, Rd.nil_ _ _, HT.out.of_drew⟩
theorem take_is (base g : Nat) (v : Value) (s : Rs) (n : Int) (w : World) (h : Rdr base w 88 Rs.cells g v s) :
    Calls Tryz.prog 69 #[.pointer (some ⟨g, 0, none⟩), .int .i64 n] w (Took base w g v (s.take n).1 (s.take n).2) := by
  unfold Rs.take
  by_cases h0 : s.err ≠ 0
  · rw [if_pos h0]; exact take_bad base g v s n w h h0
  rw [if_neg h0]
  have h0' : s.err = 0 := by simpa using h0
  by_cases h1 : n < 0
  · rw [if_pos h1]; exact take_neg base g v s n w h h0' h1
  rw [if_neg h1]
  by_cases h2 : (s.rest : Int) < n
  · rw [if_pos h2]; exact take_short base g v s n w h h0' (by omega) h2
  rw [if_neg h2]
  obtain ⟨k, rfl⟩ : ∃ k : Nat, n = (k : Int) := ⟨n.toNat, by omega⟩
  exact take_yes base g v s k w h h0' (by omega)
theorem Rs.take_len (s : Rs) (h : s.Ok) (n : Int) : (s.take n).1.length ≤ 140737488351232 := by
  have := h.sz
  unfold Rs.take
  split
  · simp
  split
  · simp
  split
  · simp
  · simp only [List.length_take, List.length_drop]; omega

theorem own_lower {w : World} {base base' : Nat} {e : TypeId} {size : Nat} {v : Value} {n : Nat} {xs : List Value} (h : w.ownsRow base e size v n xs) (hb : base' ≤ base) : w.ownsRow base' e size v n xs := by
  refine ⟨h.1, ?_⟩
  rcases h.2 with h | ⟨g, cap, cur, a, b, c⟩
  · exact .inl h
  · exact .inr ⟨g, cap, cur, a, Nat.le_trans hb b, c⟩
/-- What Raw gives. -/
def Rawed (base : Nat) (w : World) (T : TypeId) (cf : Rs → Value → Array Value) (g : Nat) (v : Value) (bs : List Nat) (s' : Rs) (r : Ending) (w' : World) : Prop :=
  ∃ A c, r = .returned (.slice A bs.length c) ∧ w'.ownsRow w.heap.size 5 1 (.slice A bs.length c) bs.length (b8 bs) ∧ Turned base w T cf g v s' w'

set_option maxRecDepth 100000 in
theorem raw_r (base g : Nat) (v : Value) (s : Rs) (n : Int) (w : World) (h : Rdr base w 88 Rs.cells g v s) :
    Calls Tryz.prog 31 #[.pointer (some ⟨g, 0, none⟩), .int .i64 n] w (Rawed base w 88 Rs.cells g v (s.take n).1 (s.take n).2) := by
  have P1 := Lib.hid (take_is base g v s n w h)
  unfold Took at P1
  have hl := s.take_len h.ok n
  obtain ⟨q, hq⟩ : ∃ q, q = s.take n := ⟨_, rfl⟩
  rw [← hq] at P1 hl ⊢
  clear h hq
  go_enter Tryz.func31, Tryz.ntmps31
  go_wp2_with (first
    | (go_at_call 69; refine P1.out.mono ?_; rintro r w1 ⟨A1, c1, rfl, _, hr1, ht1⟩; have HR := Lib.hid hr1; have HT := Lib.hid ht1; clear hr1 ht1)
    | (at_builtin; (refine app8 w1 rfl (.const (.slice none 0 0)) (.tmp 7) rfl w1.heap.size (.slice none 0 0) 0 [] rfl (World.ownsRow_nil _ _ _ _) A1 _ c1 q.1 rfl rfl HR.out (by omega) (Nat.le_refl _) ?_); intro v' w2 ho hg hn; obtain ⟨A9, c9, rfl, _⟩ := own_shape ho; have HO := Lib.hid ho; have HG := Lib.hid hg; clear ho hg hn))
  go_ret
  rw [Nat.zero_add] at HO
  refine ⟨A9, c9, rfl, own_lower HO.out HT.out.kept.size, HT.out.below (below_of_grown HG.out (Nat.le_refl _) (fun k hk => by cases hk))⟩
end Go.Proofs.YtljfmcgeiceagaaGreat

/- Readers: Byte, U32, U64. -/
namespace Go.Proofs.YtljfmcgeiceagaaGreat
open Go Go.RowKit
set_option linter.unusedVariables false
set_option linter.unusedSimpArgs false

/-- A step that gives a value. -/
def Gave (base : Nat) (w : World) (T : TypeId) (cf : Rs → Value → Array Value) (g : Nat) (v : Value) (x : Value) (s' : Rs) (r : Ending) (w' : World) : Prop := r = .returned x ∧ Turned base w T cf g v s' w'

/-- Bytes as a number. -/
def val (bs : List Nat) : Nat := bs.foldl (fun v c => v * 256 + c) 0
theorem val_snoc (bs : List Nat) (c : Nat) : val (bs ++ [c]) = val bs * 256 + c := by simp [val]
theorem val_lt : ∀ (n : Nat) (bs : List Nat), By bs → bs.length = n → val bs < 256 ^ n
  | 0, bs, _, h => by
    have : bs = [] := List.eq_nil_of_length_eq_zero h
    subst this
    simp [val]
  | n + 1, bs, hb, h => by
    have hne : bs ≠ [] := by rintro rfl; simp at h
    obtain ⟨ys, y, rfl⟩ : ∃ ys y, bs = ys ++ [y] := ⟨bs.dropLast, bs.getLast hne, (List.dropLast_concat_getLast hne).symm⟩
    have h1 := val_lt n ys (fun b hb' => hb b (by simp [hb'])) (by simpa using h)
    have h2 := hb y (by simp)
    rw [val_snoc, Nat.pow_succ]
    omega
theorem val_take {bs : List Nat} {k x : Nat} (hx : bs[k]? = some x) : val (bs.take (k + 1)) = val (bs.take k) * 256 + x := by
  obtain ⟨hk, rfl⟩ := List.getElem?_eq_some_iff.1 hx
  rw [List.take_succ_eq_append_getElem hk, val_snoc]
/-- A byte put behind. -/
theorem shl8_or (v c : Nat) (hv : v < 72057594037927936) (hc : c < 256) : bits .or .u64 ((v : Int) * 256) (c : Int) = ((v * 256 + c : Nat) : Int) := by
  have e1 : ((v : Int) * 256) = ((v * 256 : Nat) : Int) := by omega
  rw [e1, u64_or_nat _ _ (by omega) (by omega), nat_join 8 (v * 256) c (by omega) (by omega)]

set_option maxHeartbeats 400000 in
set_option maxRecDepth 100000 in
theorem byte_r (base g : Nat) (v : Value) (s : Rs) (w : World) (h : Rdr base w 88 Rs.cells g v s) :
    Calls Tryz.prog 26 #[.pointer (some ⟨g, 0, none⟩)] w (Gave base w 88 Rs.cells g v (.int .u8 ((s.take 1).1.headD 0 : Nat)) (s.take 1).2) := by
  have P1 := Lib.hid (take_is base g v s 1 w h)
  unfold Took at P1
  obtain ⟨q, hq⟩ : ∃ q, q = s.take 1 := ⟨_, rfl⟩
  rw [← hq] at P1 ⊢
  clear h hq
  obtain ⟨bs, s'⟩ := q
  simp only at P1 ⊢
  cases bs with
  | nil =>
    go_enter Tryz.func26, Tryz.ntmps26
    go_wp2_with (go_at_call 69; refine P1.out.mono ?_; rintro r w1 ⟨A1, c1, rfl, _, hr1, ht1⟩; have HT := Lib.hid ht1; clear hr1 ht1)
    go_loop [8] (fun i => i = .int .i64 0) (fun i => 0)
    case atStart => rfl
    case round =>
      subst hrel
      go_wp2
      go_ret
      exact ⟨rfl, HT.out⟩
  | cons x rest =>
    obtain ⟨m, hm⟩ : ∃ m, m = (x :: rest).length := ⟨_, rfl⟩
    rw [← hm] at P1
    have i1 : (0 : Int) < (m : Int) := by simp only [List.length_cons] at hm; omega
    clear hm
    go_enter Tryz.func26, Tryz.ntmps26
    go_wp2_with (go_at_call 69; refine P1.out.mono ?_; rintro r w1 ⟨A1, c1, rfl, hc1, hr1, ht1⟩; have HT := Lib.hid ht1; have HR := Lib.hid hr1; clear hr1 ht1)
    obtain ⟨gA, off, rfl, hgA, hcell⟩ := HR.out (by simp [b8])
    have d0 := hcell 0 (.int .u8 (x : Int)) (by simp [b8])
    rw [Nat.add_zero] at d0
    clear hcell
    go_loop [8] (fun i => i = .int .i64 0) (fun i => 0)
    case atStart => rfl
    case round =>
      subst hrel
      go_wp2
      go_ret
      exact ⟨rfl, HT.out⟩
set_option maxHeartbeats 400000 in
set_option maxRecDepth 100000 in
theorem fixed_r (base g : Nat) (v : Value) (s : Rs) (n : Nat) (w : World) (h : Rdr base w 88 Rs.cells g v s) (hn : n ≤ 8) :
    Calls Tryz.prog 98 #[.pointer (some ⟨g, 0, none⟩), .int .i64 (n : Int)] w (Gave base w 88 Rs.cells g v (.int .u64 (val (s.take n).1 : Nat)) (s.take n).2) := by
  have P1 := Lib.hid (take_is base g v s n w h)
  unfold Took at P1
  have hby := s.take_by h.ok n
  have hlen : (s.take n).1.length ≤ 8 := by
    unfold Rs.take
    split
    · simp
    split
    · simp
    split
    · simp
    · simp only [List.length_take]; omega
  obtain ⟨q, hq⟩ : ∃ q, q = s.take n := ⟨_, rfl⟩
  rw [← hq] at P1 hby hlen ⊢
  clear h hq
  obtain ⟨bs, s'⟩ := q
  simp only at P1 hby hlen ⊢
  obtain ⟨m, hm⟩ : ∃ m, m = bs.length := ⟨_, rfl⟩
  rw [← hm] at P1 hlen
  have HM := Lib.hid hm
  have HY := Lib.hid hby
  clear hm hby
  go_enter Tryz.func98, Tryz.ntmps98
  go_wp2_with (go_at_call 69; refine P1.out.mono ?_; rintro r w1 ⟨A1, c1, rfl, hc1, hr1, ht1⟩; have HT := Lib.hid ht1; have HR := Lib.hid hr1; clear hr1 ht1)
  go_loop [5, 12] (fun x i => ∃ k : Nat, k ≤ m ∧ i = .int .i64 k ∧ x = .int .u64 (val (bs.take k) : Nat)) (fun _ i => m - (intOf i).toNat)
  case atStart => exact ⟨0, Nat.zero_le _, rfl, rfl⟩
  case round =>
    obtain ⟨k, hk, rfl, rfl⟩ := hrel
    by_cases hlt : k < m
    · obtain ⟨x, hx⟩ : ∃ x, bs[k]? = some x := ⟨_, List.getElem?_eq_getElem (by rw [← HM.out]; exact hlt)⟩
      have hxl := HY.out x (List.mem_of_getElem? hx)
      obtain ⟨gA, off, rfl, hgA, hcell⟩ := HR.out (by rintro e; have : bs = [] := (by simpa [b8] using e); subst this; simp at hx)
      have d0 := hcell k (.int .u8 (x : Int)) (by rw [b8_get, hx]; rfl)
      have hv := val_lt k (bs.take k) (fun b hb => HY.out b (List.mem_of_mem_take hb)) (by simp; rw [← HM.out]; omega)
      have hv2 : val (bs.take k) < 72057594037927936 := by
        have h2 : (256 : Nat) ^ k ≤ 256 ^ 7 := Nat.pow_le_pow_right (by omega) (by omega)
        have h3 : (256 : Nat) ^ 7 = 72057594037927936 := by decide
        omega
      have HV := Lib.hid (val_take hx)
      obtain ⟨z, hz⟩ : ∃ z, z = val (bs.take k) := ⟨_, rfl⟩
      rw [← hz] at HV hv2 ⊢
      have e1 := shl8_or z x hv2 hxl
      clear hcell hx hv hz
      go_wp2
      go_round
      case rel => exact ⟨k + 1, by omega, by go_num, by rw [HV.out]; go_num⟩
      case measure => simp [intOf]; omega
    · have e0 : bs.take k = bs := List.take_of_length_le (by rw [← HM.out]; omega)
      rw [e0]
      clear e0
      go_wp2
      go_ret
      exact ⟨rfl, HT.out⟩

theorem Rs.take_len4 (s : Rs) (n : Nat) : (s.take n).1.length ≤ n := by
  unfold Rs.take
  split
  · simp
  split
  · simp
  split
  · simp
  · simp only [List.length_take]; omega
theorem Rs.val4 {s : Rs} (h : s.Ok) : val (s.take 4).1 < 4294967296 := by
  have h1 := val_lt _ _ (s.take_by h 4) rfl
  have h2 := s.take_len4 4
  have h3 : (256 : Nat) ^ (s.take 4).1.length ≤ 256 ^ 4 := Nat.pow_le_pow_right (by omega) h2
  have h4 : (256 : Nat) ^ 4 = 4294967296 := by decide
  omega
set_option maxRecDepth 100000 in
theorem u32_r (base g : Nat) (v : Value) (s : Rs) (w : World) (h : Rdr base w 88 Rs.cells g v s) :
    Calls Tryz.prog 66 #[.pointer (some ⟨g, 0, none⟩)] w (Gave base w 88 Rs.cells g v (.int .u32 (val (s.take 4).1 : Nat)) (s.take 4).2) := by
  have P1 := Lib.hid (fixed_r base g v s 4 w h (by omega))
  unfold Gave at P1 ⊢
  have hv := Rs.val4 h.ok
  have e4 : (((4 : Nat) : Int)) = 4 := rfl
  rw [e4] at P1
  obtain ⟨q, hq⟩ : ∃ q, q = s.take 4 := ⟨_, rfl⟩
  rw [← hq] at P1 hv ⊢
  obtain ⟨z, hz⟩ : ∃ z, z = val q.1 := ⟨_, rfl⟩
  rw [← hz] at P1 hv ⊢
  clear h hq hz e4
  go_enter Tryz.func66, Tryz.ntmps66
  go_wp2_with (go_at_call 98; refine P1.out.mono ?_; rintro r w1 ⟨rfl, ht⟩; have HT := Lib.hid ht; clear ht)
  go_ret
  exact ⟨rfl, HT.out⟩
end Go.Proofs.YtljfmcgeiceagaaGreat
