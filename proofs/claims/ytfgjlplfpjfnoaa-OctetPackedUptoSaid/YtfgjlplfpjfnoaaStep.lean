/- Steps of writers and readers. -/
import Derived.Test.YtfgjlplfpjfnoaaWr4
import Derived.Test.YtfgjlplfpjfnoaaOwnL
namespace Go.Proofs.Ytfgjlplfpjfnoaa
open Go Go.RowKit
set_option linter.unusedVariables false

/-- A step: its kind, its number, its text. -/
structure Stp where
  k : Int
  n : Nat
  s : ByteArray

def Stp.cells (x : Stp) : List Value := [.int .i64 x.k, .int .u64 (x.n : Int), .string x.s]
def Stp.val (x : Stp) : Value := .agg #[.int .i64 x.k, .int .u64 (x.n : Int), .string x.s]
def Stp.Ok (x : Stp) : Prop := (-9223372036854775808 ≤ x.k ∧ x.k ≤ 9223372036854775807) ∧ x.n < 18446744073709551616 ∧ x.s.size ≤ 140737488351232

/-- A number of 64 bits, signed. -/
def sg (n : Nat) : Int := if n < 9223372036854775808 then (n : Int) else (n : Int) - 18446744073709551616
theorem sg_in {n : Nat} (h : n < 18446744073709551616) : -9223372036854775808 ≤ sg n ∧ sg n ≤ 9223372036854775807 := by
  unfold sg
  split <;> omega
theorem wrap_sg {n : Nat} (h : n < 18446744073709551616) : IntKind.i64.wrap (n : Int) = sg n := by
  rw [IntKind.wrap_i64]
  unfold sg
  split <;> omega
theorem wrap_u8 (n : Nat) : IntKind.u8.wrap (n : Int) = ((n % 256 : Nat) : Int) := by
  simp [IntKind.wrap, IntKind.bits, IntKind.signed]
theorem wrap_u32 (n : Nat) : IntKind.u32.wrap (n : Int) = ((n % 4294967296 : Nat) : Int) := by
  simp [IntKind.wrap, IntKind.bits, IntKind.signed]

/-- What a writer writes at a step. -/
def Stp.out (x : Stp) : List Nat :=
  if x.k = 0 then [x.n % 256]
  else if x.k = 1 then Uv.uv x.n
  else if x.k = 2 then Uv.uv (Uv.zig (sg x.n)).toNat
  else if x.k = 3 then fx (x.n % 4294967296) 4
  else if x.k = 4 then fx x.n 8
  else if x.k = 5 then Uv.uv x.s.size ++ sb x.s
  else if x.k = 10 then sb x.s
  else []

theorem Stp.out_len (x : Stp) (h : x.Ok) : x.out.length ≤ 10 + x.s.size := by
  obtain ⟨k, n, s⟩ := x
  obtain ⟨_, h2, h3⟩ := h
  simp only at h2 h3
  unfold Stp.out
  simp only
  split
  · simp; omega
  split
  · have := Uv.uv_len_64 n h2
    omega
  split
  · have := Uv.uv_len_64 (Uv.zig (sg n)).toNat (zig_nat (sg n) (sg_in h2)).2
    omega
  split
  · rw [fx_length]; omega
  split
  · rw [fx_length]; omega
  split
  · have := Uv.uv_len_64 s.size (by omega)
    rw [List.length_append, sb_length]
    omega
  split
  · rw [sb_length]; omega
  · simp

/-- The step in its block. -/
def Bx3 (W : World) (g : Nat) (x : Stp) : Prop := W.heap[g]? = some (.cells #[.int .i64 x.k, .int .u64 (x.n : Int), .string x.s] 55 (0, 0))
theorem Bx3.facts {W : World} {g : Nat} {x : Stp} (h : Bx3 W g x) : W.cell? ⟨g, 0, none⟩ = some (.int .i64 x.k) ∧ W.cell? ⟨g, 1, none⟩ = some (.int .u64 (x.n : Int)) ∧ W.cell? ⟨g, 2, none⟩ = some (.string x.s) :=
  ⟨cell_of_row W g 0 _ _ _ h, cell_of_row W g 1 _ _ _ h, cell_of_row W g 2 _ _ _ h⟩
theorem Bx3.new (w : World) (x : Stp) : Bx3 (w.alloc (.cells #[.int .i64 x.k, .int .u64 (x.n : Int), .string x.s] 55)) w.heap.size x := heap_alloc_new w _
theorem Bx3.below {W W' : World} {g B : Nat} {x : Stp} (h : Bx3 W g x) (hb : Below B W W') (hg : g < B) : Bx3 W' g x := (hb.block g hg).trans h

/-! Two writers that write the same. -/

/-- Blocks of both. -/
def Foot (g1 : Nat) (v1 : Value) (g2 : Nat) (v2 : Value) (k : Nat) : Prop := k = g1 ∨ k = g2 ∨ v1.ownBlock = some k ∨ v2.ownBlock = some k

structure KeptS (w w' : World) (S : Nat → Prop) : Prop where
  os : w'.os = w.os
  tape : w'.tape = w.tape
  output : w'.output = w.output
  size : w.heap.size ≤ w'.heap.size
  block : ∀ k, k < w.heap.size → ¬ S k → w'.heap[k]? = w.heap[k]?
theorem KeptS.refl (w : World) (S : Nat → Prop) : KeptS w w S := ⟨rfl, rfl, rfl, Nat.le_refl _, fun _ _ _ => rfl⟩
theorem KeptS.trans {a b c : World} {S S' : Nat → Prop} (h : KeptS a b S) (k : KeptS b c S') (hS : ∀ q, S' q → S q ∨ a.heap.size ≤ q) : KeptS a c S :=
  ⟨k.os.trans h.os, k.tape.trans h.tape, k.output.trans h.output, Nat.le_trans h.size k.size, fun i hi hn => (k.block i (Nat.lt_of_lt_of_le hi h.size) (fun e => by
    rcases hS i e with e | e
    · exact hn e
    · omega)).trans (h.block i hi hn)⟩
theorem KeptS.of_below {a b : World} (h : Below a.heap.size a b) (S : Nat → Prop) : KeptS a b S := ⟨h.os, h.tape, h.output, h.size, fun k hk _ => h.block k hk⟩
theorem KeptS.of_grown {a b : World} {r : Option Nat} {S : Nat → Prop} (h : a.grownBy b r) (hr : ∀ q, r = some q → S q) : KeptS a b S :=
  ⟨h.os, h.tape, h.output, h.size, fun k hk hn => h.block k hk (fun e => hn (hr k e.symm))⟩
theorem KeptS.of2 {a b : World} {g : Nat} {r : Option Nat} {S : Nat → Prop} (h : Kept2 a b g r) (hg : S g) (hr : ∀ q, r = some q → S q) : KeptS a b S :=
  ⟨h.os, h.tape, h.output, h.size, fun k hk hn => h.block k hk (fun e => hn (e ▸ hg)) (fun e => hn (hr k e.symm))⟩
theorem KeptS.below {a b : World} {S : Nat → Prop} {B : Nat} (h : KeptS a b S) (hS : ∀ q, S q → B ≤ q) (hB : B ≤ a.heap.size) : Below B a b :=
  ⟨h.os, h.tape, h.output, h.size, fun k hk => h.block k (by omega) (fun e => by have := hS k e; omega)⟩
theorem KeptS.mono {a b : World} {S S' : Nat → Prop} (h : KeptS a b S) (hS : ∀ q, S q → S' q) : KeptS a b S' := ⟨h.os, h.tape, h.output, h.size, fun k hk hn => h.block k hk (fun e => hn (hS k e))⟩

structure Two (base : Nat) (W : World) (g1 : Nat) (v1 : Value) (xs : List Nat) (g2 : Nat) (v2 : Value) (ys : List Nat) : Prop where
  a : Wr base W 50 g1 v1 xs
  b : Wr base W 58 g2 v2 ys
  ne : g1 ≠ g2
  n12 : v1.ownBlock ≠ some g2
  n21 : v2.ownBlock ≠ some g1
  nv : ∀ q, v1.ownBlock = some q → v2.ownBlock ≠ some q

section
variable {base : Nat} {W : World} {g1 g2 : Nat} {v1 v2 : Value} {xs ys : List Nat}
theorem Wr.ownLt {T : TypeId} {g : Nat} {v : Value} (h : Wr base W T g v xs) : ∀ k, v.ownBlock = some k → base ≤ k ∧ k < W.heap.size := h.own.lt
theorem Wr.hb {T : TypeId} {g : Nat} {v : Value} (h : Wr base W T g v xs) : base ≤ W.heap.size := Nat.le_trans h.gb (Nat.le_of_lt h.lt)
theorem Two.foot (h : Two base W g1 v1 xs g2 v2 ys) : ∀ k, Foot g1 v1 g2 v2 k → base ≤ k ∧ k < W.heap.size := by
  intro k hk
  rcases hk with rfl | rfl | e | e
  · exact ⟨h.a.gb, h.a.lt⟩
  · exact ⟨h.b.gb, h.b.lt⟩
  · exact h.a.ownLt k e
  · exact h.b.ownLt k e
theorem Two.kept {W' : World} {S : Nat → Prop} (h : Two base W g1 v1 xs g2 v2 ys) (hk : KeptS W W' S) (hS : ∀ k, Foot g1 v1 g2 v2 k → ¬ S k) : Two base W' g1 v1 xs g2 v2 ys := by
  have key : ∀ {T : TypeId} {g : Nat} {v : Value} {xs : List Nat}, Wr base W T g v xs → ¬ S g → (∀ q, v.ownBlock = some q → ¬ S q) → Wr base W' T g v xs := by
    intro T g v xs h hg hv
    refine ⟨(hk.block g h.lt hg).trans h.cell, ⟨h.own.1, ?_⟩, h.ne, h.gb⟩
    rcases h.own.2 with hn | ⟨q, cap, cur, e, hb, hh, rest⟩
    · exact .inl hn
    · exact .inr ⟨q, cap, cur, e, hb, (hk.block q (Array.getElem?_eq_some_iff.1 hh).1 (hv q (by rw [e]; rfl))).trans hh, rest⟩
  exact ⟨key h.a (hS g1 (.inl rfl)) (fun q e => hS q (.inr (.inr (.inl e)))), key h.b (hS g2 (.inr (.inl rfl))) (fun q e => hS q (.inr (.inr (.inr e)))), h.ne, h.n12, h.n21, h.nv⟩
theorem Two.below {W' : World} (h : Two base W g1 v1 xs g2 v2 ys) (hb : Below W.heap.size W W') : Two base W' g1 v1 xs g2 v2 ys :=
  h.kept (KeptS.of_below hb (fun _ => False)) (fun _ _ h => h)
theorem Two.left {W' : World} {zs : List Nat} {e : Ending} (h : Two base W g1 v1 xs g2 v2 ys) (hw : Wrote base W 50 g1 v1 zs e W') :
    ∃ v', e = .returned (.tuple #[]) ∧ Two base W' g1 v' zs g2 v2 ys ∧ KeptS W W' (Foot g1 v1 g2 v2) ∧ ∀ k, Foot g1 v' g2 v2 k → Foot g1 v1 g2 v2 k ∨ W.heap.size ≤ k := by
  obtain ⟨v', he, hw, hk, hn⟩ := hw
  have hb := h.b.kept hk (fun e => h.ne e.symm) (fun e => h.n12 e.symm) (fun q hq => ⟨fun e => h.n21 (e ▸ hq), fun e => h.nv q e.symm hq⟩)
  refine ⟨v', he, ⟨hw, hb, h.ne, ?_, h.n21, ?_⟩, KeptS.of2 hk (.inl rfl) (fun q hq => .inr (.inr (.inl hq))), ?_⟩
  · rcases hn with hn | ⟨q, hn, hq⟩
    · rw [hn]; exact h.n12
    · rw [hn]; intro e; injection e with e; have := h.b.lt; omega
  · intro q hq e
    rcases hn with hn | ⟨q', hn, hq'⟩
    · exact h.nv q (hn ▸ hq) e
    · rw [hn] at hq; injection hq with hq; have := (h.b.ownLt q e).2; omega
  · intro k hk
    rcases hk with rfl | rfl | e | e
    · exact .inl (.inl rfl)
    · exact .inl (.inr (.inl rfl))
    · rcases hn with hn | ⟨q', hn, hq'⟩
      · exact .inl (.inr (.inr (.inl (hn ▸ e))))
      · rw [hn] at e; injection e with e; exact .inr (by omega)
    · exact .inl (.inr (.inr (.inr e)))
theorem Two.right {W' : World} {zs : List Nat} {e : Ending} (h : Two base W g1 v1 xs g2 v2 ys) (hw : Wrote base W 58 g2 v2 zs e W') :
    ∃ v', e = .returned (.tuple #[]) ∧ Two base W' g1 v1 xs g2 v' zs ∧ KeptS W W' (Foot g1 v1 g2 v2) ∧ ∀ k, Foot g1 v1 g2 v' k → Foot g1 v1 g2 v2 k ∨ W.heap.size ≤ k := by
  obtain ⟨v', he, hw, hk, hn⟩ := hw
  have hb := h.a.kept hk h.ne (fun e => h.n21 e.symm) (fun q hq => ⟨fun e => h.n12 (e ▸ hq), fun e => h.nv q hq e.symm⟩)
  refine ⟨v', he, ⟨hb, hw, h.ne, h.n12, ?_, ?_⟩, KeptS.of2 hk (.inr (.inl rfl)) (fun q hq => .inr (.inr (.inr hq))), ?_⟩
  · rcases hn with hn | ⟨q, hn, hq⟩
    · rw [hn]; exact h.n21
    · rw [hn]; intro e; injection e with e; have := h.a.lt; omega
  · intro q hq e
    rcases hn with hn | ⟨q', hn, hq'⟩
    · exact h.nv q hq (hn ▸ e)
    · rw [hn] at e; injection e with e; have := (h.a.ownLt q hq).2; omega
  · intro k hk
    rcases hk with rfl | rfl | e | e
    · exact .inl (.inl rfl)
    · exact .inl (.inr (.inl rfl))
    · exact .inl (.inr (.inr (.inl e)))
    · rcases hn with hn | ⟨q', hn, hq'⟩
      · exact .inl (.inr (.inr (.inr (hn ▸ e))))
      · rw [hn] at e; injection e with e; exact .inr (by omega)
end

/-- On the way: from world w0 and the rows that stood there, to world W. -/
structure On2 (base : Nat) (w0 : World) (g1 : Nat) (a1 : Value) (g2 : Nat) (a2 : Value) (W : World) (v1 : Value) (xs : List Nat) (v2 : Value) (ys : List Nat) : Prop where
  two : Two base W g1 v1 xs g2 v2 ys
  kept : KeptS w0 W (Foot g1 a1 g2 a2)
  foot : ∀ k, Foot g1 v1 g2 v2 k → Foot g1 a1 g2 a2 k ∨ w0.heap.size ≤ k

section
variable {base : Nat} {w0 W : World} {g1 g2 : Nat} {a1 a2 v1 v2 : Value} {xs ys : List Nat}
theorem Two.on (h : Two base W g1 v1 xs g2 v2 ys) : On2 base W g1 v1 g2 v2 W v1 xs v2 ys := ⟨h, KeptS.refl _ _, fun _ h => .inl h⟩
theorem On2.below {W' : World} (h : On2 base w0 g1 a1 g2 a2 W v1 xs v2 ys) (hb : Below W.heap.size W W') : On2 base w0 g1 a1 g2 a2 W' v1 xs v2 ys :=
  ⟨h.two.below hb, h.kept.trans (KeptS.of_below hb (fun _ => False)) (fun _ h => h.elim), h.foot⟩
theorem On2.left {W' : World} {zs : List Nat} {e : Ending} (h : On2 base w0 g1 a1 g2 a2 W v1 xs v2 ys) (hw : Wrote base W 50 g1 v1 zs e W') :
    ∃ v', e = .returned (.tuple #[]) ∧ On2 base w0 g1 a1 g2 a2 W' v' zs v2 ys := by
  obtain ⟨v', he, h1, h2, h3⟩ := h.two.left hw
  refine ⟨v', he, h1, h.kept.trans h2 h.foot, fun k hk => ?_⟩
  rcases h3 k hk with h4 | h4
  · exact h.foot k h4
  · exact .inr (Nat.le_trans h.kept.size h4)
theorem On2.right {W' : World} {zs : List Nat} {e : Ending} (h : On2 base w0 g1 a1 g2 a2 W v1 xs v2 ys) (hw : Wrote base W 58 g2 v2 zs e W') :
    ∃ v', e = .returned (.tuple #[]) ∧ On2 base w0 g1 a1 g2 a2 W' v1 xs v' zs := by
  obtain ⟨v', he, h1, h2, h3⟩ := h.two.right hw
  refine ⟨v', he, h1, h.kept.trans h2 h.foot, fun k hk => ?_⟩
  rcases h3 k hk with h4 | h4
  · exact h.foot k h4
  · exact .inr (Nat.le_trans h.kept.size h4)
/-- A block beside them. -/
theorem On2.block {k : Nat} (h : On2 base w0 g1 a1 g2 a2 W v1 xs v2 ys) (hk : k < w0.heap.size) (hn : ¬ Foot g1 a1 g2 a2 k) : W.heap[k]? = w0.heap[k]? := h.kept.block k hk hn
theorem On2.then {w1 : World} {b1 b2 : Value} {us vs : List Nat} (h : On2 base w0 g1 a1 g2 a2 w1 b1 us b2 vs) (h' : On2 base w1 g1 b1 g2 b2 W v1 xs v2 ys) : On2 base w0 g1 a1 g2 a2 W v1 xs v2 ys := by
  refine ⟨h'.two, h.kept.trans h'.kept h.foot, fun k hk => ?_⟩
  rcases h'.foot k hk with h4 | h4
  · exact h.foot k h4
  · exact .inr (Nat.le_trans h.kept.size h4)
/-- The step's block, all along. -/
theorem On2.bx {w : World} {x : Stp} (h0 : Two base w g1 a1 xs g2 a2 ys) {us vs : List Nat} (h : On2 base (w.alloc (.cells #[.int .i64 x.k, .int .u64 (x.n : Int), .string x.s] 55)) g1 a1 g2 a2 W v1 us v2 vs) : Bx3 W w.heap.size x := by
  refine (h.block (by simp) (fun hf => ?_)).trans (Bx3.new w x)
  have := (h0.foot _ hf).2
  omega
theorem On2.out {w : World} {o : Obj} {us vs : List Nat} (h0 : Two base w g1 a1 xs g2 a2 ys) (h : On2 base (w.alloc o) g1 a1 g2 a2 W v1 us v2 vs) : On2 base w g1 a1 g2 a2 W v1 us v2 vs := by
  exact (h0.on.below ((Below.refl _ _).alloc (Nat.le_refl _) o)).then h
end

end Go.Proofs.Ytfgjlplfpjfnoaa
