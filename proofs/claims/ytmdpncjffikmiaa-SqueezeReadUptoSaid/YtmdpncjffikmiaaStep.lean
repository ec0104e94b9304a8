/- Steps of writers and readers. -/
import Derived.Test.YtmdpncjffikmiaaWr4
import Derived.Test.YtmdpncjffikmiaaOwnL
namespace Go.Proofs.Ytmdpncjffikmiaa
open Go Go.RowKit
set_option linter.unusedVariables false

/-- A step: its kind, its number, its text. -/
structure Stp where
  k : Int
  n : Nat
  s : ByteArray

def Stp.cells (x : Stp) : List Value := [.int .i64 x.k, .int .u64 (x.n : Int), .string x.s]
def Stp.val (x : Stp) : Value := .agg #[.int .i64 x.k, .int .u64 (x.n : Int), .string x.s]
def Stp.Ok (x : Stp) : Prop := (-9223372036854775808 ≤ x.k ∧ x.k ≤ 9223372036854775807) ∧ x.n < 18446744073709551616 ∧ x.s.size ≤ 140737488351232

/-- A number of 64 bits, signed. -/
def sg (n : Nat) : Int := if n < 9223372036854775808 then (n : Int) else (n : Int) - 18446744073709551616
theorem sg_in {n : Nat} (h : n < 18446744073709551616) : -9223372036854775808 ≤ sg n ∧ sg n ≤ 9223372036854775807 := by
  unfold sg
  split <;> omega
theorem wrap_sg {n : Nat} (h : n < 18446744073709551616) : IntKind.i64.wrap (n : Int) = sg n := by
  rw [IntKind.wrap_i64]
  unfold sg
  split <;> omega
theorem wrap_u8 (n : Nat) : IntKind.u8.wrap (n : Int) = ((n % 256 : Nat) : Int) := by
  simp [IntKind.wrap, IntKind.bits, IntKind.signed]
theorem wrap_u32 (n : Nat) : IntKind.u32.wrap (n : Int) = ((n % 4294967296 : Nat) : Int) := by
  simp [IntKind.wrap, IntKind.bits, IntKind.signed]

/-- What a writer writes at a step. -/
def Stp.out (x : Stp) : List Nat :=
  if x.k = 0 then [x.n % 256]
  else if x.k = 1 then Uv.uv x.n
  else if x.k = 2 then Uv.uv (Uv.zig (sg x.n)).toNat
  else if x.k = 3 then fx (x.n % 4294967296) 4
  else if x.k = 4 then fx x.n 8
  else if x.k = 5 then Uv.uv x.s.size ++ sb x.s
  else if x.k = 10 then sb x.s
  else []

theorem Stp.out_len (x : Stp) (h : x.Ok) : x.out.length ≤ 10 + x.s.size := by
  obtain ⟨k, n, s⟩ := x
  obtain ⟨_, h2, h3⟩ := h
  simp only at h2 h3
  unfold Stp.out
  simp only
  split
  · simp; omega
  split
  · have := Uv.uv_len_64 n h2
    omega
  split
  · have := Uv.uv_len_64 (Uv.zig (sg n)).toNat (zig_nat (sg n) (sg_in h2)).2
    omega
  split
  · rw [fx_length]; omega
  split
  · rw [fx_length]; omega
  split
  · have := Uv.uv_len_64 s.size (by omega)
    rw [List.length_append, sb_length]
    omega
  split
  · rw [sb_length]; omega
  · simp

/-! Two writers that write the same. -/

/-- Blocks of both. -/
def Foot (g1 : Nat) (v1 : Value) (g2 : Nat) (v2 : Value) (k : Nat) : Prop := k = g1 ∨ k = g2 ∨ v1.ownBlock = some k ∨ v2.ownBlock = some k

structure KeptS (w w' : World) (S : Nat → Prop) : Prop where
  os : w'.os = w.os
  tape : w'.tape = w.tape
  output : w'.output = w.output
  size : w.heap.size ≤ w'.heap.size
  block : ∀ k, k < w.heap.size → ¬ S k → w'.heap[k]? = w.heap[k]?
theorem KeptS.refl (w : World) (S : Nat → Prop) : KeptS w w S := ⟨rfl, rfl, rfl, Nat.le_refl _, fun _ _ _ => rfl⟩
theorem KeptS.trans {a b c : World} {S S' : Nat → Prop} (h : KeptS a b S) (k : KeptS b c S') (hS : ∀ q, S' q → S q ∨ a.heap.size ≤ q) : KeptS a c S :=
  ⟨k.os.trans h.os, k.tape.trans h.tape, k.output.trans h.output, Nat.le_trans h.size k.size, fun i hi hn => (k.block i (Nat.lt_of_lt_of_le hi h.size) (fun e => by
    rcases hS i e with e | e
    · exact hn e
    · omega)).trans (h.block i hi hn)⟩
theorem KeptS.of_below {a b : World} (h : Below a.heap.size a b) (S : Nat → Prop) : KeptS a b S := ⟨h.os, h.tape, h.output, h.size, fun k hk _ => h.block k hk⟩
theorem KeptS.of_grown {a b : World} {r : Option Nat} {S : Nat → Prop} (h : a.grownBy b r) (hr : ∀ q, r = some q → S q) : KeptS a b S :=
  ⟨h.os, h.tape, h.output, h.size, fun k hk hn => h.block k hk (fun e => hn (hr k e.symm))⟩
theorem KeptS.of2 {a b : World} {g : Nat} {r : Option Nat} {S : Nat → Prop} (h : Kept2 a b g r) (hg : S g) (hr : ∀ q, r = some q → S q) : KeptS a b S :=
  ⟨h.os, h.tape, h.output, h.size, fun k hk hn => h.block k hk (fun e => hn (e ▸ hg)) (fun e => hn (hr k e.symm))⟩
theorem KeptS.below {a b : World} {S : Nat → Prop} {B : Nat} (h : KeptS a b S) (hS : ∀ q, S q → B ≤ q) (hB : B ≤ a.heap.size) : Below B a b :=
  ⟨h.os, h.tape, h.output, h.size, fun k hk => h.block k (by omega) (fun e => by have := hS k e; omega)⟩
theorem KeptS.mono {a b : World} {S S' : Nat → Prop} (h : KeptS a b S) (hS : ∀ q, S q → S' q) : KeptS a b S' := ⟨h.os, h.tape, h.output, h.size, fun k hk hn => h.block k hk (fun e => hn (hS k e))⟩

section
variable {base : Nat} {W : World} {g1 g2 : Nat} {v1 v2 : Value} {xs ys : List Nat}
theorem Wr.ownLt {T : TypeId} {g : Nat} {v : Value} (h : Wr base W T g v xs) : ∀ k, v.ownBlock = some k → base ≤ k ∧ k < W.heap.size := h.own.lt
theorem Wr.hb {T : TypeId} {g : Nat} {v : Value} (h : Wr base W T g v xs) : base ≤ W.heap.size := Nat.le_trans h.gb (Nat.le_of_lt h.lt)
end

section
variable {base : Nat} {w0 W : World} {g1 g2 : Nat} {a1 a2 v1 v2 : Value} {xs ys : List Nat}
end

end Go.Proofs.Ytmdpncjffikmiaa
