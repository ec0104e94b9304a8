/- What is known of memory: slices that read as lists, blocks known whole. -/
import Derived.WalkKit
import Derived.WalkLawsBesides
import Derived.WalkSpells
import Derived.Lib.Hide
import Derived.Deep.Draws
import Derived.Deep.LoopGhost
import Derived.Deep.QuietTactic
import Derived.BigQuiet
import Derived.Maps.AppendAt
import Derived.Deep.AppendLies
import Derived.Outline
namespace Go.Proofs.Ythcmkjiemlfpcaa
open Go Go.RowKit

/-- A slice's address and its cells: nothing is asked of an empty one. -/
def Rd (w : World) (A : Option Addr) (xs : List Value) : Prop :=
  xs ≠ [] → ∃ g off, A = some ⟨g, off, none⟩ ∧ g < w.heap.size ∧ ∀ k u, xs[k]? = some u → w.cell? ⟨g, off + k, none⟩ = some u

theorem Rd.nil_ (w : World) (A : Option Addr) : Rd w A [] := fun h => absurd rfl h

theorem Rd.below {w w' : World} {A : Option Addr} {xs : List Value} (h : Rd w A xs) (hb : Below w.heap.size w w') : Rd w' A xs := by
  intro hn
  obtain ⟨g, off, e, hg, hc⟩ := h hn
  exact ⟨g, off, e, Nat.lt_of_lt_of_le hg hb.size, fun k u hu => (hb.cell (p := ⟨g, off + k, none⟩) hg).trans (hc k u hu)⟩

theorem Rd.take_ {w : World} {A : Option Addr} {xs : List Value} (h : Rd w A xs) (n : Nat) : Rd w A (xs.take n) := by
  intro hn
  obtain ⟨g, off, e, hg, hc⟩ := h (by rintro rfl; simp at hn)
  refine ⟨g, off, e, hg, fun k u hu => hc k u ?_⟩
  rw [List.getElem?_take] at hu
  split at hu
  · exact hu
  · cases hu

theorem undrew {B : Nat} {w w' : World} (h : Below B w.drew w') : Below B w w' := ⟨h.os, h.tape, h.output, h.size, h.block⟩
theorem undrewN {B n : Nat} {w w' : World} (h : Below B (w.drewN n) w') : Below B w w' := ⟨h.os, h.tape, h.output, h.size, h.block⟩
theorem below_drewN {B : Nat} {a w : World} (h : Below B a w) (n : Nat) : Below B a (w.drewN n) := ⟨h.os, h.tape, h.output, h.size, h.block⟩

theorem ret_i {k : IntKind} {a b : Int} (h : a = b) : Ending.returned (.int k a) = .returned (.int k b) := by rw [h]

/-- Bytes. -/
def b8 (bs : List Nat) : List Value := bs.map fun (b : Nat) => Value.int .u8 (b : Int)

theorem b8_length (bs : List Nat) : (b8 bs).length = bs.length := by simp [b8]
theorem b8_get (bs : List Nat) (k : Nat) : (b8 bs)[k]? = (bs[k]?).map fun (b : Nat) => Value.int .u8 (b : Int) := by simp [b8]
theorem b8_append (xs bs : List Nat) : b8 (xs ++ bs) = b8 xs ++ b8 bs := by simp [b8]
theorem b8_take (bs : List Nat) (n : Nat) : b8 (bs.take n) = (b8 bs).take n := by simp [b8, List.map_take]
theorem b8_drop (bs : List Nat) (n : Nat) : b8 (bs.drop n) = (b8 bs).drop n := by simp [b8, List.map_drop]

/-- All of them bytes. -/
def By (bs : List Nat) : Prop := ∀ b ∈ bs, b < 256

theorem By.of_all {bs : List Nat} (h : bs.all (fun b => decide (b < 256)) = true) : By bs := fun b hb => by simpa using List.all_eq_true.1 h b hb
theorem By.append {l r : List Nat} (h : By l) (k : By r) : By (l ++ r) := fun b hb => by
  rcases List.mem_append.1 hb with hb | hb
  · exact h b hb
  · exact k b hb
theorem By.take {l : List Nat} (h : By l) (n : Nat) : By (l.take n) := fun b hb => h b (List.mem_of_mem_take hb)
theorem By.drop {l : List Nat} (h : By l) (n : Nat) : By (l.drop n) := fun b hb => h b (List.mem_of_mem_drop hb)

theorem By.get {bs : List Nat} (h : By bs) {k : Nat} (hk : k < bs.length) : ∃ c, bs[k]? = some c ∧ c < 256 ∧ bs.drop k = c :: bs.drop (k + 1) :=
  ⟨bs[k], List.getElem?_eq_getElem hk, h _ (List.getElem_mem hk), List.drop_eq_getElem_cons hk⟩

/-- The cell of a byte. -/
theorem Rd.at_ {w : World} {A : Option Addr} {bs : List Nat} (h : Rd w A (b8 bs)) {k c : Nat} (hk : bs[k]? = some c) :
    ∃ g off, A = some ⟨g, off, none⟩ ∧ g < w.heap.size ∧ w.cell? ⟨g, off + k, none⟩ = some (.int .u8 (c : Int)) := by
  have hne : b8 bs ≠ [] := by
    intro e
    have : bs = [] := by simpa [b8] using e
    rw [this] at hk
    simp at hk
  obtain ⟨g, off, e, hg, hc⟩ := h hne
  exact ⟨g, off, e, hg, hc k _ (by rw [b8_get, hk]; rfl)⟩

end Go.Proofs.Ythcmkjiemlfpcaa
