/- Readers: Byte, U32, U64. -/
import Derived.Test.YtmdpncjffikmiaaRdr2
namespace Go.Proofs.Ytmdpncjffikmiaa
open Go Go.RowKit
set_option linter.unusedVariables false
set_option linter.unusedSimpArgs false

/-- A step that gives a value. -/
def Gave (base : Nat) (w : World) (T : TypeId) (cf : Rs → Value → Array Value) (g : Nat) (v : Value) (x : Value) (s' : Rs) (r : Ending) (w' : World) : Prop := r = .returned x ∧ Turned base w T cf g v s' w'

/-- Bytes as a number. -/
def val (bs : List Nat) : Nat := bs.foldl (fun v c => v * 256 + c) 0
theorem val_snoc (bs : List Nat) (c : Nat) : val (bs ++ [c]) = val bs * 256 + c := by simp [val]
theorem val_lt : ∀ (n : Nat) (bs : List Nat), By bs → bs.length = n → val bs < 256 ^ n
  | 0, bs, _, h => by
    have : bs = [] := List.eq_nil_of_length_eq_zero h
    subst this
    simp [val]
  | n + 1, bs, hb, h => by
    have hne : bs ≠ [] := by rintro rfl; simp at h
    obtain ⟨ys, y, rfl⟩ : ∃ ys y, bs = ys ++ [y] := ⟨bs.dropLast, bs.getLast hne, (List.dropLast_concat_getLast hne).symm⟩
    have h1 := val_lt n ys (fun b hb' => hb b (by simp [hb'])) (by simpa using h)
    have h2 := hb y (by simp)
    rw [val_snoc, Nat.pow_succ]
    omega
theorem val_lt8 {bs : List Nat} (h : By bs) (hl : bs.length ≤ 8) : val bs < 18446744073709551616 := by
  have h1 := val_lt bs.length bs h rfl
  have h2 : (256 : Nat) ^ bs.length ≤ 256 ^ 8 := Nat.pow_le_pow_right (by omega) hl
  have h3 : (256 : Nat) ^ 8 = 18446744073709551616 := by decide
  omega
theorem val_take {bs : List Nat} {k x : Nat} (hx : bs[k]? = some x) : val (bs.take (k + 1)) = val (bs.take k) * 256 + x := by
  obtain ⟨hk, rfl⟩ := List.getElem?_eq_some_iff.1 hx
  rw [List.take_succ_eq_append_getElem hk, val_snoc]
/-- A byte put behind. -/
theorem shl8_or (v c : Nat) (hv : v < 72057594037927936) (hc : c < 256) : bits .or .u64 ((v : Int) * 256) (c : Int) = ((v * 256 + c : Nat) : Int) := by
  have e1 : ((v : Int) * 256) = ((v * 256 : Nat) : Int) := by omega
  rw [e1, u64_or_nat _ _ (by omega) (by omega), nat_join 8 (v * 256) c (by omega) (by omega)]

theorem Rs.take_len4 (s : Rs) (n : Nat) : (s.take n).1.length ≤ n := by
  unfold Rs.take
  split
  · simp
  split
  · simp
  split
  · simp
  · simp only [List.length_take]; omega
theorem Rs.val4 {s : Rs} (h : s.Ok) : val (s.take 4).1 < 4294967296 := by
  have h1 := val_lt _ _ (s.take_by h 4) rfl
  have h2 := s.take_len4 4
  have h3 : (256 : Nat) ^ (s.take 4).1.length ≤ 256 ^ 4 := Nat.pow_le_pow_right (by omega) h2
  have h4 : (256 : Nat) ^ 4 = 4294967296 := by decide
  omega
end Go.Proofs.Ytmdpncjffikmiaa
