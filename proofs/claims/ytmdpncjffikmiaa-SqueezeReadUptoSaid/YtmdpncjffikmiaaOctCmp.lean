/- octet.Compare, the reference's, begins: texts held against each other. -/
import Derived.Test.YtmdpncjffikmiaaApp8
import Derived.Laws.Strings
import Derived.Lib.Split
namespace Go.Proofs.Ytmdpncjffikmiaa
open Go Go.RowKit
set_option linter.unusedVariables false

/-- A text's bytes. -/
def sb (s : ByteArray) : List Nat := s.data.toList.map UInt8.toNat
theorem sb_length (s : ByteArray) : (sb s).length = s.size := by simp [sb]
theorem sb_by (s : ByteArray) : By (sb s) := fun b hb => by
  obtain ⟨c, _, rfl⟩ := List.mem_map.1 hb
  exact c.toNat_lt
theorem sb_get (s : ByteArray) (k : Nat) (h : k < s.size) : (sb s)[k]? = some (s[k]'h).toNat := by
  have h' : k < s.data.toList.length := by simpa using h
  unfold sb
  rw [List.getElem?_map, List.getElem?_eq_getElem h']
  rfl
theorem sb_drop (s : ByteArray) (k : Nat) (h : k < s.size) : (sb s).drop k = (s[k]'h).toNat :: (sb s).drop (k + 1) := by
  have h' : k < (sb s).length := by rw [sb_length]; exact h
  rw [List.drop_eq_getElem_cons h']
  congr 1
  have := sb_get s k h
  rw [List.getElem?_eq_getElem h'] at this
  exact Option.some.inj this
theorem sb_inj {s t : ByteArray} (h : sb s = sb t) : s = t := by
  unfold sb at h
  have h2 : s.data.toList = t.data.toList := by
    refine (List.map_inj_right ?_).1 h
    intro x y hxy
    exact UInt8.toNat_inj.1 hxy
  cases s; cases t
  simp at h2
  simp [h2]

theorem drew3 (w : World) (a b c : Nat) : ∃ m, ((w.drewN a).drewN b).drewN c = w.drewN m := ⟨a + (b + c), by rw [World.drewN_drewN, World.drewN_drewN]⟩

theorem sb_take (s : ByteArray) (n : Nat) : sb (s.extract 0 n) = (sb s).take n := by
  unfold sb
  rw [Lib.extract_from_zero, List.map_take]
theorem sb_eq_iff (s t : ByteArray) : (s.toList == t.toList) = decide (sb s = sb t) := by
  rw [Bool.eq_iff_iff, beq_iff_eq, decide_eq_true_eq, ByteArray.toList_eq, ByteArray.toList_eq]
  unfold sb
  constructor
  · intro h; rw [h]
  · intro h
    exact (List.map_inj_right (fun x y hxy => UInt8.toNat_inj.1 hxy)).1 h

/-- The order of texts. -/
def cmp : List Nat → List Nat → Int
  | [], [] => 0
  | [], _ :: _ => -1
  | _ :: _, [] => 1
  | x :: xs, y :: ys => if x < y then -1 else if y < x then 1 else cmp xs ys

theorem cmp_end (xs ys : List Nat) (h : xs = [] ∨ ys = []) : cmp xs ys = if xs.length < ys.length then -1 else if ys.length < xs.length then 1 else 0 := by
  rcases h with rfl | rfl
  · cases ys <;> simp [cmp]
  · cases xs <;> simp [cmp]

/-- What a step of the comparison comes to. -/
theorem cmp_step (a b : ByteArray) (k : Nat) (ha : k < a.size) (hb : k < b.size) :
    cmp ((sb a).drop k) ((sb b).drop k) = if a[k].toNat < b[k].toNat then -1 else if b[k].toNat < a[k].toNat then 1 else cmp ((sb a).drop (k + 1)) ((sb b).drop (k + 1)) := by
  rw [sb_drop a k ha, sb_drop b k hb, cmp]

theorem cmp_stop (a b : ByteArray) (k : Nat) (ha : k ≤ a.size) (hb : k ≤ b.size) (h : ¬ (k < a.size ∧ k < b.size)) :
    cmp ((sb a).drop k) ((sb b).drop k) = if a.size < b.size then -1 else if b.size < a.size then 1 else 0 := by
  rw [cmp_end]
  · simp only [List.length_drop, sb_length]
    by_cases h1 : a.size < b.size
    · rw [if_pos (by omega), if_pos h1]
    · rw [if_neg (by omega), if_neg h1]
      by_cases h2 : b.size < a.size
      · rw [if_pos (by omega), if_pos h2]
      · rw [if_neg (by omega), if_neg h2]
  · rcases (show a.size ≤ k ∨ b.size ≤ k by omega) with h | h
    · exact .inl (List.drop_eq_nil_of_le (by rw [sb_length]; exact h))
    · exact .inr (List.drop_eq_nil_of_le (by rw [sb_length]; exact h))

def begB (s p : ByteArray) : Bool := decide ((sb s).take (sb p).length = sb p)

theorem begB_short (s p : ByteArray) (h : s.size < p.size) : begB s p = false := by
  unfold begB
  rw [decide_eq_false_iff_not]
  intro e
  have := congrArg List.length e
  simp only [List.length_take, sb_length] at this
  omega
theorem begB_eq (s p : ByteArray) : ((s.extract 0 p.size).toList == p.toList) = begB s p := by
  rw [sb_eq_iff, sb_take]
  unfold begB
  rw [sb_length]

end Go.Proofs.Ytmdpncjffikmiaa
