/- Items: what fits, and their bytes. -/
import Derived.Test.YtfgjlplfpjfnoaaBeyond
namespace Go.Proofs.Ytfgjlplfpjfnoaa
open Go Go.RowKit
set_option linter.unusedVariables false
set_option linter.unusedSimpArgs false

/-- May it be? -/
def Stp.fits (x : Stp) : Bool :=
  if x.k = 0 then decide (x.n ≤ 255) && x.s.toList.isEmpty
  else if x.k = 3 then decide (x.n ≤ 4294967295) && x.s.toList.isEmpty
  else if x.k = 1 then x.s.toList.isEmpty
  else if x.k = 2 then x.s.toList.isEmpty
  else if x.k = 4 then x.s.toList.isEmpty
  else if x.k = 5 then decide (x.n = 0)
  else false

/-- Its bytes. -/
def Stp.bytes (x : Stp) : List Nat :=
  if x.k = 0 then [x.n % 256]
  else if x.k = 1 then Uv.uv x.n
  else if x.k = 2 then Uv.uv x.n
  else if x.k = 3 then fx (x.n % 4294967296) 4
  else if x.k = 4 then fx x.n 8
  else if x.k = 5 then Uv.uv x.s.size ++ sb x.s
  else []
theorem Stp.bytes_len (x : Stp) (h : x.Ok) : x.bytes.length ≤ 10 + x.s.size := by
  obtain ⟨k, n, s⟩ := x
  obtain ⟨_, h2, h3⟩ := h
  simp only at h2 h3
  unfold Stp.bytes
  simp only
  split
  · simp; omega
  split
  · have := Uv.uv_len_64 n h2
    omega
  split
  · have := Uv.uv_len_64 n h2
    omega
  split
  · rw [fx_length]; omega
  split
  · rw [fx_length]; omega
  split
  · have := Uv.uv_len_64 s.size (by omega)
    rw [List.length_append, sb_length]
    omega
  · simp
def itemsOut (l : List Stp) : List Nat := l.flatMap Stp.bytes
theorem itemsOut_len : ∀ {l : List Stp}, (∀ x ∈ l, x.Ok) → (itemsOut l).length ≤ 10 * stSum l
  | [], _ => by simp [itemsOut]
  | x :: r, h => by
    have h1 := itemsOut_len (l := r) (fun y hy => h y (List.mem_cons_of_mem _ hy))
    have h2 := x.bytes_len (h x (List.mem_cons_self ..))
    have h3 : (itemsOut (x :: r)).length = x.bytes.length + (itemsOut r).length := by simp [itemsOut]
    simp only [stSum]
    omega
theorem itemsOut_take {l : List Stp} {k : Nat} {x : Stp} (hx : l[k]? = some x) : itemsOut (l.take (k + 1)) = itemsOut (l.take k) ++ x.bytes := by
  obtain ⟨hk, rfl⟩ := List.getElem?_eq_some_iff.1 hx
  unfold itemsOut
  rw [List.take_succ_eq_append_getElem hk, List.flatMap_append]
  simp
/-- The answer of Pack. -/
def pk (l : List Stp) : List Nat × Int := if l.all Stp.fits then (itemsOut l, 0) else ([], 12)

theorem below_box (w : World) (o : Obj) : Below w.heap.size w (w.alloc o) := (Below.refl _ _).alloc (Nat.le_refl _) o

section
variable (n : Nat) (s : ByteArray) (w : World)
def FitsPost (w : World) (b : Bool) (e : Ending) (w' : World) : Prop := e = .returned (.bool b) ∧ Below w.heap.size w w'
set_option maxRecDepth 100000
theorem fits_0 : Calls Try.prog 82 #[.agg #[.int .i64 0, .int .u64 (n : Int), .string s]] w (FitsPost w (decide (n ≤ 255) && s.toList.isEmpty)) := by
  go_enter Try.func82, Try.ntmps82
  by_cases h1 : n ≤ 255
  · go_wp2
    go_ret
    exact ⟨by simp [h1], below_box _ _⟩
  · go_wp2
    go_ret
    exact ⟨by simp [h1], below_box _ _⟩
theorem fits_3 : Calls Try.prog 82 #[.agg #[.int .i64 3, .int .u64 (n : Int), .string s]] w (FitsPost w (decide (n ≤ 4294967295) && s.toList.isEmpty)) := by
  go_enter Try.func82, Try.ntmps82
  by_cases h1 : n ≤ 4294967295
  · go_wp2
    go_ret
    exact ⟨by simp [h1], below_box _ _⟩
  · go_wp2
    go_ret
    exact ⟨by simp [h1], below_box _ _⟩
theorem fits_1 : Calls Try.prog 82 #[.agg #[.int .i64 1, .int .u64 (n : Int), .string s]] w (FitsPost w s.toList.isEmpty) := by
  go_enter Try.func82, Try.ntmps82
  go_wp2
  go_ret
  exact ⟨rfl, below_box _ _⟩
theorem fits_2 : Calls Try.prog 82 #[.agg #[.int .i64 2, .int .u64 (n : Int), .string s]] w (FitsPost w s.toList.isEmpty) := by
  go_enter Try.func82, Try.ntmps82
  go_wp2
  go_ret
  exact ⟨rfl, below_box _ _⟩
theorem fits_4 : Calls Try.prog 82 #[.agg #[.int .i64 4, .int .u64 (n : Int), .string s]] w (FitsPost w s.toList.isEmpty) := by
  go_enter Try.func82, Try.ntmps82
  go_wp2
  go_ret
  exact ⟨rfl, below_box _ _⟩
theorem fits_5 : Calls Try.prog 82 #[.agg #[.int .i64 5, .int .u64 (n : Int), .string s]] w (FitsPost w (decide (n = 0))) := by
  go_enter Try.func82, Try.ntmps82
  by_cases h1 : n = 0
  · subst h1
    go_wp2
    go_ret
    exact ⟨by simp, below_box _ _⟩
  · go_wp2
    go_ret
    exact ⟨by simp [h1], below_box _ _⟩
theorem fits_else (k : Int) (h0 : k ≠ 0) (h1 : k ≠ 1) (h2 : k ≠ 2) (h3 : k ≠ 3) (h4 : k ≠ 4) (h5 : k ≠ 5) : Calls Try.prog 82 #[.agg #[.int .i64 k, .int .u64 (n : Int), .string s]] w (FitsPost w false) := by
  go_enter Try.func82, Try.ntmps82
  go_wp2
  go_ret
  exact ⟨rfl, below_box _ _⟩
end

theorem fits_is (x : Stp) (w : World) : Calls Try.prog 82 #[.agg #[.int .i64 x.k, .int .u64 (x.n : Int), .string x.s]] w (FitsPost w x.fits) := by
  obtain ⟨k, n, s⟩ := x
  simp only
  unfold Stp.fits
  by_cases h0 : k = 0
  · subst h0; exact fits_0 n s w
  by_cases h3 : k = 3
  · subst h3; exact fits_3 n s w
  by_cases h1 : k = 1
  · subst h1; exact fits_1 n s w
  by_cases h2 : k = 2
  · subst h2; exact fits_2 n s w
  by_cases h4 : k = 4
  · subst h4; exact fits_4 n s w
  by_cases h5 : k = 5
  · subst h5; exact fits_5 n s w
  simp only [h0, h1, h2, h3, h4, h5, if_false]
  exact fits_else n s w k h0 h1 h2 h3 h4 h5

theorem Wrote.to {base g : Nat} {v : Value} {T : TypeId} {xs zs : List Nat} {W W' : World} {e : Ending} (hw : Wrote base W T g v zs e W') (h : Wr base W T g v xs) : ∃ v', e = .returned (.tuple #[]) ∧ Wr base W' T g v' zs ∧ Below base W W' := by
  obtain ⟨v', he, hw, hk, hn⟩ := hw
  refine ⟨v', he, hw, (KeptS.of2 (S := fun q => q = g ∨ v.ownBlock = some q) hk (.inl rfl) (fun q hq => .inr hq)).below ?_ h.hb⟩
  rintro q (rfl | hq)
  · exact h.gb
  · exact (h.ownLt q hq).1
end Go.Proofs.Ytfgjlplfpjfnoaa
