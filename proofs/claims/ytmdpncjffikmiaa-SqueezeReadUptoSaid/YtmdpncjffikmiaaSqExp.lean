/- Expand: which tokens are right, and the text of tokens. (Printed by gen_sqexp.py.) -/
import Derived.Test.YtmdpncjffikmiaaTok
import Derived.Test.YtmdpncjffikmiaaApp8
namespace Go.Proofs.Ytmdpncjffikmiaa
open Go Go.RowKit
set_option linter.unusedVariables false
set_option linter.unusedSimpArgs false

def rt (t : Tk) (n : Nat) : Bool := if 0 < t.lit.length then decide (t.d = 0 ∧ t.l = 0) else decide (5 ≤ t.l ∧ t.l ≤ 258 ∧ 1 ≤ t.d ∧ t.d ≤ 2048 ∧ t.d ≤ n)
def addOne (text : List Nat) (d : Nat) : List Nat := text ++ [text.getD (text.length - d) 0]
def copyN (text : List Nat) (d : Nat) : Nat → List Nat
  | 0 => text
  | k + 1 => addOne (copyN text d k) d
theorem copyN_length (text : List Nat) (d : Nat) : ∀ k, (copyN text d k).length = text.length + k
  | 0 => rfl
  | k + 1 => by simp [copyN, addOne, copyN_length text d k]; omega
theorem copyN_by {text : List Nat} (h : By text) (d : Nat) : ∀ k, By (copyN text d k)
  | 0 => h
  | k + 1 => by
    have ih := copyN_by h d k
    intro c hc
    simp only [copyN, addOne, List.mem_append, List.mem_singleton] at hc
    rcases hc with hc | rfl
    · exact ih c hc
    · rw [List.getD_eq_getElem?_getD]
      cases hg : (copyN text d k)[(copyN text d k).length - d]? with
      | none => simp
      | some z => exact ih z (List.mem_of_getElem? hg)
def addTk (text : List Nat) (t : Tk) : List Nat := copyN (text ++ t.lit) t.d.toNat t.l.toNat
theorem addTk_length (text : List Nat) (t : Tk) : (addTk text t).length = text.length + t.lit.length + t.l.toNat := by
  unfold addTk
  rw [copyN_length, List.length_append]
def exp (text : List Nat) : List Tk → List Nat × Int
  | [] => (text, 0)
  | t :: r => if rt t text.length then (if 4096 < text.length + t.lit.length + t.l.toNat then ([], 2) else exp (addTk text t) r) else ([], 21)
theorem rt_cases {t : Tk} {n : Nat} (h : rt t n = true) : (0 < t.lit.length ∧ t.d = 0 ∧ t.l = 0) ∨ (t.lit = [] ∧ 5 ≤ t.l ∧ t.l ≤ 258 ∧ 1 ≤ t.d ∧ t.d ≤ 2048 ∧ t.d ≤ n) := by
  unfold rt at h
  split at h
  · have := of_decide_eq_true h
    exact .inl ⟨by assumption, this⟩
  · have := of_decide_eq_true h
    exact .inr ⟨List.eq_nil_of_length_eq_zero (by omega), this⟩
theorem exp_len : ∀ (ts : List Tk) (text : List Nat), text.length ≤ 4096 → (exp text ts).1.length ≤ 4096
  | [], text, h => h
  | t :: r, text, h => by
    unfold exp
    split
    · split
      · simp
      · exact exp_len r _ (by rw [addTk_length]; omega)
    · simp
theorem exp_drop {ts : List Tk} {k : Nat} {t : Tk} (hk : ts[k]? = some t) (text : List Nat) : exp text (ts.drop k) = exp text (t :: ts.drop (k + 1)) := by
  obtain ⟨h, rfl⟩ := List.getElem?_eq_some_iff.1 hk
  rw [List.drop_eq_getElem_cons h]

def toks (l : List TkV) : List Tk := l.map TkV.tk
theorem toks_get {l : List TkV} {k : Nat} {x : TkV} (h : l[k]? = some x) : (toks l)[k]? = some x.tk := by simp [toks, h]

set_option maxHeartbeats 800000 in
set_option maxRecDepth 100000 in
theorem right_is (x : TkV) (n : Nat) (w : World) (hn : n ≤ 4611686018427387904) (hd : -9223372036854775808 ≤ x.d ∧ x.d ≤ 9223372036854775807) (hl : -9223372036854775808 ≤ x.l ∧ x.l ≤ 9223372036854775807) (hs : x.lit.length ≤ 140737488351232) :
    Calls Try.prog 47 #[x.val, .int .i64 (n : Int)] w fun e w' => e = .returned (.bool (rt x.tk n)) ∧ Below w.heap.size w w' := by
  obtain ⟨A, c, lit, d, l⟩ := x
  simp only at hd hl hs
  unfold TkV.val TkV.tk
  simp only
  have hb := (Below.refl w.heap.size w).alloc (Nat.le_refl _) (.cells #[.slice A lit.length c, .int .i64 d, .int .i64 l] 37)
  have HB := Lib.hid hb
  have R1 : Hid (0 < lit.length → rt ⟨lit, d, l⟩ n = decide (d = 0 ∧ l = 0)) := Lib.hid (fun h => by unfold rt; rw [if_pos h])
  have R2 : Hid (¬ 0 < lit.length → rt ⟨lit, d, l⟩ n = decide (5 ≤ l ∧ l ≤ 258 ∧ 1 ≤ d ∧ d ≤ 2048 ∧ d ≤ n)) := Lib.hid (fun h => by unfold rt; rw [if_neg h])
  obtain ⟨m, hm⟩ : ∃ m, m = lit.length := ⟨_, rfl⟩
  rw [← hm] at hs R1 R2 HB ⊢
  obtain ⟨q, hq⟩ : ∃ q, q = rt ⟨lit, d, l⟩ n := ⟨_, rfl⟩
  rw [← hq] at R1 R2 ⊢
  clear hm hq hb
  go_enter Try.func47, Try.ntmps47
  by_cases h0 : 0 < m
  · by_cases h1 : d = 0
    · by_cases h2 : l = 0
      · have hv : q = true := (R1.out h0).trans (decide_eq_true (by omega))
        rw [hv]
        clear hv R1 R2 HB
        go_wp2
        go_ret
        exact ⟨by first | rfl | simp [*], (Below.refl _ _).alloc (Nat.le_refl _) _⟩
      · have hv : q = false := (R1.out h0).trans (decide_eq_false (by omega))
        rw [hv]
        clear hv R1 R2 HB
        go_wp2
        go_ret
        exact ⟨by first | rfl | simp [*], (Below.refl _ _).alloc (Nat.le_refl _) _⟩
    · have hv : q = false := (R1.out h0).trans (decide_eq_false (by omega))
      rw [hv]
      clear hv R1 R2 HB
      go_wp2
      go_ret
      exact ⟨by first | rfl | simp [*], (Below.refl _ _).alloc (Nat.le_refl _) _⟩
  · by_cases h1 : 5 ≤ l
    · by_cases h2 : l ≤ 258
      · by_cases h3 : 1 ≤ d
        · by_cases h4 : d ≤ 2048
          · by_cases h5 : d ≤ (n : Int)
            · have hv : q = true := (R2.out h0).trans (decide_eq_true (by omega))
              rw [hv]
              clear hv R1 R2 HB
              go_wp2
              go_ret
              exact ⟨by first | rfl | simp [*], (Below.refl _ _).alloc (Nat.le_refl _) _⟩
            · have hv : q = false := (R2.out h0).trans (decide_eq_false (by omega))
              rw [hv]
              clear hv R1 R2 HB
              go_wp2
              go_ret
              exact ⟨by first | rfl | simp [*], (Below.refl _ _).alloc (Nat.le_refl _) _⟩
          · have hv : q = false := (R2.out h0).trans (decide_eq_false (by omega))
            rw [hv]
            clear hv R1 R2 HB
            go_wp2
            go_ret
            exact ⟨by first | rfl | simp [*], (Below.refl _ _).alloc (Nat.le_refl _) _⟩
        · have hv : q = false := (R2.out h0).trans (decide_eq_false (by omega))
          rw [hv]
          clear hv R1 R2 HB
          go_wp2
          go_ret
          exact ⟨by first | rfl | simp [*], (Below.refl _ _).alloc (Nat.le_refl _) _⟩
      · have hv : q = false := (R2.out h0).trans (decide_eq_false (by omega))
        rw [hv]
        clear hv R1 R2 HB
        go_wp2
        go_ret
        exact ⟨by first | rfl | simp [*], (Below.refl _ _).alloc (Nat.le_refl _) _⟩
    · have hv : q = false := (R2.out h0).trans (decide_eq_false (by omega))
      rw [hv]
      clear hv R1 R2 HB
      go_wp2
      go_ret
      exact ⟨by first | rfl | simp [*], (Below.refl _ _).alloc (Nat.le_refl _) _⟩
set_option maxHeartbeats 800000 in
set_option maxRecDepth 100000 in
theorem rright_is (x : TkV) (n : Nat) (w : World) (hn : n ≤ 4611686018427387904) (hd : -9223372036854775808 ≤ x.d ∧ x.d ≤ 9223372036854775807) (hl : -9223372036854775808 ≤ x.l ∧ x.l ≤ 9223372036854775807) (hs : x.lit.length ≤ 140737488351232) :
    Calls Try.prog 46 #[x.val, .int .i64 (n : Int)] w fun e w' => e = .returned (.bool (rt x.tk n)) ∧ Below w.heap.size w w' := by
  obtain ⟨A, c, lit, d, l⟩ := x
  simp only at hd hl hs
  unfold TkV.val TkV.tk
  simp only
  have hb := (Below.refl w.heap.size w).alloc (Nat.le_refl _) (.cells #[.slice A lit.length c, .int .i64 d, .int .i64 l] 37)
  have HB := Lib.hid hb
  have R1 : Hid (0 < lit.length → rt ⟨lit, d, l⟩ n = decide (d = 0 ∧ l = 0)) := Lib.hid (fun h => by unfold rt; rw [if_pos h])
  have R2 : Hid (¬ 0 < lit.length → rt ⟨lit, d, l⟩ n = decide (5 ≤ l ∧ l ≤ 258 ∧ 1 ≤ d ∧ d ≤ 2048 ∧ d ≤ n)) := Lib.hid (fun h => by unfold rt; rw [if_neg h])
  obtain ⟨m, hm⟩ : ∃ m, m = lit.length := ⟨_, rfl⟩
  rw [← hm] at hs R1 R2 HB ⊢
  obtain ⟨q, hq⟩ : ∃ q, q = rt ⟨lit, d, l⟩ n := ⟨_, rfl⟩
  rw [← hq] at R1 R2 ⊢
  clear hm hq hb
  go_enter Try.func46, Try.ntmps46
  by_cases h0 : 0 < m
  · by_cases h1 : d = 0
    · by_cases h2 : l = 0
      · have hv : q = true := (R1.out h0).trans (decide_eq_true (by omega))
        rw [hv]
        clear hv R1 R2 HB
        go_wp2
        go_ret
        exact ⟨by first | rfl | simp [*], (Below.refl _ _).alloc (Nat.le_refl _) _⟩
      · have hv : q = false := (R1.out h0).trans (decide_eq_false (by omega))
        rw [hv]
        clear hv R1 R2 HB
        go_wp2
        go_ret
        exact ⟨by first | rfl | simp [*], (Below.refl _ _).alloc (Nat.le_refl _) _⟩
    · have hv : q = false := (R1.out h0).trans (decide_eq_false (by omega))
      rw [hv]
      clear hv R1 R2 HB
      go_wp2
      go_ret
      exact ⟨by first | rfl | simp [*], (Below.refl _ _).alloc (Nat.le_refl _) _⟩
  · by_cases h1 : 5 ≤ l
    · by_cases h2 : l ≤ 258
      · by_cases h3 : 1 ≤ d
        · by_cases h4 : d ≤ 2048
          · by_cases h5 : d ≤ (n : Int)
            · have hv : q = true := (R2.out h0).trans (decide_eq_true (by omega))
              rw [hv]
              clear hv R1 R2 HB
              go_wp2
              go_ret
              exact ⟨by first | rfl | simp [*], (Below.refl _ _).alloc (Nat.le_refl _) _⟩
            · have hv : q = false := (R2.out h0).trans (decide_eq_false (by omega))
              rw [hv]
              clear hv R1 R2 HB
              go_wp2
              go_ret
              exact ⟨by first | rfl | simp [*], (Below.refl _ _).alloc (Nat.le_refl _) _⟩
          · have hv : q = false := (R2.out h0).trans (decide_eq_false (by omega))
            rw [hv]
            clear hv R1 R2 HB
            go_wp2
            go_ret
            exact ⟨by first | rfl | simp [*], (Below.refl _ _).alloc (Nat.le_refl _) _⟩
        · have hv : q = false := (R2.out h0).trans (decide_eq_false (by omega))
          rw [hv]
          clear hv R1 R2 HB
          go_wp2
          go_ret
          exact ⟨by first | rfl | simp [*], (Below.refl _ _).alloc (Nat.le_refl _) _⟩
      · have hv : q = false := (R2.out h0).trans (decide_eq_false (by omega))
        rw [hv]
        clear hv R1 R2 HB
        go_wp2
        go_ret
        exact ⟨by first | rfl | simp [*], (Below.refl _ _).alloc (Nat.le_refl _) _⟩
    · have hv : q = false := (R2.out h0).trans (decide_eq_false (by omega))
      rw [hv]
      clear hv R1 R2 HB
      go_wp2
      go_ret
      exact ⟨by first | rfl | simp [*], (Below.refl _ _).alloc (Nat.le_refl _) _⟩
end Go.Proofs.Ytmdpncjffikmiaa
