/- CodeOf, and the reference's. -/
import Derived.Test.YtljfmcgeiceagaaF1
import Derived.Test.YtljfmcgeiceagaaChecked
import Derived.ChangeKeysEq
namespace Go.Proofs.Ytljfmcgeiceagaa
open Go Go.RowKit
set_option linter.unusedVariables false

/-- The errors, by the code that tells them. -/
def codes : List (List Int) := [[0], [], [141, 105], [142], [33, 35, 102, 103], [101], [120], [], [90, 91, 93, 151], [92, 143, 182, 183, 184, 180, 200], [185, 152], [122, 153]]
/-- The code of an error. -/
def codeOf (e : Int) : Int := if e ∈ codes.flatten then ((codes.findIdx (fun l => decide (e ∈ l)) : Nat) : Int) else 1

theorem codes_at : ∀ k : Fin 12, ∀ v ∈ codes.getD k.val [], codeOf v = (k.val : Int) := by decide +kernel
theorem codeOf_in {e : Int} {k : Nat} {l : List Int} (h : codes[k]? = some l) (he : e ∈ l) : codeOf e = (k : Int) := by
  have hk : k < 12 := (List.getElem?_eq_some_iff.1 h).1
  have := codes_at ⟨k, hk⟩ e (by simp only [List.getD, h]; exact he)
  simpa using this
theorem codeOf_out {e : Int} (h : ∀ (k : Nat) (l : List Int), codes[k]? = some l → e ∉ l) : codeOf e = 1 := by
  unfold codeOf
  rw [if_neg]
  intro hh
  obtain ⟨l, hl, he⟩ := List.mem_flatten.1 hh
  obtain ⟨k, hk⟩ := List.getElem?_of_mem hl
  exact h k l hk he

def iv (l : List Int) : List Value := l.map (Value.int .i64)

theorem run_part_slice {P : Program} (w : World) {e s : TypeId} (hu : P.underlying e = some (.slice s)) {xs : Array Value} {off : Nat} {v : Value} (hx : xs[off]? = some v) : (part e xs off).run P w = .ok v w := by
  simp [part, isAgg, run_underlying hu, hx]
theorem run_index_slc {P : Program} (w : World) (t e s : TypeId) (n : Nat) (cs : Array Value) (i : Nat) (v : Value) (inf : TypeInfo) (h : P.underlying t = some (.array n e)) (he : P.underlying e = some (.slice s)) (hi : P.info? e = some inf) (h1 : P.cellsOf e = 1) (hn : i < n) (hx : cs[i]? = some v) :
    (Instr.index t (.agg cs) (.int .i64 (i : Int))).run P w = .ok v w := by
  have hin : (0 : Int) ≤ (i : Int) ∧ (i : Int) < (n : Int) := by omega
  simp [Instr.index, asIntOf, run_underlying h, hin, hn, run_sizeOf w hi, h1, run_part_slice w he hx]

theorem heap_keep {w : World} {k : Nat} {o x : Obj} (h : w.heap[k]? = some x) : (w.alloc o).heap[k]? = some x := by
  rw [Go.heap_alloc_old w o (Array.getElem?_eq_some_iff.1 h).1]
  exact h

/-- A row that is known whole reads as its list. -/
theorem rd_row {W : World} {g : Nat} {l : List Int} (h : W.heap[g]? = some (.cells (iv l).toArray 22 (0, 0))) : Rd W (some ⟨g, 0, none⟩) (iv l) := by
  intro _
  refine ⟨g, 0, rfl, (Array.getElem?_eq_some_iff.1 h).1, fun k u hu => ?_⟩
  rw [Nat.zero_add, cell_of_row W g k _ _ _ h]
  simpa using hu

def tabV (b : Nat) : List Value := [.slice (some ⟨b, 0, none⟩) 1 1, .slice none 0 0, .slice (some ⟨b + 1, 0, none⟩) 2 2, .slice (some ⟨b + 1 + 1, 0, none⟩) 1 1, .slice (some ⟨b + 1 + 1 + 1, 0, none⟩) 4 4, .slice (some ⟨b + 1 + 1 + 1 + 1, 0, none⟩) 1 1, .slice (some ⟨b + 1 + 1 + 1 + 1 + 1, 0, none⟩) 1 1, .slice none 0 0,
  .slice (some ⟨b + 1 + 1 + 1 + 1 + 1 + 1, 0, none⟩) 4 4, .slice (some ⟨b + 1 + 1 + 1 + 1 + 1 + 1 + 1, 0, none⟩) 7 7, .slice (some ⟨b + 1 + 1 + 1 + 1 + 1 + 1 + 1 + 1, 0, none⟩) 2 2, .slice (some ⟨b + 1 + 1 + 1 + 1 + 1 + 1 + 1 + 1 + 1, 0, none⟩) 2 2]

/-- The table stands. -/
def Tab (W : World) (b : Nat) : Prop := ∀ k, k < 12 → ∃ (A : Option Addr) (l : List Int), (tabV b)[k]? = some (.slice A l.length l.length) ∧ codes[k]? = some l ∧ Rd W A (iv l)

def rowOf (l : List Int) : Obj := .cells (iv l).toArray 22

theorem tab_made (w : World) (o : Obj) : Tab (((((((((((w.alloc (rowOf [0])).alloc (rowOf [141, 105])).alloc (rowOf [142])).alloc (rowOf [33, 35, 102, 103])).alloc (rowOf [101])).alloc (rowOf [120])).alloc (rowOf [90, 91, 93, 151])).alloc (rowOf [92, 143, 182, 183, 184, 180, 200])).alloc (rowOf [185, 152])).alloc (rowOf [122, 153])).alloc o) w.heap.size := by
  intro k hk
  have h0 := Go.heap_alloc_new w (rowOf [0])
  obtain ⟨w0, e0⟩ : ∃ w0, w0 = w.alloc (rowOf [0]) := ⟨_, rfl⟩
  have z0 : w0.heap.size = w.heap.size + 1 := by rw [e0]; simp
  rw [← e0] at h0 ⊢
  have h1 := Go.heap_alloc_new w0 (rowOf [141, 105])
  have h0 := heap_keep (o := rowOf [141, 105]) h0
  obtain ⟨w1, e1⟩ : ∃ w1, w1 = w0.alloc (rowOf [141, 105]) := ⟨_, rfl⟩
  have z1 : w1.heap.size = w.heap.size + 1 + 1 := by rw [e1]; simp [z0]
  rw [← e1] at h0 h1 ⊢
  have h2 := Go.heap_alloc_new w1 (rowOf [142])
  have h1 := heap_keep (o := rowOf [142]) h1
  have h0 := heap_keep (o := rowOf [142]) h0
  obtain ⟨w2, e2⟩ : ∃ w2, w2 = w1.alloc (rowOf [142]) := ⟨_, rfl⟩
  have z2 : w2.heap.size = w.heap.size + 1 + 1 + 1 := by rw [e2]; simp [z1]
  rw [← e2] at h0 h1 h2 ⊢
  have h3 := Go.heap_alloc_new w2 (rowOf [33, 35, 102, 103])
  have h2 := heap_keep (o := rowOf [33, 35, 102, 103]) h2
  have h1 := heap_keep (o := rowOf [33, 35, 102, 103]) h1
  have h0 := heap_keep (o := rowOf [33, 35, 102, 103]) h0
  obtain ⟨w3, e3⟩ : ∃ w3, w3 = w2.alloc (rowOf [33, 35, 102, 103]) := ⟨_, rfl⟩
  have z3 : w3.heap.size = w.heap.size + 1 + 1 + 1 + 1 := by rw [e3]; simp [z2]
  rw [← e3] at h0 h1 h2 h3 ⊢
  have h4 := Go.heap_alloc_new w3 (rowOf [101])
  have h3 := heap_keep (o := rowOf [101]) h3
  have h2 := heap_keep (o := rowOf [101]) h2
  have h1 := heap_keep (o := rowOf [101]) h1
  have h0 := heap_keep (o := rowOf [101]) h0
  obtain ⟨w4, e4⟩ : ∃ w4, w4 = w3.alloc (rowOf [101]) := ⟨_, rfl⟩
  have z4 : w4.heap.size = w.heap.size + 1 + 1 + 1 + 1 + 1 := by rw [e4]; simp [z3]
  rw [← e4] at h0 h1 h2 h3 h4 ⊢
  have h5 := Go.heap_alloc_new w4 (rowOf [120])
  have h4 := heap_keep (o := rowOf [120]) h4
  have h3 := heap_keep (o := rowOf [120]) h3
  have h2 := heap_keep (o := rowOf [120]) h2
  have h1 := heap_keep (o := rowOf [120]) h1
  have h0 := heap_keep (o := rowOf [120]) h0
  obtain ⟨w5, e5⟩ : ∃ w5, w5 = w4.alloc (rowOf [120]) := ⟨_, rfl⟩
  have z5 : w5.heap.size = w.heap.size + 1 + 1 + 1 + 1 + 1 + 1 := by rw [e5]; simp [z4]
  rw [← e5] at h0 h1 h2 h3 h4 h5 ⊢
  have h6 := Go.heap_alloc_new w5 (rowOf [90, 91, 93, 151])
  have h7 := Go.heap_alloc_new (w5.alloc (rowOf [90, 91, 93, 151])) (rowOf [92, 143, 182, 183, 184, 180, 200])
  have h8 := Go.heap_alloc_new ((w5.alloc (rowOf [90, 91, 93, 151])).alloc (rowOf [92, 143, 182, 183, 184, 180, 200])) (rowOf [185, 152])
  have h9 := Go.heap_alloc_new (((w5.alloc (rowOf [90, 91, 93, 151])).alloc (rowOf [92, 143, 182, 183, 184, 180, 200])).alloc (rowOf [185, 152])) (rowOf [122, 153])
  simp only [World.size_alloc, z0, z1, z2, z3, z4, z5] at h0 h1 h2 h3 h4 h5 h6 h7 h8 h9
  have c : k = 0 ∨ k = 1 ∨ k = 2 ∨ k = 3 ∨ k = 4 ∨ k = 5 ∨ k = 6 ∨ k = 7 ∨ k = 8 ∨ k = 9 ∨ k = 10 ∨ k = 11 := by omega
  rcases c with rfl | rfl | rfl | rfl | rfl | rfl | rfl | rfl | rfl | rfl | rfl | rfl
  · exact ⟨_, [0], rfl, rfl, rd_row (heap_keep (heap_keep (heap_keep (heap_keep (heap_keep h0)))))⟩
  · exact ⟨none, [], rfl, rfl, Rd.nil_ _ _⟩
  · exact ⟨_, [141, 105], rfl, rfl, rd_row (heap_keep (heap_keep (heap_keep (heap_keep (heap_keep h1)))))⟩
  · exact ⟨_, [142], rfl, rfl, rd_row (heap_keep (heap_keep (heap_keep (heap_keep (heap_keep h2)))))⟩
  · exact ⟨_, [33, 35, 102, 103], rfl, rfl, rd_row (heap_keep (heap_keep (heap_keep (heap_keep (heap_keep h3)))))⟩
  · exact ⟨_, [101], rfl, rfl, rd_row (heap_keep (heap_keep (heap_keep (heap_keep (heap_keep h4)))))⟩
  · exact ⟨_, [120], rfl, rfl, rd_row (heap_keep (heap_keep (heap_keep (heap_keep (heap_keep h5)))))⟩
  · exact ⟨none, [], rfl, rfl, Rd.nil_ _ _⟩
  · exact ⟨_, [90, 91, 93, 151], rfl, rfl, rd_row (heap_keep (heap_keep (heap_keep (heap_keep h6))))⟩
  · exact ⟨_, [92, 143, 182, 183, 184, 180, 200], rfl, rfl, rd_row (heap_keep (heap_keep (heap_keep h7)))⟩
  · exact ⟨_, [185, 152], rfl, rfl, rd_row (heap_keep (heap_keep h8))⟩
  · exact ⟨_, [122, 153], rfl, rfl, rd_row (heap_keep h9)⟩

theorem run_index_tabV (b : Nat) (w : World) (k : Nat) (v : Value) (hk : k < 12) (hx : (tabV b)[k]? = some v) :
    (Instr.index 47 (.agg (tabV b).toArray) (.int .i64 (k : Int))).run Try.prog w = .ok v w := by
  obtain ⟨inf, hi⟩ : ∃ inf, Try.prog.info? 46 = some inf := Option.isSome_iff_exists.1 (by kernel_rfl)
  exact run_index_slc w _ 46 22 12 _ k _ inf Try.underlying47 Try.underlying46 hi (by kernel_rfl) hk (by simpa using hx)

set_option maxHeartbeats 1000000 in
set_option maxRecDepth 100000 in
theorem codeOf_any (e : Int) (w : World) :
    Calls Try.prog 7 #[.int .i64 e] w fun e' w' => e' = .returned (.int .i64 (codeOf e)) ∧ Below w.heap.size w w' := by
  go_enter Try.func7, Try.ntmps7
  go_wp2
  have hT := tab_made w (.cells (tabV w.heap.size).toArray 47)
  have hB : Below w.heap.size w (((((((((((w.alloc (rowOf [0])).alloc (rowOf [141, 105])).alloc (rowOf [142])).alloc (rowOf [33, 35, 102, 103])).alloc (rowOf [101])).alloc (rowOf [120])).alloc (rowOf [90, 91, 93, 151])).alloc (rowOf [92, 143, 182, 183, 184, 180, 200])).alloc (rowOf [185, 152])).alloc (rowOf [122, 153])).alloc (.cells (tabV w.heap.size).toArray 47)) := by
    repeat (with_reducible refine Below.alloc ?_ (by simp <;> omega) _)
    exact Below.refl _ _
  simp only [rowOf, iv, List.map_cons, List.map_nil] at hT hB
  have eT : (tabV w.heap.size).toArray = (tabV w.heap.size).toArray := rfl
  conv at eT => lhs; unfold tabV
  rw [← eT] at hT hB
  generalize (((((((((((w.alloc _).alloc _).alloc _).alloc _).alloc _).alloc _).alloc _).alloc _).alloc _).alloc _).alloc _) = W at *
  rw [eT]
  clear eT
  go_loop [20] (fun i => ∃ k : Nat, k ≤ 12 ∧ i = .int .i64 k ∧ Hid (∀ (j : Nat) (l : List Int), j < k → codes[j]? = some l → e ∉ l)) (fun i => 12 - (intOf i).toNat)
  case atStart => exact ⟨0, Nat.zero_le _, rfl, fun j l h => by omega⟩
  case round =>
    obtain ⟨k, hk, rfl, H⟩ := hrel
    by_cases hlt : k < 12
    · obtain ⟨A, l, ht1, ht2, ht3⟩ := hT k hlt
      have hix := fun W => run_index_tabV w.heap.size W k _ hlt ht1
      have hl : l.length ≤ 7 := by
        have : ∀ l ∈ codes, l.length ≤ 7 := by decide
        exact this l (List.mem_of_getElem? ht2)
      have H2 := Lib.hid ht2
      have H3 := Lib.hid ht3
      clear ht1 ht2 ht3 hT
      go_wp2_with (first | (rw [hix]; simp only [Result.andThen_ok]))
      clear hix
      go_loop [26] (fun i => ∃ j : Nat, j ≤ l.length ∧ i = .int .i64 j ∧ Hid (e ∉ l.take j)) (fun i => l.length - (intOf i).toNat)
      case atStart => exact ⟨0, Nat.zero_le _, rfl, by simp [Hid]⟩
      case round =>
        obtain ⟨j, hj, rfl, HJ⟩ := hrel
        by_cases hjl : j < l.length
        · have hg : (iv l)[j]? = some (.int .i64 l[j]) := by simp [iv, hjl]
          have hm : l[j] ∈ l := List.getElem_mem hjl
          have htk : l.take (j + 1) = l.take j ++ [l[j]] := by rw [List.take_succ_eq_append_getElem hjl]
          obtain ⟨g, off, rfl, hgs, hc⟩ := H3.out (by intro h; rw [h] at hg; simp at hg)
          have hc := hc j _ hg
          obtain ⟨x, hx⟩ : ∃ x, x = l[j] := ⟨_, rfl⟩
          rw [← hx] at hc hm htk
          have HM := Lib.hid hm
          have HT := Lib.hid htk
          clear hg hx hm htk
          by_cases he : x = e
          · subst he
            have HC := Lib.hid (codeOf_in H2.out HM.out)
            go_wp2
            go_ret
            exact ⟨ret_i HC.out.symm, hB⟩
          · have hne : (x == e) = false := by rw [beq_eq_false_iff_ne]; exact he
            go_wp2
            go_round
            case rel => exact ⟨j + 1, by omega, by go_num, by
              show e ∉ _
              rw [HT.out]
              intro hh
              rcases List.mem_append.1 hh with hh | hh
              · exact HJ.out hh
              · exact he (List.mem_singleton.1 hh).symm⟩
            case measure => simp [intOf]; omega
        · have hje : j = l.length := by omega
          subst hje
          clear hjl
          go_wp2
          go_round
          case rel => exact ⟨k + 1, by omega, by go_num, fun j l' h1 h2 => by
            rcases (show j < k ∨ j = k by omega) with h | h
            · exact H.out j l' h h2
            · subst h
              rw [H2.out] at h2
              injection h2 with h2
              subst h2
              have := HJ.out
              rwa [List.take_length] at this⟩
          case measure => simp [intOf]; omega
    · have HC := Lib.hid (codeOf_out (e := e) (fun j l h => H.out j l (by have := (List.getElem?_eq_some_iff.1 h).1; have e12 : codes.length = 12 := rfl; omega) h))
      clear hT
      go_wp2
      go_ret
      exact ⟨ret_i HC.out.symm, hB⟩

set_option maxHeartbeats 1000000 in
set_option maxRecDepth 100000 in
theorem rcodeOf_any (e : Int) (w : World) :
    Calls Try.prog 8 #[.int .i64 e] w fun e' w' => e' = .returned (.int .i64 (codeOf e)) ∧ w = w' := by
  go_enter Try.func8, Try.ntmps8
  go_wp2
  all_goals
    go_ret
    refine ⟨ret_i ?_, rfl⟩
    first
      | (subst e; decide +kernel)
      | (have he := eq_of_beq (by assumption : (e == _) = true); subst he; decide +kernel)
      | (simp only [beq_eq_false_iff_ne] at *; unfold codeOf; rw [if_neg]; simp [codes]; omega)
end Go.Proofs.Ytljfmcgeiceagaa
