/- octet.backs, octet.Patch: what they return. -/
import Derived.Test.YtfgjlplfpjfnoaaSums
import Derived.Test.YtfgjlplfpjfnoaaPatPlain
import Derived.ChangeKeysEq
namespace Go.Proofs.Ytfgjlplfpjfnoaa
open Go Go.RowKit
set_option linter.unusedVariables false

def v8 (x : Nat) : Value := .int .u8 (x : Int)
theorem b8_def (bs : List Nat) : b8 bs = bs.map v8 := rfl
theorem info16b : (Try.prog.info? 99).map (·.size) = some 16 := by kernel_rfl
theorem b8_one' (bs : List Nat) : (b8 bs).toArray.all (·.oneCell') = true := by
  rw [Array.all_eq_true_iff_forall_mem]
  intro x hx
  exact b8_one bs x (by simpa using hx)
theorem shr28 (x : Nat) : (x : Int) / 268435456 = ((x / 268435456 : Nat) : Int) := by omega

theorem run_index_arr {P : Program} (w : World) (t e : TypeId) (n : Nat) (cs : Array Value) (i : Nat) (v : Value) (inf : TypeInfo) (h : P.underlying t = some (.array n e)) (he : P.plainKey e = true) (hi : P.info? e = some inf) (h1 : P.cellsOf e = 1) (hn : i < n) (hx : cs[i]? = some v) :
    (Instr.index t (.agg cs) (.int .i64 (i : Int))).run P w = .ok v w := by
  have hin : (0 : Int) ≤ (i : Int) ∧ (i : Int) < (n : Int) := by omega
  simp [Instr.index, asIntOf, run_underlying h, hin, hn, run_sizeOf w hi, h1, run_part_plain w he hx]
theorem run_index_tab (w : World) (k x : Nat) (hk : k < 16) (hx : tab[k]? = some (.int .u32 (x : Int))) :
    (Instr.index 97 (.agg tab.toArray) (.int .i64 (k : Int))).run Try.prog w = .ok (.int .u32 (x : Int)) w := by
  obtain ⟨inf, hi⟩ : ∃ inf, Try.prog.info? 40 = some inf := Option.isSome_iff_exists.1 (by kernel_rfl)
  exact run_index_arr w _ 40 16 _ k _ inf Try.underlying97 (by kernel_rfl) hi (by kernel_rfl) hk (by simpa using hx)

set_option maxHeartbeats 800000 in
set_option maxRecDepth 100000 in
theorem backs_any (w : World) :
    Calls Try.prog 78 #[] w fun e w' => e = .returned (.agg (b8 Pat.bk).toArray) ∧ Below w.heap.size w w' := by
  go_enter Try.func78, Try.ntmps78
  go_wp2_with fail
  obtain ⟨W, hW⟩ : ∃ W : World, W = (w.alloc (.cells #[.int .u8 0, .int .u8 0, .int .u8 0, .int .u8 0, .int .u8 0, .int .u8 0, .int .u8 0, .int .u8 0, .int .u8 0, .int .u8 0, .int .u8 0, .int .u8 0, .int .u8 0, .int .u8 0, .int .u8 0, .int .u8 0] 99)).alloc (.cells #[.int .u8 0, .int .u8 0, .int .u8 0, .int .u8 0, .int .u8 0, .int .u8 0, .int .u8 0, .int .u8 0, .int .u8 0, .int .u8 0, .int .u8 0, .int .u8 0, .int .u8 0, .int .u8 0, .int .u8 0, .int .u8 0] 99) := ⟨_, rfl⟩
  have z16 : b8 (Pat.bkTo 0) = List.replicate 16 (.int .u8 0) := rfl
  have h1 : W.heap[w.heap.size + 1]? = some (.cells (b8 (Pat.bkTo 0)).toArray 99 (0, 0)) := by rw [hW]; exact heap_alloc2_new _ _ _
  have h0 : W.heap[w.heap.size]? = some (.cells (b8 (Pat.bkTo 0)).toArray 99 (0, 0)) := by rw [hW]; exact heap_alloc2_old _ _ _
  have hb0 : Below w.heap.size w W := by rw [hW]; exact ((Below.refl _ _).alloc (Nat.le_refl _) _).alloc (by simp) _
  first
    | rw [← hW]
    | skip
  have H1 := Lib.hid h1
  have H0 := Lib.hid h0
  clear h1 h0 hW z16
  refine (sums_any W).mono ?_
  rintro e w1 ⟨rfl, hb1⟩
  have hsz := hb0.size
  have hWl : w.heap.size + 1 < W.heap.size := (Array.getElem?_eq_some_iff.1 H1.out).1
  have H1' := Lib.hid ((hb1.block _ hWl).trans H1.out)
  have H0' := Lib.hid ((hb1.block _ (by omega)).trans H0.out)
  have hb1' := hb0.trans (hb1.mono hb0.size)
  clear H1 H0 hb1 hb0
  go_wp2_with fail
  go_loopw [5] (fun i wr => ∃ k : Nat, k ≤ 16 ∧ i = .int .i64 k ∧ Hid (wr.heap[w.heap.size + 1]? = some (.cells (b8 (Pat.bkTo k)).toArray 99 (0, 0))) ∧ Hid (wr.heap[w.heap.size]? = some (.cells (b8 (Pat.bkTo 0)).toArray 99 (0, 0))) ∧ Below w.heap.size w wr) (fun i _ => 16 - (intOf i).toNat)
  case atStart => exact ⟨0, by omega, rfl, H1', H0', hb1'⟩
  case round =>
    obtain ⟨k, hk, rfl, H1, H0, hb⟩ := hrel
    by_cases hlt : k < 16
    · have ht := tab_get k hlt
      obtain ⟨x, hx⟩ : ∃ x, x = Crc.Mi 4 k := ⟨_, rfl⟩
      have hhi : x / 268435456 = Pat.hi k := by rw [hx]; rfl
      have hx32 : x < 4294967296 := by rw [hx]; exact Crc.Mi_lt 4 (by omega)
      rw [← hx] at ht
      have hix := fun w => run_index_tab w k x hlt ht
      obtain ⟨h, hh⟩ : ∃ h, h = Pat.hi k := ⟨_, rfl⟩
      rw [← hh] at hhi
      have h16 : h < 16 := by omega
      have hshr : (x : Int) / 268435456 = (h : Int) := by omega
      obtain ⟨o, ho⟩ : ∃ o, (Pat.bkTo k)[h]? = some o := ⟨_, List.getElem?_eq_getElem (by rw [Pat.bkTo_length]; exact h16)⟩
      have hc : wr.cell? ⟨w.heap.size + 1, h, none⟩ = some (.int .u8 (o : Int)) := by
        rw [cell_of_row wr _ h _ _ _ H1.out]
        simp [b8, ho]
      have hf : wr.frozen? ⟨w.heap.size + 1, h, none⟩ = false := frozen_of_row wr _ h _ _ H1.out
      have hset : (Pat.bkTo k).set h k = Pat.bkTo (k + 1) := by rw [hh]; rfl
      have HS := Lib.hid hset
      clear hx hhi hset hh ho
      have i0 : (0 : Int) ≤ (k : Int) := by omega
      have i1 : (k : Int) < 16 := by omega
      go_wp2_with (first | (rw [hix]; simp only [Result.andThen_ok]))
      go_roundw
      case rel =>
        refine ⟨k + 1, by omega, by go_num, ?_, ?_, hb.setCell (by simp) _⟩
        · have := heap_setCell_same wr (w.heap.size + 1) h _ _ (v8 k) H1.out
          rw [List.setIfInBounds_toArray, v8, b8_set'', HS.out] at this
          exact this
        · exact (heap_setCell_other wr ⟨w.heap.size + 1, h, none⟩ w.heap.size _ (by simp)).trans H0.out
      case measure => simp [intOf]; omega
    · have hk16 : k = 16 := by omega
      subst hk16
      go_wp2_with (first
        | (refine wpList_load_row rfl 99 (.tmp 1) rfl (w.heap.size + 1) rfl _ _ _ _ H1.out Try.underlying99 rfl (by kernel_rfl) ?_)
        | (refine wpList_store_row rfl 99 (.tmp 0) (.tmp 15) rfl w.heap.size (b8 (Pat.bkTo 16)).toArray rfl rfl _ _ H0.out (info16b.trans (by simp [b8_length, Pat.bkTo_length])) (by simp [b8_length, Pat.bkTo_length]) (b8_one' (Pat.bkTo 16)) ?_))
      refine bodyPost_ret (results_cell_row rfl _ _ w.heap.size 99 (b8 (Pat.bkTo 16)).toArray (0, 0) _ rfl (setRow_heap wr w.heap.size _ _ _ (0, 0) H0.out) Try.underlying99 rfl (info16b.trans (by simp [b8_length, Pat.bkTo_length]))) rfl ⟨rfl, ?_⟩
      exact hb.trans ⟨rfl, rfl, rfl, by simp, fun i hi => setRow_other wr w.heap.size i _ (by omega)⟩
end Go.Proofs.Ytfgjlplfpjfnoaa
