/- The reference's twice: what it returns. -/
import Derived.Test.YtfgjlplfpjfnoaaRefJoin
import Derived.Deep.RegionWith
import Derived.Deep.RegionHeld
import Derived.RegionTactic
import Derived.BigRegion
namespace Go.Proofs.Ytfgjlplfpjfnoaa
open Go Go.RowKit
set_option linter.unusedVariables false

/-- Three blocks: the map, the answer's, the one being filled. -/
structure TwS (w : World) (K i : Nat) (W : World) : Prop where
  below : Below w.heap.size w W
  box : Mat W w.heap.size 102 K
  res : W.heap[w.heap.size + 1]? = some (.cells (matTo 0 0).toArray 102 (0, 0))
  row : W.heap[w.heap.size + 1 + 1]? = some (.cells (matTo (K + K) i).toArray 102 (0, 0))
theorem TwS.more {w : World} {K i : Nat} {W W' : World} (h : TwS w K i W) (hb : Below W.heap.size W W') : TwS w K i W' := by
  have l1 := (Array.getElem?_eq_some_iff.1 h.box).1
  have l2 := (Array.getElem?_eq_some_iff.1 h.res).1
  have l3 := (Array.getElem?_eq_some_iff.1 h.row).1
  exact ⟨h.below.trans (hb.mono h.below.size), (hb.block _ l1).trans h.box, (hb.block _ l2).trans h.res, (hb.block _ l3).trans h.row⟩
theorem TwS.drew {w : World} {K i : Nat} {W : World} (h : TwS w K i W) : TwS w K i W.drew := ⟨h.below.drew, h.box, h.res, h.row⟩
theorem step_load_row {P : Program} {ops : Array Oper} {o : Oper} {a : Act} {w : World} {K : Act → World → Prop} {Q : Exit → Act → World → Prop} {E : Prop} (hgd : o.guard = none) (ty : TypeId) (x : Operand) (ho : o.op = .load ty x)
    (g : Nat) (hx : a.eval x = .pointer (some ⟨g, 0, none⟩)) (t : TypeId) (cs : Array Value) (fr : Nat × Nat) (d : TypeDesc) (hg : w.heap[g]? = some (.cells cs t fr))
    (hu : P.underlying ty = some d) (hd : (match d with | .struct _ | .array _ _ => true | _ => false) = true) (hi : (P.info? ty).map (·.size) = some cs.size)
    (h : K (a.put o.dst (.agg cs)) w) : if Region.wanted o (yielded ops a.tmps) = true then Oper.wp P o a w K Q else E := by
  have hw : Region.wanted o (yielded ops a.tmps) = true := by simp [Region.wanted, hgd]
  rw [if_pos hw]
  exact wp_load_row ty x ho g hx t cs fr d hg hu hd hi h
theorem matv_one (K : Nat) : (matv K).toArray.all (·.oneCell') = true := by
  rw [Array.all_eq_true_iff_forall_mem]
  intro x hx
  simp only [List.mem_toArray, matv, List.mem_map] at hx
  obtain ⟨i, _, rfl⟩ := hx
  rfl
theorem info32 : (Try.prog.info? 102).map (·.size) = some 32 := by kernel_rfl

set_option maxHeartbeats 800000 in
set_option maxRecDepth 100000 in
theorem rtwice_any (K : Nat) (w : World) :
    Calls Try.prog 86 #[.agg (matv K).toArray] w fun e w' => e = .returned (.agg (matv (K + K)).toArray) ∧ Below w.heap.size w w' := by
  have z32 : (List.replicate 32 (v32 0)) = matTo 0 0 := by simp [matTo]
  have z32' : (List.replicate 32 (v32 0)) = matTo (K + K) 0 := by simp [matTo]
  go_enter Try.func86, Try.ntmps86
  go_wp2_with fail
  go_loopw [4] (fun vi wr => ∃ i : Nat, i ≤ 32 ∧ vi = .int .i64 (i : Int) ∧ TwS w K i wr) (fun vi _ => 32 - (intOf vi).toNat)
  case atStart =>
    refine ⟨0, by omega, rfl, ?_⟩
    refine ⟨(((Below.refl _ _).alloc (Nat.le_refl _) _).alloc (by simp) _).alloc (by simp; omega) _, ?_, ?_, ?_⟩
    · refine (((Below.refl (w.heap.size + 1) (w.alloc (.cells (matv K).toArray 102))).alloc (by simp) _).alloc (by simp) _).block _ (by simp) |>.trans (heap_alloc_new w _)
    · rw [← z32, show w.heap.size + 1 = (w.alloc (.cells (matv K).toArray 102)).heap.size from by simp]; exact heap_alloc2_old _ _ _
    · rw [← z32', show w.heap.size + 1 = (w.alloc (.cells (matv K).toArray 102)).heap.size from by simp]; exact heap_alloc2_new _ _ _
  case round =>
    obtain ⟨i, hi, rfl, hS⟩ := hrel
    by_cases hlt : i < 32
    · have hc := hS.box.cell hlt
      obtain ⟨t, ht⟩ : ∃ t, t = Crc.Mi K (2 ^ i) := ⟨_, rfl⟩
      have ht32 : t < 4294967296 := by rw [ht]; exact Crc.Mi_lt K (pow_lt_32 hlt)
      rw [← ht] at hc
      obtain ⟨z, hz⟩ : ∃ z, z = Crc.Mi K t := ⟨_, rfl⟩
      have hzz : z = Crc.Mi (K + K) (2 ^ i) := by rw [hz, ht, Crc.Mi_add]
      have HZ := Lib.hid hz
      have HZZ := Lib.hid hzz
      have i0 : (0 : Int) ≤ (i : Int) := by omega
      have i1 : (i : Int) < 32 := by omega
      have HS := Lib.hid hS.drew
      clear ht hz hzz hS
      go_wp2_with fail
      refine wp_region_any (by kernel_rfl) ?_
      (try (change wpAny _ _ _ _ _ _ _ (World.drew _)))
      refine wpAny_take (i := 0) (v := ?_) rfl (by kernel_rfl) (by kernel_rfl) (by kernel_rfl) (fun _ _ _ h => h) (Or.inl ⟨by rfl, ?_⟩) ?_
      case refine_2 => (intro w; go_simp; try with_reducible rfl)
      refine wpAny_take (i := 2) (v := ?_) rfl (by kernel_rfl) (by kernel_rfl) (by kernel_rfl) (fun _ _ _ h => h) (Or.inl ⟨by rfl, ?_⟩) ?_
      case refine_2 => (intro w; go_simp; try with_reducible rfl)
      refine wpAny_take (i := 3) (v := ?_) rfl (by kernel_rfl) (by kernel_rfl) (by kernel_rfl) (fun _ _ _ h => h) (Or.inl ⟨by rfl, ?_⟩) ?_
      case refine_2 => (intro w; go_simp; try with_reducible rfl)
      refine wpAny_ready (rs := [1, 4]) (by kernel_rfl) (by simp) ?_
      refine AllReady.cons rfl (fun K2 hK => ?_) (AllReady.cons rfl (fun K2 hK => ?_) AllReady.nil)
      ·
        refine step_load_row rfl 102 (.tmp 1) rfl w.heap.size (by rfl) _ _ _ _ HS.out.box Try.underlying102 rfl (info32.trans (by simp [matv_length])) ?_
        refine hK _ _ ?_
        clear hK K2
        refine wpAny_ready (rs := [4]) (by kernel_rfl) (by simp) ?_
        refine AllReady.cons rfl (fun K2 hK => ?_) AllReady.nil
        go_simp
        refine hK _ _ ?_
        clear hK K2
        refine wpAny_ready (rs := [5]) (by kernel_rfl) (by simp) ?_
        refine AllReady.cons rfl (fun K2 hK => ?_) AllReady.nil
        go_simp
        refine (rof_any K t z _ ht32 HZ.out).mono ?_
        rintro e w5 ⟨rfl, hb5⟩
        refine hK _ _ ?_
        clear hK K2
        have hS5 := HS.out.more hb5
        have hc5 : w5.cell? ⟨w.heap.size + 1 + 1, i, none⟩ = some (.int .u32 0) := by
          rw [cell_of_row w5 _ i _ _ _ hS5.row]
          simpa [v32] using matTo_get (K + K) i hlt
        have hf5 : w5.frozen? ⟨w.heap.size + 1 + 1, i, none⟩ = false := frozen_of_row w5 _ i _ _ hS5.row
        refine wpAny_take (i := 6) (v := ?_) rfl (by kernel_rfl) (by kernel_rfl) (by kernel_rfl) (fun _ _ _ h => h) (Or.inl ⟨by rfl, ?_⟩) ?_
        case refine_2 => (intro w; go_simp; try with_reducible rfl)
        refine wpAny_ready (rs := [7]) (by kernel_rfl) (by simp) ?_
        refine AllReady.cons rfl (fun K2 hK => ?_) AllReady.nil
        go_simp
        refine hK _ _ ?_
        clear hK K2
        refine wpAny_done (by kernel_rfl) ?_ _
        go_wp2_with fail
        go_roundw
        case rel =>
          refine ⟨i + 1, by omega, by go_num, hS5.below.setCell (by simp only; omega) _, ?_, ?_, ?_⟩
          · exact (heap_setCell_other w5 ⟨w.heap.size + 1 + 1, i, none⟩ w.heap.size _ (by simp only; omega)).trans hS5.box
          · exact (heap_setCell_other w5 ⟨w.heap.size + 1 + 1, i, none⟩ (w.heap.size + 1) _ (by simp only; omega)).trans hS5.res
          · have := heap_setCell_same w5 (w.heap.size + 1 + 1) i _ _ (v32 (Crc.Mi (K + K) (2 ^ i))) hS5.row
            rw [List.setIfInBounds_toArray, matTo_set (K + K) i hlt] at this
            rw [HZZ.out]
            exact this
        case measure => simp [intOf]; omega
      ·
        go_simp
        refine hK _ _ ?_
        clear hK K2
        refine wpAny_ready (rs := [1]) (by kernel_rfl) (by simp) ?_
        refine AllReady.cons rfl (fun K2 hK => ?_) AllReady.nil
        refine step_load_row rfl 102 (.tmp 1) rfl w.heap.size (by rfl) _ _ _ _ HS.out.box Try.underlying102 rfl (info32.trans (by simp [matv_length])) ?_
        refine hK _ _ ?_
        clear hK K2
        refine wpAny_ready (rs := [5]) (by kernel_rfl) (by simp) ?_
        refine AllReady.cons rfl (fun K2 hK => ?_) AllReady.nil
        go_simp
        refine (rof_any K t z _ ht32 HZ.out).mono ?_
        rintro e w5 ⟨rfl, hb5⟩
        refine hK _ _ ?_
        clear hK K2
        have hS5 := HS.out.more hb5
        have hc5 : w5.cell? ⟨w.heap.size + 1 + 1, i, none⟩ = some (.int .u32 0) := by
          rw [cell_of_row w5 _ i _ _ _ hS5.row]
          simpa [v32] using matTo_get (K + K) i hlt
        have hf5 : w5.frozen? ⟨w.heap.size + 1 + 1, i, none⟩ = false := frozen_of_row w5 _ i _ _ hS5.row
        refine wpAny_take (i := 6) (v := ?_) rfl (by kernel_rfl) (by kernel_rfl) (by kernel_rfl) (fun _ _ _ h => h) (Or.inl ⟨by rfl, ?_⟩) ?_
        case refine_2 => (intro w; go_simp; try with_reducible rfl)
        refine wpAny_ready (rs := [7]) (by kernel_rfl) (by simp) ?_
        refine AllReady.cons rfl (fun K2 hK => ?_) AllReady.nil
        go_simp
        refine hK _ _ ?_
        clear hK K2
        refine wpAny_done (by kernel_rfl) ?_ _
        go_wp2_with fail
        go_roundw
        case rel =>
          refine ⟨i + 1, by omega, by go_num, hS5.below.setCell (by simp only; omega) _, ?_, ?_, ?_⟩
          · exact (heap_setCell_other w5 ⟨w.heap.size + 1 + 1, i, none⟩ w.heap.size _ (by simp only; omega)).trans hS5.box
          · exact (heap_setCell_other w5 ⟨w.heap.size + 1 + 1, i, none⟩ (w.heap.size + 1) _ (by simp only; omega)).trans hS5.res
          · have := heap_setCell_same w5 (w.heap.size + 1 + 1) i _ _ (v32 (Crc.Mi (K + K) (2 ^ i))) hS5.row
            rw [List.setIfInBounds_toArray, matTo_set (K + K) i hlt] at this
            rw [HZZ.out]
            exact this
        case measure => simp [intOf]; omega
    · have hi32 : i = 32 := by omega
      subst hi32
      have hrow := hS.row
      rw [matTo_full] at hrow
      have hres := hS.res
      have hb := hS.below
      have hsz := hb.size
      have HR := Lib.hid hrow
      have HE := Lib.hid hres
      clear hS hrow hres
      go_wp2_with (first
        | (refine wpList_load_row rfl 102 (.tmp 3) rfl (w.heap.size + 1 + 1) rfl _ _ _ _ HR.out Try.underlying102 rfl (info32.trans (by simp [matv_length])) ?_)
        | (refine wpList_store_row rfl 102 (.tmp 2) (.tmp 16) rfl (w.heap.size + 1) (matv (K + K)).toArray rfl rfl _ _ HE.out (info32.trans (by simp [matv_length])) (by simp [matv_length, matTo_length]) (matv_one (K + K)) ?_))
      refine bodyPost_ret (results_cell_row rfl _ _ (w.heap.size + 1) 102 (matv (K + K)).toArray (0, 0) _ rfl (setRow_heap wr (w.heap.size + 1) _ _ _ (0, 0) HE.out) Try.underlying102 rfl (info32.trans (by simp [matv_length]))) rfl ⟨rfl, ?_⟩
      exact hb.trans ⟨rfl, rfl, rfl, by simp, fun i hi => setRow_other wr (w.heap.size + 1) i _ (by omega)⟩
end Go.Proofs.Ytfgjlplfpjfnoaa
