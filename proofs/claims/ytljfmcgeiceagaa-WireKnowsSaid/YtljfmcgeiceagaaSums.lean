/- octet.step, sums, Extend, Sum: what they return. -/
import Derived.Test.YtljfmcgeiceagaaF1
import Derived.Test.YtljfmcgeiceagaaCrc
import Derived.Laws.Tables
namespace Go.Proofs.Ytljfmcgeiceagaa
open Go Go.RowKit
set_option linter.unusedVariables false

theorem and1_u32 (x : Nat) (h : x < 4294967296) : bits .and .u32 (x : Int) 1 = ((x % 2 : Nat) : Int) := by
  have := u32_and_nat x 1 h (by omega)
  rw [nat_mask1] at this
  exact this
theorem xor_poly (x : Nat) (h : x < 4294967296) : bits .xor .u32 ((x : Int) / 2) 2197175160 = ((x / 2 ^^^ Crc.poly : Nat) : Int) := by
  have e : (x : Int) / 2 = ((x / 2 : Nat) : Int) := by omega
  rw [e]
  exact u32_xor_nat (x / 2) 2197175160 (by omega) (by omega)
theorem M_odd {x : Nat} (h : x % 2 = 1) : Crc.M x = (x / 2) ^^^ Crc.poly := by unfold Crc.M; rw [if_pos h]
theorem M_even {x : Nat} (h : ¬ x % 2 = 1) : Crc.M x = x / 2 := by unfold Crc.M; rw [if_neg h]

theorem step_any (x : Nat) (w : World) (h : x < 4294967296) :
    Calls Try.prog 77 #[.int .u32 (x : Int)] w fun e w' => e = .returned (.int .u32 ((Crc.M x : Nat) : Int)) ∧ w = w' := by
  have ha := and1_u32 x h
  by_cases hx : x % 2 = 1
  · have hb : (bits .and .u32 (x : Int) 1 != 0) = true := by rw [ha, bne_iff_ne]; omega
    have HM := Lib.hid (M_odd hx)
    clear ha hx
    go_enter Try.func77, Try.ntmps77
    go_wp2
    go_ret
    exact ⟨ret_i (by rw [HM.out]; exact xor_poly x h), rfl⟩
  · have hb : (bits .and .u32 (x : Int) 1 != 0) = false := by rw [ha, bne_eq_false_iff_eq]; omega
    have HM := Lib.hid (M_even hx)
    clear ha hx
    go_enter Try.func77, Try.ntmps77
    go_wp2
    go_ret
    exact ⟨ret_i (by rw [HM.out]; omega), rfl⟩

def v32 (x : Nat) : Value := .int .u32 (x : Int)
/-- The table of half bytes. -/
def tab : List Value := (List.range 16).map fun i => v32 (Crc.Mi 4 i)
def tabTo (k : Nat) : List Value := (List.range k).map (fun i => v32 (Crc.Mi 4 i)) ++ List.replicate (16 - k) (v32 0)

theorem tabTo_length (k : Nat) (h : k ≤ 16) : (tabTo k).length = 16 := by simp [tabTo]; omega
theorem tabTo_get (k : Nat) (h : k < 16) : (tabTo k)[k]? = some (v32 0) := by
  unfold tabTo
  rw [List.getElem?_append_right (by simp), List.getElem?_replicate, if_pos (by simp; omega)]
theorem tabTo_set (k : Nat) (h : k < 16) : (tabTo k).set k (v32 (Crc.Mi 4 k)) = tabTo (k + 1) := by
  unfold tabTo
  rw [List.set_append_right _ _ (by simp)]
  obtain ⟨m, hm⟩ : ∃ m, 16 - k = m + 1 := ⟨15 - k, by omega⟩
  rw [hm, show 16 - (k + 1) = m from by omega, List.range_succ]
  simp [List.replicate_succ]
theorem tabTo_one (k : Nat) : (tabTo k).toArray.all (·.oneCell') = true := by
  rw [Array.all_eq_true_iff_forall_mem]
  intro x hx
  simp only [List.mem_toArray, tabTo, List.mem_append, List.mem_map, List.mem_replicate] at hx
  rcases hx with ⟨i, _, rfl⟩ | ⟨_, rfl⟩ <;> rfl
theorem info16 : (Try.prog.info? 80).map (·.size) = some 16 := by kernel_rfl
theorem tabTo_full : tabTo 16 = tab := by simp [tabTo, tab]

set_option maxHeartbeats 800000 in
set_option maxRecDepth 100000 in
theorem sums_any (w : World) :
    Calls Try.prog 52 #[] w fun e w' => e = .returned (.agg tab.toArray) ∧ Below w.heap.size w w' := by
  have z16 : (List.replicate 16 (v32 0)) = tabTo 0 := by simp [tabTo]
  go_enter Try.func52, Try.ntmps52
  go_wp2_with fail
  go_loopw [4] (fun i wr => ∃ k : Nat, k ≤ 16 ∧ i = .int .i64 k ∧ Hid (wr.heap[w.heap.size + 1]? = some (.cells (tabTo k).toArray 80 (0, 0))) ∧ Hid (wr.heap[w.heap.size]? = some (.cells (tabTo 0).toArray 80 (0, 0))) ∧ Below w.heap.size w wr) (fun i _ => 16 - (intOf i).toNat)
  case atStart => exact ⟨0, by omega, rfl, by rw [← z16]; exact heap_alloc2_new _ _ _, by rw [← z16]; exact heap_alloc2_old _ _ _, ((Below.refl _ _).alloc (Nat.le_refl _) _).alloc (by simp) _⟩
  case round =>
    obtain ⟨k, hk, rfl, H1, H0, hb⟩ := hrel
    by_cases hlt : k < 16
    · have hc : wr.cell? ⟨w.heap.size + 1, k, none⟩ = some (.int .u32 0) := by
        rw [cell_of_row wr _ k _ _ _ H1.out]
        simpa [v32] using tabTo_get k hlt
      have hd : decide ((k : Int) < 16) = true := by simp; omega
      have hf : wr.frozen? ⟨w.heap.size + 1, k, none⟩ = false := frozen_of_row wr _ k _ _ H1.out
      go_wp2_with fail
      go_loop [3, 9] (fun x i => ∃ j : Nat, j ≤ 4 ∧ i = .int .i64 j ∧ x = .int .u32 ((Crc.Mi j k : Nat) : Int)) (fun _ i => 4 - (intOf i).toNat)
      case atStart => exact ⟨0, by omega, rfl, by rw [Crc.Mi_none]⟩
      case round =>
        obtain ⟨j, hj, rfl, rfl⟩ := hrel
        have hmi : Crc.Mi j k < 4294967296 := Crc.Mi_lt j (by omega)
        by_cases hj4 : j < 4
        · have hnext : Crc.M (Crc.Mi j k) = Crc.Mi (j + 1) k := by rw [Crc.Mi_add j 1 k, Crc.Mi_more, Crc.Mi_none]
          have HN := Lib.hid hnext
          clear hnext
          go_wp2_with fail
          refine (step_any (Crc.Mi j k) _ hmi).mono ?_
          rintro e w' ⟨rfl, rfl⟩
          rw [HN.out]
          go_wp2_with fail
          go_round
          case rel => exact ⟨j + 1, by omega, by go_num, rfl⟩
          case measure => simp [intOf]; omega
        · have hj44 : j = 4 := by omega
          subst hj44
          go_wp2_with fail
          go_roundw
          case rel =>
            refine ⟨k + 1, by omega, by go_num, ?_, ?_, hb.setCell (by simp) _⟩
            · have := heap_setCell_same wr (w.heap.size + 1) k _ _ (v32 (Crc.Mi 4 k)) H1.out
              rw [List.setIfInBounds_toArray, tabTo_set k hlt] at this
              exact this
            · exact (heap_setCell_other wr ⟨w.heap.size + 1, k, none⟩ w.heap.size _ (by simp)).trans H0.out
          case measure => simp [intOf]; omega
    · have hk16 : k = 16 := by omega
      subst hk16
      go_wp2_with (first
        | (refine wpList_load_row rfl 80 (.tmp 1) rfl (w.heap.size + 1) rfl _ _ _ _ H1.out Try.underlying80 rfl (by kernel_rfl) ?_)
        | (refine wpList_store_row rfl 80 (.tmp 0) (.tmp 18) rfl w.heap.size (tabTo 16).toArray rfl rfl _ _ H0.out (info16.trans (by simp [tabTo_length])) (by simp [tabTo_length]) (tabTo_one 16) ?_))
      refine bodyPost_ret (results_cell_row rfl _ _ w.heap.size 80 (tabTo 16).toArray (0, 0) _ rfl (setRow_heap wr w.heap.size _ _ _ (0, 0) H0.out) Try.underlying80 rfl (info16.trans (by simp [tabTo_length]))) rfl ⟨by rw [tabTo_full], ?_⟩
      exact hb.trans ⟨rfl, rfl, rfl, by simp, fun i hi => setRow_other wr w.heap.size i _ (by omega)⟩

theorem and15 (y : Nat) (h : y < 4294967296) : bits .and .u32 (y : Int) 15 = ((y % 16 : Nat) : Int) := by
  have := u32_and_nat y 15 h (by omega)
  rw [nat_mask4] at this
  exact this
theorem xor_shift4 (t y : Nat) (ht : t < 4294967296) (h : y < 4294967296) : bits .xor .u32 (t : Int) ((y : Int) / 16) = ((t ^^^ y / 16 : Nat) : Int) := by
  have e : (y : Int) / 16 = ((y / 16 : Nat) : Int) := by omega
  rw [e]
  exact u32_xor_nat t (y / 16) ht (by omega)
theorem tab_get (r : Nat) (h : r < 16) : tab[r]? = some (.int .u32 ((Crc.Mi 4 r : Nat) : Int)) := by
  unfold tab
  rw [List.getElem?_map, List.getElem?_range h]
  rfl

/-- A step of half a byte, all that a walk wants of it. -/
theorem half (y : Nat) (h : y < 4294967296) : ∃ r t z : Nat, bits .and .u32 (y : Int) 15 = (r : Int) ∧ r < 16 ∧ tab[r]? = some (.int .u32 (t : Int)) ∧ bits .xor .u32 (t : Int) ((y : Int) / 16) = (z : Int) ∧ z = Crc.Mi 4 y ∧ z < 4294967296 := by
  have hr : y % 16 < 16 := Nat.mod_lt _ (by omega)
  have ht : Crc.Mi 4 (y % 16) < 4294967296 := Crc.Mi_lt 4 (by omega)
  have hz : Crc.Mi 4 y < 4294967296 := Crc.Mi_lt 4 h
  refine ⟨y % 16, Crc.Mi 4 (y % 16), Crc.Mi 4 y, and15 y h, hr, tab_get _ hr, ?_, rfl, hz⟩
  rw [xor_shift4 _ _ ht h, ← Crc.Mi4]

theorem xor_max (x : Nat) (h : x < 4294967296) : bits .xor .u32 IntKind.u32.max (x : Int) = ((x ^^^ Crc.ones : Nat) : Int) := by
  have := u32_xor_nat 4294967295 x (by omega) h
  rw [Nat.xor_comm] at this
  exact this

theorem load_tab {w : World} {g r t : Nat} {e : TypeId} (h : w.heap[g]? = some (.cells tab.toArray e (0, 0))) (hr : tab[r]? = some (.int .u32 (t : Int))) : w.cell? ⟨g, r, none⟩ = some (.int .u32 (t : Int)) := by
  rw [cell_of_row w g r _ _ _ h]
  simpa using hr

set_option maxHeartbeats 800000 in
set_option maxRecDepth 100000 in
theorem extend_all (s : Nat) (A : Option Addr) (c : Nat) (bs : List Nat) (w : World) (hs : s < 4294967296) (hr : Rd w A (b8 bs)) (hby : By bs) (hl : bs.length ≤ 140737488355328) :
    Calls Try.prog 32 #[.int .u32 (s : Int), .slice A bs.length c] w fun e w' => e = .returned (.int .u32 ((Crc.ext s bs : Nat) : Int)) ∧ Below w.heap.size w w' := by
  go_enter Try.func32, Try.ntmps32
  go_wp2_with fail
  refine (sums_any w).mono ?_
  rintro e w1 ⟨rfl, hb1⟩
  go_wp2_with (refine wpList_store_row rfl 80 (.tmp 6) (.tmp 11) rfl w1.heap.size tab.toArray rfl rfl _ _ (heap_alloc_new w1 _) (info16.trans (by rw [← tabTo_full]; simp [tabTo_length])) (by rw [← tabTo_full]; simp [tabTo_length]) (by rw [← tabTo_full]; exact tabTo_one 16) ?_)
  obtain ⟨W, hW⟩ : ∃ W : World, W = (w1.alloc (.cells #[.int .u32 0, .int .u32 0, .int .u32 0, .int .u32 0, .int .u32 0, .int .u32 0, .int .u32 0, .int .u32 0, .int .u32 0, .int .u32 0, .int .u32 0, .int .u32 0, .int .u32 0, .int .u32 0, .int .u32 0, .int .u32 0] 80)).setRow w1.heap.size tab.toArray := ⟨_, rfl⟩
  have hg : W.heap[w1.heap.size]? = some (.cells tab.toArray 80 (0, 0)) := by
    rw [hW]
    exact setRow_heap _ _ _ _ _ (0, 0) (heap_alloc_new w1 _)
  have hbW : Below w.heap.size w W := by
    rw [hW]
    refine (hb1.alloc hb1.size _).trans ⟨rfl, rfl, rfl, by simp, fun i hi => setRow_other _ _ i _ ?_⟩
    have := hb1.size
    omega
  rw [← hW]
  have HG := Lib.hid hg
  have HR := Lib.hid (hr.below hbW)
  have HX := Lib.hid (xor_max s hs)
  have hs1 : s ^^^ Crc.ones < 4294967296 := Crc.xor_lt (n := 32) hs Crc.ones_lt
  have HS1 := Lib.hid hs1
  clear hg hW hb1 hr hs1
  go_loop [5, 14] (fun v i => ∃ k x : Nat, k ≤ bs.length ∧ i = .int .i64 k ∧ v = .int .u32 (x : Int) ∧ x < 4294967296 ∧ Hid (Crc.reg (s ^^^ Crc.ones) bs = Crc.reg x (bs.drop k))) (fun _ i => bs.length - (intOf i).toNat)
  case atStart => exact ⟨0, s ^^^ Crc.ones, Nat.zero_le _, rfl, by rw [HX.out], HS1.out, by simp [Hid]⟩
  case round =>
    obtain ⟨k, x, hk, rfl, rfl, hx32, H⟩ := hrel
    by_cases hlt : k < bs.length
    · obtain ⟨b, hb, hb256, hdr⟩ := hby.get hlt
      obtain ⟨g, off, rfl, hg, hcell⟩ := HR.out.at_ hb
      have hN : Crc.reg (s ^^^ Crc.ones) bs = Crc.reg (Crc.Mi 8 (x ^^^ b)) (bs.drop (k + 1)) := by rw [H.out, hdr, Crc.reg]
      obtain ⟨y, hy⟩ : ∃ y, y = x ^^^ b := ⟨_, rfl⟩
      have e1 : bits .xor .u32 (x : Int) (b : Int) = (y : Int) := by rw [hy]; exact u32_xor_nat x b hx32 (by omega)
      have hy32 : y < 4294967296 := by rw [hy]; exact Crc.xor_lt (n := 32) hx32 (by omega)
      obtain ⟨r1, t1, z1, f1, f2, f3, f4, f5, f6⟩ := half y hy32
      obtain ⟨r2, t2, z2, f7, f8, f9, f10, f11, f12⟩ := half z1 f6
      have g1 := load_tab HG.out f3
      have g2 := load_tab HG.out f9
      have hM : z2 = Crc.Mi 8 (x ^^^ b) := by rw [f11, f5, hy]; exact (Crc.Mi_add 4 4 _).symm
      rw [← hM] at hN
      have HN := Lib.hid hN
      clear hN hM hy f5 f11 f3 f9 hb hdr H
      go_wp2_with fail
      go_round
      case rel => exact ⟨k + 1, z2, by omega, by go_num, rfl, f12, HN⟩
      case measure => simp [intOf]; omega
    · have hN : Crc.ext s bs = x ^^^ Crc.ones := by unfold Crc.ext; rw [H.out, List.drop_eq_nil_of_le (by omega), Crc.reg]
      have HN := Lib.hid hN
      clear hN H
      go_wp2_with fail
      go_ret
      exact ⟨ret_i (by rw [HN.out]; exact xor_max x hx32), hbW⟩

theorem extend_any (s : Nat) (A : Option Addr) (n c : Nat) (bs : List Nat) (w : World) (hs : s < 4294967296) (hr : Rd w A (b8 bs)) (hby : By bs) (hn : bs.length = n) (hl : n ≤ 140737488355328) :
    Calls Try.prog 32 #[.int .u32 (s : Int), .slice A n c] w fun e w' => e = .returned (.int .u32 ((Crc.ext s bs : Nat) : Int)) ∧ Below w.heap.size w w' := by
  subst hn
  exact extend_all s A c bs w hs hr hby hl

set_option maxRecDepth 100000 in
theorem sum_any (A : Option Addr) (n c : Nat) (bs : List Nat) (w : World) (hr : Rd w A (b8 bs)) (hby : By bs) (hn : bs.length = n) (hl : n ≤ 140737488355328) :
    Calls Try.prog 33 #[.slice A n c] w fun e w' => e = .returned (.int .u32 ((Crc.ext 0 bs : Nat) : Int)) ∧ Below w.heap.size w w' := by
  go_enter Try.func33, Try.ntmps33
  go_wp2_with fail
  refine (extend_any 0 A n c bs w (by omega) hr hby hn hl).mono ?_
  rintro e w1 ⟨rfl, hb⟩
  go_wp2_with fail
  go_ret
  exact ⟨rfl, hb⟩
end Go.Proofs.Ytljfmcgeiceagaa
