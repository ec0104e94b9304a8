/- Several texts in one: Crc, Sums, PatPlain, Patch, RefSums. -/
import Derived.Test.YtljfmcgeiceagaaGreatF1
import Derived.Laws.Tables
import Derived.ChangeKeysEq
/- The check sum as a linear map of registers: plain laws on numbers. -/
namespace Go.Proofs.YtljfmcgeiceagaaGreat.Crc

def poly : Nat := 2197175160
def ones : Nat := 4294967295
/-- One step of the register. -/
def M (x : Nat) : Nat := if x % 2 = 1 then (x / 2) ^^^ poly else x / 2
def Mi : Nat → Nat → Nat
  | 0, x => x
  | k + 1, x => Mi k (M x)

theorem xor_mod2 (x y : Nat) : (x ^^^ y) % 2 = (x % 2 + y % 2) % 2 := by
  have h := Nat.testBit_xor (x := x) (y := y) (i := 0)
  simp only [Nat.testBit_zero] at h
  rcases Nat.mod_two_eq_zero_or_one x with hx | hx <;> rcases Nat.mod_two_eq_zero_or_one y with hy | hy <;>
    rcases Nat.mod_two_eq_zero_or_one (x ^^^ y) with hz | hz <;> simp [hx, hy, hz] at h ⊢

theorem xor_div2 (x y : Nat) : (x ^^^ y) / 2 = x / 2 ^^^ y / 2 := by
  apply Nat.eq_of_testBit_eq
  intro i
  simp [Nat.testBit_div_two, Nat.testBit_xor]

theorem xor_lt {x y n : Nat} (hx : x < 2 ^ n) (hy : y < 2 ^ n) : x ^^^ y < 2 ^ n := Nat.xor_lt_two_pow hx hy

theorem xor4 (a b c d : Nat) : (a ^^^ b) ^^^ (c ^^^ d) = (a ^^^ c) ^^^ (b ^^^ d) := by ac_rfl

theorem M_xor (x y : Nat) : M (x ^^^ y) = M x ^^^ M y := by
  unfold M
  rw [xor_mod2, xor_div2]
  rcases Nat.mod_two_eq_zero_or_one x with hx | hx <;> rcases Nat.mod_two_eq_zero_or_one y with hy | hy
  · simp [hx, hy]
  · simp [hx, hy, Nat.xor_assoc]
  · simp [hx, hy]; ac_rfl
  · simp only [hx, hy]
    simp only [Nat.reduceAdd, Nat.reduceMod, if_true]
    rw [xor4, Nat.xor_self, Nat.xor_zero]
    simp

theorem M_lt {x : Nat} (h : x < 2 ^ 32) : M x < 2 ^ 32 := by
  unfold M
  split
  · exact xor_lt (by omega) (by decide)
  · omega

theorem M_two (y : Nat) : M (2 * y) = y := by
  unfold M
  rw [if_neg (by omega)]
  omega

theorem Mi_xor : ∀ (k x y : Nat), Mi k (x ^^^ y) = Mi k x ^^^ Mi k y := by
  intro k
  induction k with
  | zero => intro x y; rfl
  | succ k ih => intro x y; simp only [Mi, M_xor, ih]
theorem Mi_lt : ∀ (k : Nat) {x : Nat}, x < 2 ^ 32 → Mi k x < 2 ^ 32 := by
  intro k
  induction k with
  | zero => intro x h; exact h
  | succ k ih => intro x h; exact ih (M_lt h)
theorem Mi_add : ∀ (j k x : Nat), Mi (j + k) x = Mi k (Mi j x) := by
  intro j
  induction j with
  | zero => intro k x; simp [Mi]
  | succ j ih => intro k x; rw [Nat.succ_add]; simp only [Mi]; exact ih k (M x)
theorem Mi_pow : ∀ (k y : Nat), Mi k (2 ^ k * y) = y := by
  intro k
  induction k with
  | zero => intro y; simp [Mi]
  | succ k ih => intro y; simp only [Mi]; rw [Nat.pow_succ, Nat.mul_comm (2 ^ k) 2, Nat.mul_assoc, M_two]; exact ih y

theorem Mi_none (x : Nat) : Mi 0 x = x := rfl
theorem Mi_more (k x : Nat) : Mi (k + 1) x = Mi k (M x) := rfl
attribute [irreducible] M Mi

/-- The register behind bytes. -/
def reg : Nat → List Nat → Nat
  | x, [] => x
  | x, c :: r => reg (Mi 8 (x ^^^ c)) r

theorem reg_lt : ∀ (l : List Nat) (x : Nat), x < 2 ^ 32 → (∀ b ∈ l, b < 256) → reg x l < 2 ^ 32 := by
  intro l
  induction l with
  | nil => intro x h _; exact h
  | cons c t ih =>
    intro x h hb
    show reg (Mi 8 (x ^^^ c)) t < 2 ^ 32
    refine ih (Mi 8 (x ^^^ c)) (Mi_lt 8 (xor_lt h ?_)) (fun b hb' => hb b (by simp [hb']))
    have := hb c (by simp)
    omega

/-- The sum, from a number on. -/
def ext (s : Nat) (l : List Nat) : Nat := reg (s ^^^ ones) l ^^^ ones

theorem ones_lt : ones < 2 ^ 32 := by decide
theorem ext_lt {s : Nat} {l : List Nat} (hs : s < 2 ^ 32) (hl : ∀ b ∈ l, b < 256) : ext s l < 2 ^ 32 :=
  xor_lt (reg_lt l _ (xor_lt hs ones_lt) hl) ones_lt
/-- Steps of half a byte: by a table of sixteen. -/
theorem Mi4 (x : Nat) : Mi 4 x = Mi 4 (x % 16) ^^^ x / 16 := by
  have hx : x = x % 16 ^^^ 2 ^ 4 * (x / 16) := by
    apply Nat.eq_of_testBit_eq
    intro i
    rw [Nat.testBit_xor]
    have h16 : x % 16 = x % 2 ^ 4 := rfl
    rw [h16, Nat.testBit_mod_two_pow, Nat.testBit_two_pow_mul]
    by_cases hi : i < 4
    · have h3 : decide (4 ≤ i) = false := by simp; omega
      rw [h3]
      simp [hi]
    · simp only [hi, decide_false, Bool.false_and, Bool.false_xor]
      have h3 : decide (4 ≤ i) = true := by simp; omega
      have h2 : x / 16 = x / 2 ^ 4 := rfl
      rw [h3, Bool.true_and, h2, Nat.testBit_div_two_pow]
      congr 1
      omega
  conv => lhs; rw [hx]
  rw [Mi_xor, Mi_pow]
end Go.Proofs.YtljfmcgeiceagaaGreat.Crc

/- octet.step, sums, Extend, Sum: what they return. -/
namespace Go.Proofs.YtljfmcgeiceagaaGreat
open Go Go.RowKit
set_option linter.unusedVariables false

theorem and1_u32 (x : Nat) (h : x < 4294967296) : bits .and .u32 (x : Int) 1 = ((x % 2 : Nat) : Int) := by
  have := u32_and_nat x 1 h (by omega)
  rw [nat_mask1] at this
  exact this
theorem xor_poly (x : Nat) (h : x < 4294967296) : bits .xor .u32 ((x : Int) / 2) 2197175160 = ((x / 2 ^^^ Crc.poly : Nat) : Int) := by
  have e : (x : Int) / 2 = ((x / 2 : Nat) : Int) := by omega
  rw [e]
  exact u32_xor_nat (x / 2) 2197175160 (by omega) (by omega)
theorem M_odd {x : Nat} (h : x % 2 = 1) : Crc.M x = (x / 2) ^^^ Crc.poly := by unfold Crc.M; rw [if_pos h]
theorem M_even {x : Nat} (h : ¬ x % 2 = 1) : Crc.M x = x / 2 := by unfold Crc.M; rw [if_neg h]

theorem step_any (x : Nat) (w : World) (h : x < 4294967296) :
    Calls Tryz.prog 108 #[.int .u32 (x : Int)] w fun e w' => e = .returned (.int .u32 ((Crc.M x : Nat) : Int)) ∧ w = w' := by
  have ha := and1_u32 x h
  by_cases hx : x % 2 = 1
  · have hb : (bits .and .u32 (x : Int) 1 != 0) = true := by rw [ha, bne_iff_ne]; omega
    have HM := Lib.hid (M_odd hx)
    clear ha hx
    go_enter Tryz.func108, Tryz.ntmps108
    go_wp2
    go_ret
    exact ⟨ret_i (by rw [HM.out]; exact xor_poly x h), rfl⟩
  · have hb : (bits .and .u32 (x : Int) 1 != 0) = false := by rw [ha, bne_eq_false_iff_eq]; omega
    have HM := Lib.hid (M_even hx)
    clear ha hx
    go_enter Tryz.func108, Tryz.ntmps108
    go_wp2
    go_ret
    exact ⟨ret_i (by rw [HM.out]; omega), rfl⟩

def v32 (x : Nat) : Value := .int .u32 (x : Int)
/-- The table of half bytes. -/
def tab : List Value := (List.range 16).map fun i => v32 (Crc.Mi 4 i)
def tabTo (k : Nat) : List Value := (List.range k).map (fun i => v32 (Crc.Mi 4 i)) ++ List.replicate (16 - k) (v32 0)

theorem tabTo_length (k : Nat) (h : k ≤ 16) : (tabTo k).length = 16 := by simp [tabTo]; omega
theorem tabTo_get (k : Nat) (h : k < 16) : (tabTo k)[k]? = some (v32 0) := by
  unfold tabTo
  rw [List.getElem?_append_right (by simp), List.getElem?_replicate, if_pos (by simp; omega)]
theorem tabTo_set (k : Nat) (h : k < 16) : (tabTo k).set k (v32 (Crc.Mi 4 k)) = tabTo (k + 1) := by
  unfold tabTo
  rw [List.set_append_right _ _ (by simp)]
  obtain ⟨m, hm⟩ : ∃ m, 16 - k = m + 1 := ⟨15 - k, by omega⟩
  rw [hm, show 16 - (k + 1) = m from by omega, List.range_succ]
  simp [List.replicate_succ]
theorem tabTo_one (k : Nat) : (tabTo k).toArray.all (·.oneCell') = true := by
  rw [Array.all_eq_true_iff_forall_mem]
  intro x hx
  simp only [List.mem_toArray, tabTo, List.mem_append, List.mem_map, List.mem_replicate] at hx
  rcases hx with ⟨i, _, rfl⟩ | ⟨_, rfl⟩ <;> rfl
theorem info16 : (Tryz.prog.info? 112).map (·.size) = some 16 := by kernel_rfl
theorem tabTo_full : tabTo 16 = tab := by simp [tabTo, tab]

set_option maxHeartbeats 800000 in
set_option maxRecDepth 100000 in
theorem sums_any (w : World) :
    Calls Tryz.prog 99 #[] w fun e w' => e = .returned (.agg tab.toArray) ∧ Below w.heap.size w w' := by
  have z16 : (List.replicate 16 (v32 0)) = tabTo 0 := by simp [tabTo]
  go_enter Tryz.func99, Tryz.ntmps99
  go_wp2_with fail
  go_loopw [4] (fun i wr => ∃ k : Nat, k ≤ 16 ∧ i = .int .i64 k ∧ Hid (wr.heap[w.heap.size + 1]? = some (.cells (tabTo k).toArray 112 (0, 0))) ∧ Hid (wr.heap[w.heap.size]? = some (.cells (tabTo 0).toArray 112 (0, 0))) ∧ Below w.heap.size w wr) (fun i _ => 16 - (intOf i).toNat)
  case atStart => exact ⟨0, by omega, rfl, by rw [← z16]; exact heap_alloc2_new _ _ _, by rw [← z16]; exact heap_alloc2_old _ _ _, ((Below.refl _ _).alloc (Nat.le_refl _) _).alloc (by simp) _⟩
  case round =>
    obtain ⟨k, hk, rfl, H1, H0, hb⟩ := hrel
    by_cases hlt : k < 16
    · have hc : wr.cell? ⟨w.heap.size + 1, k, none⟩ = some (.int .u32 0) := by
        rw [cell_of_row wr _ k _ _ _ H1.out]
        simpa [v32] using tabTo_get k hlt
      have hd : decide ((k : Int) < 16) = true := by simp; omega
      have hf : wr.frozen? ⟨w.heap.size + 1, k, none⟩ = false := frozen_of_row wr _ k _ _ H1.out
      go_wp2_with fail
      go_loop [3, 9] (fun x i => ∃ j : Nat, j ≤ 4 ∧ i = .int .i64 j ∧ x = .int .u32 ((Crc.Mi j k : Nat) : Int)) (fun _ i => 4 - (intOf i).toNat)
      case atStart => exact ⟨0, by omega, rfl, by rw [Crc.Mi_none]⟩
      case round =>
        obtain ⟨j, hj, rfl, rfl⟩ := hrel
        have hmi : Crc.Mi j k < 4294967296 := Crc.Mi_lt j (by omega)
        by_cases hj4 : j < 4
        · have hnext : Crc.M (Crc.Mi j k) = Crc.Mi (j + 1) k := by rw [Crc.Mi_add j 1 k, Crc.Mi_more, Crc.Mi_none]
          have HN := Lib.hid hnext
          clear hnext
          go_wp2_with fail
          refine (step_any (Crc.Mi j k) _ hmi).mono ?_
          rintro e w' ⟨rfl, rfl⟩
          rw [HN.out]
          go_wp2_with fail
          go_round
          case rel => exact ⟨j + 1, by omega, by go_num, rfl⟩
          case measure => simp [intOf]; omega
        · have hj44 : j = 4 := by omega
          subst hj44
          go_wp2_with fail
          go_roundw
          case rel =>
            refine ⟨k + 1, by omega, by go_num, ?_, ?_, hb.setCell (by simp) _⟩
            · have := heap_setCell_same wr (w.heap.size + 1) k _ _ (v32 (Crc.Mi 4 k)) H1.out
              rw [List.setIfInBounds_toArray, tabTo_set k hlt] at this
              exact this
            · exact (heap_setCell_other wr ⟨w.heap.size + 1, k, none⟩ w.heap.size _ (by simp)).trans H0.out
          case measure => simp [intOf]; omega
    · have hk16 : k = 16 := by omega
      subst hk16
      go_wp2_with (first
        | (refine wpList_load_row rfl 112 (.tmp 1) rfl (w.heap.size + 1) rfl _ _ _ _ H1.out Tryz.underlying112 rfl (by kernel_rfl) ?_)
        | (refine wpList_store_row rfl 112 (.tmp 0) (.tmp 18) rfl w.heap.size (tabTo 16).toArray rfl rfl _ _ H0.out (info16.trans (by simp [tabTo_length])) (by simp [tabTo_length]) (tabTo_one 16) ?_))
      refine bodyPost_ret (results_cell_row rfl _ _ w.heap.size 112 (tabTo 16).toArray (0, 0) _ rfl (setRow_heap wr w.heap.size _ _ _ (0, 0) H0.out) Tryz.underlying112 rfl (info16.trans (by simp [tabTo_length]))) rfl ⟨by rw [tabTo_full], ?_⟩
      exact hb.trans ⟨rfl, rfl, rfl, by simp, fun i hi => setRow_other wr w.heap.size i _ (by omega)⟩

theorem and15 (y : Nat) (h : y < 4294967296) : bits .and .u32 (y : Int) 15 = ((y % 16 : Nat) : Int) := by
  have := u32_and_nat y 15 h (by omega)
  rw [nat_mask4] at this
  exact this
theorem xor_shift4 (t y : Nat) (ht : t < 4294967296) (h : y < 4294967296) : bits .xor .u32 (t : Int) ((y : Int) / 16) = ((t ^^^ y / 16 : Nat) : Int) := by
  have e : (y : Int) / 16 = ((y / 16 : Nat) : Int) := by omega
  rw [e]
  exact u32_xor_nat t (y / 16) ht (by omega)
theorem tab_get (r : Nat) (h : r < 16) : tab[r]? = some (.int .u32 ((Crc.Mi 4 r : Nat) : Int)) := by
  unfold tab
  rw [List.getElem?_map, List.getElem?_range h]
  rfl

/-- A step of half a byte, all that a walk wants of it. -/
theorem half (y : Nat) (h : y < 4294967296) : ∃ r t z : Nat, bits .and .u32 (y : Int) 15 = (r : Int) ∧ r < 16 ∧ tab[r]? = some (.int .u32 (t : Int)) ∧ bits .xor .u32 (t : Int) ((y : Int) / 16) = (z : Int) ∧ z = Crc.Mi 4 y ∧ z < 4294967296 := by
  have hr : y % 16 < 16 := Nat.mod_lt _ (by omega)
  have ht : Crc.Mi 4 (y % 16) < 4294967296 := Crc.Mi_lt 4 (by omega)
  have hz : Crc.Mi 4 y < 4294967296 := Crc.Mi_lt 4 h
  refine ⟨y % 16, Crc.Mi 4 (y % 16), Crc.Mi 4 y, and15 y h, hr, tab_get _ hr, ?_, rfl, hz⟩
  rw [xor_shift4 _ _ ht h, ← Crc.Mi4]

theorem xor_max (x : Nat) (h : x < 4294967296) : bits .xor .u32 IntKind.u32.max (x : Int) = ((x ^^^ Crc.ones : Nat) : Int) := by
  have := u32_xor_nat 4294967295 x (by omega) h
  rw [Nat.xor_comm] at this
  exact this

theorem load_tab {w : World} {g r t : Nat} {e : TypeId} (h : w.heap[g]? = some (.cells tab.toArray e (0, 0))) (hr : tab[r]? = some (.int .u32 (t : Int))) : w.cell? ⟨g, r, none⟩ = some (.int .u32 (t : Int)) := by
  rw [cell_of_row w g r _ _ _ h]
  simpa using hr

set_option maxHeartbeats 800000 in
set_option maxRecDepth 100000 in
theorem extend_all (s : Nat) (A : Option Addr) (c : Nat) (bs : List Nat) (w : World) (hs : s < 4294967296) (hr : Rd w A (b8 bs)) (hby : By bs) (hl : bs.length ≤ 140737488355328) :
    Calls Tryz.prog 67 #[.int .u32 (s : Int), .slice A bs.length c] w fun e w' => e = .returned (.int .u32 ((Crc.ext s bs : Nat) : Int)) ∧ Below w.heap.size w w' := by
  go_enter Tryz.func67, Tryz.ntmps67
  go_wp2_with fail
  refine (sums_any w).mono ?_
  rintro e w1 ⟨rfl, hb1⟩
  go_wp2_with (refine wpList_store_row rfl 112 (.tmp 6) (.tmp 11) rfl w1.heap.size tab.toArray rfl rfl _ _ (heap_alloc_new w1 _) (info16.trans (by rw [← tabTo_full]; simp [tabTo_length])) (by rw [← tabTo_full]; simp [tabTo_length]) (by rw [← tabTo_full]; exact tabTo_one 16) ?_)
  obtain ⟨W, hW⟩ : ∃ W : World, W = (w1.alloc (.cells #[.int .u32 0, .int .u32 0, .int .u32 0, .int .u32 0, .int .u32 0, .int .u32 0, .int .u32 0, .int .u32 0, .int .u32 0, .int .u32 0, .int .u32 0, .int .u32 0, .int .u32 0, .int .u32 0, .int .u32 0, .int .u32 0] 112)).setRow w1.heap.size tab.toArray := ⟨_, rfl⟩
  have hg : W.heap[w1.heap.size]? = some (.cells tab.toArray 112 (0, 0)) := by
    rw [hW]
    exact setRow_heap _ _ _ _ _ (0, 0) (heap_alloc_new w1 _)
  have hbW : Below w.heap.size w W := by
    rw [hW]
    refine (hb1.alloc hb1.size _).trans ⟨rfl, rfl, rfl, by simp, fun i hi => setRow_other _ _ i _ ?_⟩
    have := hb1.size
    omega
  rw [← hW]
  have HG := Lib.hid hg
  have HR := Lib.hid (hr.below hbW)
  have HX := Lib.hid (xor_max s hs)
  have hs1 : s ^^^ Crc.ones < 4294967296 := Crc.xor_lt (n := 32) hs Crc.ones_lt
  have HS1 := Lib.hid hs1
  clear hg hW hb1 hr hs1
  go_loop [5, 14] (fun v i => ∃ k x : Nat, k ≤ bs.length ∧ i = .int .i64 k ∧ v = .int .u32 (x : Int) ∧ x < 4294967296 ∧ Hid (Crc.reg (s ^^^ Crc.ones) bs = Crc.reg x (bs.drop k))) (fun _ i => bs.length - (intOf i).toNat)
  case atStart => exact ⟨0, s ^^^ Crc.ones, Nat.zero_le _, rfl, by rw [HX.out], HS1.out, by simp [Hid]⟩
  case round =>
    obtain ⟨k, x, hk, rfl, rfl, hx32, H⟩ := hrel
    by_cases hlt : k < bs.length
    · obtain ⟨b, hb, hb256, hdr⟩ := hby.get hlt
      obtain ⟨g, off, rfl, hg, hcell⟩ := HR.out.at_ hb
      have hN : Crc.reg (s ^^^ Crc.ones) bs = Crc.reg (Crc.Mi 8 (x ^^^ b)) (bs.drop (k + 1)) := by rw [H.out, hdr, Crc.reg]
      obtain ⟨y, hy⟩ : ∃ y, y = x ^^^ b := ⟨_, rfl⟩
      have e1 : bits .xor .u32 (x : Int) (b : Int) = (y : Int) := by rw [hy]; exact u32_xor_nat x b hx32 (by omega)
      have hy32 : y < 4294967296 := by rw [hy]; exact Crc.xor_lt (n := 32) hx32 (by omega)
      obtain ⟨r1, t1, z1, f1, f2, f3, f4, f5, f6⟩ := half y hy32
      obtain ⟨r2, t2, z2, f7, f8, f9, f10, f11, f12⟩ := half z1 f6
      have g1 := load_tab HG.out f3
      have g2 := load_tab HG.out f9
      have hM : z2 = Crc.Mi 8 (x ^^^ b) := by rw [f11, f5, hy]; exact (Crc.Mi_add 4 4 _).symm
      rw [← hM] at hN
      have HN := Lib.hid hN
      clear hN hM hy f5 f11 f3 f9 hb hdr H
      go_wp2_with fail
      go_round
      case rel => exact ⟨k + 1, z2, by omega, by go_num, rfl, f12, HN⟩
      case measure => simp [intOf]; omega
    · have hN : Crc.ext s bs = x ^^^ Crc.ones := by unfold Crc.ext; rw [H.out, List.drop_eq_nil_of_le (by omega), Crc.reg]
      have HN := Lib.hid hN
      clear hN H
      go_wp2_with fail
      go_ret
      exact ⟨ret_i (by rw [HN.out]; exact xor_max x hx32), hbW⟩

theorem extend_any (s : Nat) (A : Option Addr) (n c : Nat) (bs : List Nat) (w : World) (hs : s < 4294967296) (hr : Rd w A (b8 bs)) (hby : By bs) (hn : bs.length = n) (hl : n ≤ 140737488355328) :
    Calls Tryz.prog 67 #[.int .u32 (s : Int), .slice A n c] w fun e w' => e = .returned (.int .u32 ((Crc.ext s bs : Nat) : Int)) ∧ Below w.heap.size w w' := by
  subst hn
  exact extend_all s A c bs w hs hr hby hl

set_option maxRecDepth 100000 in
theorem sum_any (A : Option Addr) (n c : Nat) (bs : List Nat) (w : World) (hr : Rd w A (b8 bs)) (hby : By bs) (hn : bs.length = n) (hl : n ≤ 140737488355328) :
    Calls Tryz.prog 68 #[.slice A n c] w fun e w' => e = .returned (.int .u32 ((Crc.ext 0 bs : Nat) : Int)) ∧ Below w.heap.size w w' := by
  go_enter Tryz.func68, Tryz.ntmps68
  go_wp2_with fail
  refine (extend_any 0 A n c bs w (by omega) hr hby hn hl).mono ?_
  rintro e w1 ⟨rfl, hb⟩
  go_wp2_with fail
  go_ret
  exact ⟨rfl, hb⟩
end Go.Proofs.YtljfmcgeiceagaaGreat

/- Four bytes behind a text that give it a wanted sum: the plain law. -/
namespace Go.Proofs.YtljfmcgeiceagaaGreat
open Go
namespace Pat

def hi (i : Nat) : Nat := Crc.Mi 4 i / 268435456
def bkTo : Nat → List Nat
  | 0 => List.replicate 16 0
  | k + 1 => (bkTo k).set (hi k) k
def bk : List Nat := bkTo 16
/-- The entry whose row of the table begins with the given half byte. -/
def via (y : Nat) : Nat := (bk[y / 268435456]?).getD 0
/-- One step back. -/
def less (y : Nat) : Nat := (y ^^^ Crc.Mi 4 (via y)) * 16
def back (y0 : Nat) : Nat → Nat
  | 0 => y0
  | i + 1 => less (back y0 i)
def vi (y0 i : Nat) : Nat := via (back y0 i)
/-- Bytes as one number, the first lowest. -/
def num : List Nat → Nat
  | [] => 0
  | b :: l => b ^^^ 256 * num l
end Pat
end Go.Proofs.YtljfmcgeiceagaaGreat

/- octet.backs, octet.Patch: what they return. -/
namespace Go.Proofs.YtljfmcgeiceagaaGreat
open Go Go.RowKit
set_option linter.unusedVariables false

def v8 (x : Nat) : Value := .int .u8 (x : Int)
end Go.Proofs.YtljfmcgeiceagaaGreat

/- The reference's M, through, Extend, Sum, back: what they return. -/
namespace Go.Proofs.YtljfmcgeiceagaaGreat
open Go Go.RowKit
set_option linter.unusedVariables false

theorem rM_any (x : Nat) (w : World) (h : x < 4294967296) :
    Calls Tryz.prog 116 #[.int .u32 (x : Int)] w fun e w' => e = .returned (.int .u32 ((Crc.M x : Nat) : Int)) ∧ w = w' := by
  by_cases hx : x % 2 = 1
  · have hb : ((x : Int) % 2 == 1) = true := by rw [beq_iff_eq]; omega
    have HM := Lib.hid (M_odd hx)
    clear hx
    go_enter Tryz.func116, Tryz.ntmps116
    go_wp2
    go_ret
    exact ⟨ret_i (by rw [HM.out]; exact xor_poly x h), rfl⟩
  · have hb : ((x : Int) % 2 == 1) = false := by rw [beq_eq_false_iff_ne]; omega
    have HM := Lib.hid (M_even hx)
    clear hx
    go_enter Tryz.func116, Tryz.ntmps116
    go_wp2
    go_ret
    exact ⟨ret_i (by rw [HM.out]; omega), rfl⟩

set_option maxHeartbeats 800000 in
set_option maxRecDepth 100000 in
theorem rthrough_any (x c : Nat) (w : World) (h : x < 4294967296) (hc : c < 256) :
    Calls Tryz.prog 106 #[.int .u32 (x : Int), .int .u8 (c : Int)] w fun e w' => e = .returned (.int .u32 ((Crc.Mi 8 (x ^^^ c) : Nat) : Int)) ∧ w = w' := by
  obtain ⟨y, hy⟩ : ∃ y, y = x ^^^ c := ⟨_, rfl⟩
  have hyx : bits .xor .u32 (x : Int) (c : Int) = (y : Int) := by rw [hy]; exact u32_xor_nat x c h (by omega)
  have hy32 : y < 4294967296 := by rw [hy]; exact Crc.xor_lt (n := 32) h (by omega)
  rw [← hy]
  clear hy
  go_enter Tryz.func106, Tryz.ntmps106
  go_wp2_with fail
  go_loop [0, 5] (fun x i => ∃ j z : Nat, j ≤ 8 ∧ i = .int .i64 j ∧ x = .int .u32 (z : Int) ∧ z < 4294967296 ∧ Hid (z = Crc.Mi j y)) (fun _ i => 8 - (intOf i).toNat)
  case atStart => exact ⟨0, y, by omega, rfl, by first | rfl | rw [hyx], hy32, by rw [Hid, Crc.Mi_none]⟩
  case round =>
    obtain ⟨j, z, hj, rfl, rfl, hz, HZ⟩ := hrel
    by_cases hj8 : j < 8
    · have hnext : Crc.M z = Crc.Mi (j + 1) y := by rw [HZ.out, Crc.Mi_add j 1 y, Crc.Mi_more, Crc.Mi_none]
      have hm32 : Crc.M z < 4294967296 := Crc.M_lt hz
      have HN := Lib.hid hnext
      clear hnext
      go_wp2_with fail
      refine (rM_any z _ hz).mono ?_
      rintro e w' ⟨rfl, rfl⟩
      go_wp2_with fail
      go_round
      case rel => exact ⟨j + 1, Crc.M z, by omega, by go_num, rfl, hm32, HN⟩
      case measure => simp [intOf]; omega
    · have hj88 : j = 8 := by omega
      subst hj88
      go_wp2_with fail
      go_ret
      exact ⟨ret_i (by rw [HZ.out]), rfl⟩

set_option maxHeartbeats 800000 in
set_option maxRecDepth 100000 in
theorem rextend_all (s : Nat) (A : Option Addr) (c : Nat) (bs : List Nat) (w : World) (hs : s < 4294967296) (hr : Rd w A (b8 bs)) (hby : By bs) (hl : bs.length ≤ 140737488355328) :
    Calls Tryz.prog 92 #[.int .u32 (s : Int), .slice A bs.length c] w fun e w' => e = .returned (.int .u32 ((Crc.ext s bs : Nat) : Int)) ∧ w = w' := by
  obtain ⟨s1, hs1⟩ : ∃ y, y = s ^^^ Crc.ones := ⟨_, rfl⟩
  have hsx : bits .xor .u32 IntKind.u32.max (s : Int) = (s1 : Int) := by rw [hs1]; exact xor_max s hs
  have hs132 : s1 < 4294967296 := by rw [hs1]; exact Crc.xor_lt (n := 32) hs Crc.ones_lt
  have HE := Lib.hid (show Crc.ext s bs = Crc.reg s1 bs ^^^ Crc.ones by rw [hs1]; rfl)
  have HR := Lib.hid hr
  clear hs1 hr
  go_enter Tryz.func92, Tryz.ntmps92
  go_wp2_with fail
  go_loop [5, 6] (fun v i => ∃ k x : Nat, k ≤ bs.length ∧ i = .int .i64 k ∧ v = .int .u32 (x : Int) ∧ x < 4294967296 ∧ Hid (Crc.reg s1 bs = Crc.reg x (bs.drop k))) (fun _ i => bs.length - (intOf i).toNat)
  case atStart => exact ⟨0, s1, Nat.zero_le _, rfl, by first | rfl | rw [hsx], hs132, by simp [Hid]⟩
  case round =>
    obtain ⟨k, x, hk, rfl, rfl, hx32, H⟩ := hrel
    by_cases hlt : k < bs.length
    · obtain ⟨b, hb, hb256, hdr⟩ := hby.get hlt
      obtain ⟨g, off, rfl, hg, hcell⟩ := HR.out.at_ hb
      have hN : Crc.reg s1 bs = Crc.reg (Crc.Mi 8 (x ^^^ b)) (bs.drop (k + 1)) := by rw [H.out, hdr, Crc.reg]
      obtain ⟨z, hz⟩ : ∃ z, z = Crc.Mi 8 (x ^^^ b) := ⟨_, rfl⟩
      have hz32 : z < 4294967296 := by rw [hz]; exact Crc.Mi_lt 8 (Crc.xor_lt (n := 32) hx32 (by omega))
      rw [← hz] at hN
      have HN := Lib.hid hN
      have HZ := Lib.hid hz
      have i0 : (0 : Int) ≤ (k : Int) := by omega
      have i1 : (k : Int) < (bs.length : Int) := by omega
      clear hN hz hb hdr H
      go_wp2_with fail
      refine (rthrough_any x b _ hx32 hb256).mono ?_
      rintro e w' ⟨rfl, rfl⟩
      rw [← HZ.out]
      go_wp2_with fail
      go_round
      case rel => exact ⟨k + 1, z, by omega, by go_num, rfl, hz32, HN⟩
      case measure => simp [intOf]; omega
    · have hN : Crc.ext s bs = x ^^^ Crc.ones := by rw [HE.out, H.out, List.drop_eq_nil_of_le (by omega), Crc.reg]
      have HN := Lib.hid hN
      clear hN H
      go_wp2_with fail
      go_ret
      exact ⟨ret_i (by rw [HN.out]; exact xor_max x hx32), rfl⟩

theorem rextend_is (s : Nat) (A : Option Addr) (n c : Nat) (bs : List Nat) (w : World) (z : Nat) (hs : s < 4294967296) (hr : Rd w A (b8 bs)) (hby : By bs) (hn : bs.length = n) (hl : n ≤ 140737488355328) (hz : z = Crc.ext s bs) :
    Calls Tryz.prog 92 #[.int .u32 (s : Int), .slice A n c] w fun e w' => e = .returned (.int .u32 (z : Int)) ∧ w = w' := by
  subst hn hz
  exact rextend_all s A c bs w hs hr hby hl

set_option maxRecDepth 100000 in
theorem rsum_is (A : Option Addr) (n c : Nat) (bs : List Nat) (w : World) (z : Nat) (hr : Rd w A (b8 bs)) (hby : By bs) (hn : bs.length = n) (hl : n ≤ 140737488355328) (hz : z = Crc.ext 0 bs) :
    Calls Tryz.prog 93 #[.slice A n c] w fun e w' => e = .returned (.int .u32 (z : Int)) ∧ w = w' := by
  go_enter Tryz.func93, Tryz.ntmps93
  go_wp2_with fail
  refine (rextend_is 0 A n c bs w z (by omega) hr hby hn hl hz).mono ?_
  rintro e w1 ⟨rfl, rfl⟩
  go_wp2_with fail
  go_ret
  exact ⟨ret_i (by rw [hz]), rfl⟩

end Go.Proofs.YtljfmcgeiceagaaGreat
