/- Fixed bytes of a number, the reference's. -/
import Derived.Test.YtfgjlplfpjfnoaaApp8
namespace Go.Proofs.Ytfgjlplfpjfnoaa
open Go Go.RowKit
set_option linter.unusedVariables false

/-- The last n bytes of a number, the greatest first. -/
def fx : Nat → Nat → List Nat
  | _, 0 => []
  | v, n + 1 => fx (v / 256) n ++ [v % 256]
theorem fx_length (n : Nat) : ∀ v, (fx v n).length = n := by
  induction n with
  | zero => intro v; rfl
  | succ n ih => intro v; simp [fx, ih]
theorem fx_by (n : Nat) : ∀ v, By (fx v n) := by
  induction n with
  | zero => intro v b hb; simp [fx] at hb
  | succ n ih =>
    intro v b hb
    simp only [fx, List.mem_append, List.mem_singleton] at hb
    rcases hb with hb | rfl
    · exact ih _ b hb
    · omega
theorem fx_four (v : Nat) : fx v 4 = [v / 16777216 % 256, v / 65536 % 256, v / 256 % 256, v % 256] := by
  simp [fx, Nat.div_div_eq_div_mul]
theorem fx_eight (v : Nat) : fx v 8 = fx (v / 4294967296) 4 ++ fx v 4 := by
  simp [fx, Nat.div_div_eq_div_mul]
theorem fx_mod (v : Nat) : fx (v % 4294967296) 4 = fx v 4 := by
  rw [fx_four, fx_four]
  congr 1
  · omega
  · congr 1
    · omega
    · congr 1
      · omega
      · congr 1
        omega

theorem set_end {α : Type} (xs ys : List α) (k : Nat) (hk : xs.length = k + 1) (y : α) : (xs ++ ys).set k y = xs.take k ++ y :: ys := by
  rw [List.set_append_left _ _ (by omega)]
  have : xs.set k y = xs.take k ++ [y] := by
    rw [List.set_eq_take_append_cons_drop, if_pos (by omega), List.drop_eq_nil_of_le (by omega)]
  rw [this, List.append_assoc]
  rfl

set_option maxHeartbeats 1000000 in
set_option maxRecDepth 100000 in
theorem fixed_any (v n : Nat) (w : World) (hv : v < 18446744073709551616) (hn : n ≤ 8) (hn0 : 0 < n) :
    Calls Try.prog 105 #[.int .u64 (v : Int), .int .i64 (n : Int)] w fun e w' => Got8 w w' e (fx v n) := by
  obtain ⟨inf, hi, hz0, hz1, hz2⟩ := info_parts info8
  have HI := Lib.hid hi
  have HZ0 := Lib.hid hz0
  have HZ1 := Lib.hid hz1
  have HZ2 := Lib.hid hz2
  clear hi hz0 hz1 hz2
  go_enter Try.func105, Try.ntmps105
  go_wp2_with (at_make; refine wpList_make_full _ rfl (.tmp 7) (.tmp 7) 22 rfl w.heap.size 5 inf (.int .u8 0) 1 Try.underlying22 HI.out HZ0.out HZ1.out .i64 .i64 _ _ n rfl rfl rfl rfl (by rw [HZ2.out]; omega) (by unfold maxLen; omega) (Nat.le_refl _) ?_; intro w1 hown1 hg1)
  have hz : (madeCells (Value.int .u8 0).cells (n * 1)).toList = b8 (List.replicate n 0 ++ []) := by
    have := toList_madeCells_one (Value.int .u8 0) n
    simp only [Nat.mul_one, List.append_nil]
    refine this.trans ?_
    simp [b8]
  rw [hz] at hown1
  have HO := Lib.hid hown1
  have HB := Lib.hid (below_of_grown hg1 (Nat.le_refl _) (fun k hk => by cases hk))
  clear hz hown1 hg1
  go_loopw [6, 0] (fun i x wr => ∃ (k u : Nat) (ys : List Nat), k ≤ n ∧ ((∃ j : Nat, k = j + 1 ∧ i = .int .i64 (j : Int)) ∨ (k = 0 ∧ i = .int .i64 (-1))) ∧ u < 18446744073709551616 ∧ x = .int .u64 (u : Int) ∧ wr.ownsRow w.heap.size 5 1 (.slice (some ⟨w.heap.size, 0, none⟩) n n) n (b8 (List.replicate k 0 ++ ys)) ∧ Below w.heap.size w wr ∧ Hid (fx u k ++ ys = fx v n))
    (fun i _ _ => (intOf i + 1).toNat)
  case atStart => exact ⟨n, v, [], Nat.le_refl _, .inl ⟨n - 1, by omega, by rw [show ((n - 1 : Nat) : Int) = (n : Int) - 1 by omega]⟩, hv, rfl, HO.out, HB.out, by simp [Hid]⟩
  case round =>
    obtain ⟨k, u, ys, hk, hi, hu, rfl, hown, hbel, H⟩ := hrel
    rcases hi with ⟨j, rfl, rfl⟩ | ⟨rfl, rfl⟩
    · have hf := hown.frozenAt j
      have hco := hown.cellAt j (by omega)
      rw [b8_get, List.getElem?_append_left (by simp), List.getElem?_replicate, if_pos (by omega)] at hco
      have hco' : wr.cell? ⟨w.heap.size, j, none⟩ = some (.int .u8 0) := by simpa using hco
      have hst := hown.stored j (.int .u8 ((u % 256 : Nat) : Int))
      rw [b8_set'', set_end _ _ j (by simp), show (List.replicate (j + 1) 0).take j = List.replicate j 0 by simp] at hst
      have HS := Lib.hid hst
      have HBL := Lib.hid hbel
      have hcast : ((u % 256 : Nat) : Int) = (u : Int) % 256 := by omega
      rw [hcast] at HS
      have HH : Hid (fx (u / 256) j ++ (u % 256 :: ys) = fx v n) := by
        have := H.out
        simp only [fx, List.append_assoc] at this
        exact this
      clear hco hst hown hbel H hcast
      go_wp2_with fail
      go_roundw
      case rel =>
        refine ⟨j, u / 256, u % 256 :: ys, by omega, ?_, by omega, by go_num, HS.out.1, HBL.out.trans (below_of_grown HS.out.2 HBL.out.size (fun q hq => by injection hq with hq; omega)), HH.out⟩
        cases j with
        | zero => exact .inr ⟨rfl, rfl⟩
        | succ j => exact .inl ⟨j, rfl, by go_num⟩
      case measure => simp [intOf] <;> omega
    · have e := H.out
      simp only [fx, List.nil_append] at e
      rw [List.replicate_zero, List.nil_append] at hown
      subst e
      go_wp2
      go_ret
      exact got8_mk hown (fx_length n v).symm rfl hbel
end Go.Proofs.Ytfgjlplfpjfnoaa
