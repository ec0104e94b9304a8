/- Several texts in one: Lm, Lm2, TokRow, PlaceT. -/
import Derived.Test.YtmdpncjffikmiaaF1
import Derived.Test.YtmdpncjffikmiaaF3
import Derived.Test.YtmdpncjffikmiaaS1
import Derived.StillTailTactics
/- chroniclelaw2: spare, kept, fill, turned, lay: what the statements do to memory. -/
namespace Go.Proofs.Ytmdpncjffikmiaa
open Go Go.RowKit
set_option linter.unusedVariables false
set_option linter.unusedSimpArgs false

/-- The marks behind n bytes. -/
def pat (n : Nat) : List Nat := (List.range 64).map (fun j => 200 + (n + j) % 7)
theorem pat_length (n : Nat) : (pat n).length = 64 := by simp [pat]
theorem pat_get (n j : Nat) (h : j < 64) : (pat n)[j]? = some (200 + (n + j) % 7) := by simp [pat, h]
theorem pat_by (n : Nat) : By (pat n) := fun b hb => by
  obtain ⟨j, _, rfl⟩ := List.mem_map.1 hb
  omega

/-- One of a list's elements is laid over a list of the same length. -/
theorem set_lay {α : Type} (xs ys : List α) (k : Nat) (x : α) (hx : xs[k]? = some x) (hk : k < ys.length) : (xs.take k ++ ys.drop k).set k x = xs.take (k + 1) ++ ys.drop (k + 1) := by
  obtain ⟨h, rfl⟩ := List.getElem?_eq_some_iff.1 hx
  have hl : (xs.take k).length = k := by rw [List.length_take]; omega
  rw [List.set_append_right _ _ (by omega), hl, Nat.sub_self, List.drop_eq_getElem_cons hk, List.set_cons_zero, List.take_succ_eq_append_getElem h, List.append_assoc]
  rfl
theorem get_lay {α : Type} (xs ys : List α) (k : Nat) (hx : k ≤ xs.length) : (xs.take k ++ ys.drop k)[k]? = ys[k]? := by
  have hl : (xs.take k).length = k := by rw [List.length_take]; omega
  rw [List.getElem?_append_right (by omega), hl, Nat.sub_self, List.getElem?_drop, Nat.add_zero]

/-- One more byte laid into a row of the call's own. -/
theorem lay_one {base N c g k : Nat} {w : World} {xs ys : List Nat} (h : w.ownsRow base 5 1 (.slice (some ⟨g, 0, none⟩) N c) N (b8 (xs.take k ++ ys.drop k))) (hx : k < xs.length) (hy : k < ys.length) (hN : k < N) {x : Nat} (hxk : xs[k]? = some x) :
    (∃ y : Nat, w.cell? ⟨g, k, none⟩ = some (.int .u8 (y : Int))) ∧ w.frozen? ⟨g, k, none⟩ = false ∧
    (w.setCell ⟨g, k, none⟩ (.int .u8 (x : Int))).ownsRow base 5 1 (.slice (some ⟨g, 0, none⟩) N c) N (b8 (xs.take (k + 1) ++ ys.drop (k + 1))) ∧ w.grownBy (w.setCell ⟨g, k, none⟩ (.int .u8 (x : Int))) (some g) := by
  have hc := h.cellAt k (by omega)
  rw [b8_get, get_lay xs ys k (by omega), List.getElem?_eq_getElem hy] at hc
  have hf := h.frozenAt k
  have hst := h.stored k (.int .u8 (x : Int))
  rw [b8_set'', set_lay xs ys k x hxk hy] at hst
  exact ⟨⟨_, hc⟩, hf, hst.1, hst.2⟩

def Spared (w : World) (bs : List Nat) (n : Nat) (e : Ending) (w' : World) : Prop :=
  e = .returned (.slice (some ⟨w.heap.size, 0, none⟩) (n + 64) (n + 64)) ∧
    w'.ownsRow w.heap.size 5 1 (.slice (some ⟨w.heap.size, 0, none⟩) (n + 64) (n + 64)) (n + 64) (b8 (bs ++ pat n)) ∧ Below w.heap.size w w'

set_option maxHeartbeats 1000000 in
set_option maxRecDepth 100000 in
theorem spare_is (A : Option Addr) (n c : Nat) (bs : List Nat) (w : World) (hr : Rd w A (b8 bs)) (hn : bs.length = n) (hl : n ≤ 140737488351232) :
    Calls Try.prog 27 #[.slice A n c] w (Spared w bs n) := by
  obtain ⟨inf, hi, hz0, hz1, hz2⟩ := info_parts info8
  have HI := Lib.hid hi
  have HZ0 := Lib.hid hz0
  have HZ1 := Lib.hid hz1
  have HZ2 := Lib.hid hz2
  have HN := Lib.hid hn
  have HR := Lib.hid hr
  obtain ⟨xs, hxs⟩ : ∃ xs, xs = bs ++ pat n := ⟨_, rfl⟩
  have HX1 : Hid (∀ k, k < n → ∃ x, bs[k]? = some x ∧ xs[k]? = some x) := Lib.hid (fun k hk => by
    refine ⟨_, List.getElem?_eq_getElem (by omega), ?_⟩
    rw [hxs, List.getElem?_append_left (by omega), List.getElem?_eq_getElem])
  have HX2 : Hid (∀ j, j < 64 → xs[n + j]? = some (200 + (n + j) % 7)) := Lib.hid (fun j hj => by
    rw [hxs, List.getElem?_append_right (by omega), hn, Nat.add_sub_cancel_left, pat_get n j hj])
  have HXL : Hid (xs.length = n + 64) := Lib.hid (by rw [hxs, List.length_append, pat_length, hn])
  unfold Spared
  rw [← hxs]
  clear hi hz0 hz1 hz2 hn hr hxs
  obtain ⟨ys, hys⟩ : ∃ ys, ys = List.replicate (n + 64) 0 := ⟨_, rfl⟩
  have HYL : Hid (ys.length = n + 64) := Lib.hid (by rw [hys, List.length_replicate])
  have HYZ : Hid ((madeCells (Value.int .u8 0).cells ((n + 64) * 1)).toList = b8 (xs.take 0 ++ ys.drop 0)) := Lib.hid (by
    have := toList_madeCells_one (Value.int .u8 0) (n + 64)
    simp only [Nat.mul_one, List.take_zero, List.drop_zero, List.nil_append]
    refine this.trans ?_
    simp [b8, hys])
  clear hys
  go_enter Try.func27, Try.ntmps27
  go_wp2_with (at_make; refine wpList_make_full _ rfl (.tmp 8) (.tmp 8) 23 rfl w.heap.size 5 inf (.int .u8 0) 1 Try.underlying23 HI.out HZ0.out HZ1.out .i64 .i64 _ _ (n + 64) rfl rfl (by omega) (by omega) (by rw [HZ2.out]; omega) (by unfold maxLen; omega) (Nat.le_refl _) ?_; intro w1 hown1 hg1; have HO := Lib.hid (HYZ.out ▸ hown1); have HB := Lib.hid (below_of_grown hg1 (Nat.le_refl _) (fun k hk => by cases hk)); clear hown1 hg1)
  go_loopw [4] (fun i wr => ∃ k : Nat, k ≤ n ∧ i = .int .i64 k ∧ Hid (wr.ownsRow w.heap.size 5 1 (.slice (some ⟨w.heap.size, 0, none⟩) (n + 64) (n + 64)) (n + 64) (b8 (xs.take k ++ ys.drop k))) ∧ Hid (Below w.heap.size w wr)) (fun i _ => n - (intOf i).toNat)
  case atStart => exact ⟨0, Nat.zero_le _, rfl, HO, HB⟩
  case round =>
    clear HO HB
    obtain ⟨k, hk, rfl, HO, HB⟩ := hrel
    by_cases hlt : k < n
    · obtain ⟨x, hx, hxx⟩ := HX1.out k hlt
      obtain ⟨⟨y, hc1⟩, hf1, hs1, hg1⟩ := lay_one HO.out (by rw [HXL.out]; omega) (by rw [HYL.out]; omega) (by omega) hxx
      obtain ⟨g, off, rfl, hg, hc⟩ := HR.out.at_ hx
      have hc2 := (HB.out.cell (p := ⟨g, off + k, none⟩) hg).trans hc
      have HS := Lib.hid hs1
      have HG := Lib.hid (HB.out.trans (below_of_grown hg1 HB.out.size (fun q hq => by injection hq with hq; omega)))
      clear hs1 hg1 hc hx hxx HO HB
      go_wp2
      go_roundw
      case rel => exact ⟨k + 1, by omega, by go_num, HS, HG⟩
      case measure => simp [intOf]; omega
    · have hkn : k = n := by omega
      subst hkn
      obtain ⟨wo, rfl⟩ : ∃ wo : World, wo = wr := ⟨_, rfl⟩
      go_wp2
      go_loopw [5] (fun i wr => ∃ j : Nat, j ≤ 64 ∧ i = .int .i64 ((k + j : Nat) : Int) ∧ Hid (wr.ownsRow w.heap.size 5 1 (.slice (some ⟨w.heap.size, 0, none⟩) (k + 64) (k + 64)) (k + 64) (b8 (xs.take (k + j) ++ ys.drop (k + j)))) ∧ Hid (Below w.heap.size w wr)) (fun i _ => k + 64 - (intOf i).toNat)
      case atStart => exact ⟨0, Nat.zero_le _, rfl, HO, HB⟩
      case round =>
        clear HO HB
        obtain ⟨j, hj, rfl, HO, HB⟩ := hrel
        by_cases hlt : j < 64
        · have hxx := HX2.out j hlt
          obtain ⟨⟨y, hc1⟩, hf1, hs1, hg1⟩ := lay_one HO.out (by rw [HXL.out]; omega) (by rw [HYL.out]; omega) (by omega) hxx
          rw [show ((200 + (k + j) % 7 : Nat) : Int) = 200 + ((k : Int) + (j : Int)) % 7 by omega] at hs1 hg1
          have HS := Lib.hid hs1
          have HG := Lib.hid (HB.out.trans (below_of_grown hg1 HB.out.size (fun q hq => by injection hq with hq; omega)))
          clear hs1 hg1 hxx HO HB
          go_wp2
          go_roundw
          case rel => exact ⟨j + 1, by omega, by go_num, HS, HG⟩
          case measure => simp [intOf]; omega
        · have hj64 : j = 64 := by omega
          subst hj64
          have HF : Hid (wr.ownsRow w.heap.size 5 1 (.slice (some ⟨w.heap.size, 0, none⟩) (k + 64) (k + 64)) (k + 64) (b8 xs)) := Lib.hid (by
            have h := HO.out
            rw [List.take_of_length_le (by rw [HXL.out]; omega), List.drop_eq_nil_of_le (by rw [HYL.out]; omega), List.append_nil] at h
            exact h)
          clear HO
          go_wp2
          go_ret
          exact ⟨rfl, HF.out, HB.out⟩

/-- Bytes with marks behind, read: as they were. -/
def Marked (w : World) (A : Option Addr) (bs : List Nat) : Prop := Rd w A (b8 (bs ++ pat bs.length))

set_option maxHeartbeats 1000000 in
set_option maxRecDepth 100000 in
theorem kept_is (A B : Option Addr) (n m c d : Nat) (bs : List Nat) (w : World) (hr : Rd w A (b8 (bs ++ pat n))) (hb : Rd w B (b8 bs)) (hn : bs.length = n) (hm : m = n + 64) (hl : n ≤ 140737488351232) :
    Calls Try.prog 31 #[.slice A m c, .slice B n d] w fun e w' => Looks w w' e (.bool true) := by
  have HX1 : Hid (∀ k, k < n → ∃ x, bs[k]? = some x ∧ (bs ++ pat n)[k]? = some x) := Lib.hid (fun k hk => by
    refine ⟨_, List.getElem?_eq_getElem (by omega), ?_⟩
    rw [List.getElem?_append_left (by omega), List.getElem?_eq_getElem])
  have HX2 : Hid (∀ k, n ≤ k → k < n + 64 → (bs ++ pat n)[k]? = some (200 + k % 7)) := Lib.hid (fun k h0 hj => by
    rw [List.getElem?_append_right (by omega), hn, pat_get n (k - n) (by omega), show n + (k - n) = k by omega])
  have HR := Lib.hid hr
  have HB := Lib.hid hb
  have HN := Lib.hid hn
  have HM := Lib.hid hm
  have hm1 : m ≤ 140737488351232 + 64 := by omega
  clear hr hb hn hm
  go_enter Try.func31, Try.ntmps31
  go_wp2
  go_loopw [5] (fun i wr => ∃ k j : Nat, k ≤ m ∧ i = .int .i64 k ∧ wr = w.drewN j) (fun i _ => m - (intOf i).toNat)
  case atStart => exact ⟨0, 0, Nat.zero_le _, rfl, rfl⟩
  case round =>
    obtain ⟨k, j, hk, rfl, rfl⟩ := hrel
    by_cases hlt : k < m
    · by_cases hkn : k < n
      · obtain ⟨x, hx1, hx2⟩ := HX1.out k hkn
        obtain ⟨g, off, rfl, hg, hc⟩ := HR.out.at_ hx2
        obtain ⟨g', off', rfl, hg', hc'⟩ := HB.out.at_ hx1
        have i0 : (0 : Int) ≤ (k : Int) := by omega
        have i1 : (k : Int) < (m : Int) := by omega
        have i2 : (k : Int) < (n : Int) := by omega
        have d1 : decide ((k : Int) < (n : Int)) = true := decide_eq_true i2
        have d2 : decide ((n : Int) ≤ (k : Int)) = false := decide_eq_false (by omega)
        have d3 : ((x : Int) != (x : Int)) = false := by simp
        clear hx1 hx2
        go_wp2
        go_quiet (fail)
        go_wp2
        go_roundw
        case rel => exact ⟨k + 1, _, by omega, by go_num, rfl⟩
        case measure => simp [intOf]; omega
      · obtain ⟨z, hz⟩ : ∃ z, z = 200 + k % 7 := ⟨_, rfl⟩
        have hx2 := HX2.out k (by omega) (by rw [← HM.out]; exact hlt)
        rw [← hz] at hx2
        obtain ⟨g, off, rfl, hg, hc⟩ := HR.out.at_ hx2
        have i0 : (0 : Int) ≤ (k : Int) := by omega
        have i1 : (k : Int) < (m : Int) := by omega
        have d1 : decide ((k : Int) < (n : Int)) = false := decide_eq_false (by omega)
        have d2 : decide ((n : Int) ≤ (k : Int)) = true := decide_eq_true (by omega)
        have d3 : ((z : Int) != 200 + (k : Int) % 7) = false := by rw [bne_eq_false_iff_eq]; omega
        clear hx2 hz
        go_wp2
        go_quiet (fail)
        go_wp2
        go_roundw
        case rel => exact ⟨k + 1, _, by omega, by go_num, rfl⟩
        case measure => simp [intOf]; omega
    · go_wp2
      go_ret
      exact ⟨rfl, _, rfl⟩
theorem KeptS.heap {a b : World} {S : Nat → Prop} (h : KeptS a b S) : a.heap.size ≤ b.heap.size := h.size

set_option maxHeartbeats 1000000 in
set_option maxRecDepth 100000 in
theorem fill_is (base n : Nat) (v : Value) (xs : List Nat) (w : World) (h : w.ownsRow base 5 1 v n (b8 xs)) (hl : n ≤ 140737488351232) (hb : base ≤ w.heap.size) :
    Calls Try.prog 20 #[v, .int .u8 17] w fun e w' => e = .returned (.tuple #[]) ∧ KeptS w w' (fun q => v.ownBlock = some q) := by
  obtain ⟨A, c, rfl, hnc, hcm, hAb⟩ := own_shape h
  have hx := own8_n h
  have HX := Lib.hid hx
  have HH := Lib.hid h
  clear hx h
  go_enter Try.func20, Try.ntmps20
  go_wp2
  go_loopw [4] (fun i wr => ∃ (k : Nat) (zs : List Nat), k ≤ n ∧ i = .int .i64 k ∧ Hid (wr.ownsRow base 5 1 (.slice A n c) n (b8 zs)) ∧ Hid (KeptS w wr (fun q => (Value.slice A n c).ownBlock = some q))) (fun i _ => n - (intOf i).toNat)
  case atStart => exact ⟨0, xs, Nat.zero_le _, rfl, HH, Lib.hid (KeptS.refl _ _)⟩
  case round =>
    clear HH
    obtain ⟨k, zs, hk, rfl, HO, HK⟩ := hrel
    by_cases hlt : k < n
    · have hz := own8_n HO.out
      obtain ⟨g, off, rfl, hg, hcell⟩ := (rd_own HO.out).at_ (List.getElem?_eq_getElem (show k < zs.length by omega))
      have hoff : off = 0 := by
        rcases HO.out.2 with ⟨hv, _⟩ | ⟨g', cap, cur, hv, _⟩
        · simp at hv
        · simp at hv; exact hv.1.2
      subst hoff
      have hf := HO.out.frozenAt k
      have hst := HO.out.stored k (.int .u8 17)
      rw [show (b8 zs).set k (.int .u8 17) = b8 (zs.set k 17) from b8_set'' zs k 17] at hst
      rw [Nat.zero_add] at hcell
      obtain ⟨x, hx⟩ : ∃ x, x = zs[k] := ⟨_, rfl⟩
      rw [← hx] at hcell
      have HS := Lib.hid hst.1
      have HG := Lib.hid (HK.out.trans (KeptS.of_grown (S := fun q => some g = some q) hst.2 (fun q hq => hq)) (fun q hq => .inl hq))
      clear hst HO HK hx hz
      go_wp2
      go_roundw
      case rel => exact ⟨k + 1, _, by omega, by go_num, HS, HG⟩
      case measure => simp [intOf]; omega
    · clear hnc hcm hAb HX
      obtain ⟨wo, rfl⟩ : ∃ wo : World, wo = wr := ⟨_, rfl⟩
      go_wp2
      go_loopw [0, 5] (fun b i wr => ∃ (k : Nat) (zs : List Nat), k ≤ 64 ∧ i = .int .i64 k ∧ Hid (wr.ownsRow base 5 1 b (n + k) (b8 zs)) ∧ Hid (KeptS w wr (fun q => (Value.slice A n c).ownBlock = some q)) ∧ Hid (∀ q, b.ownBlock = some q → (Value.slice A n c).ownBlock = some q ∨ w.heap.size ≤ q)) (fun _ i _ => 64 - (intOf i).toNat)
      case atStart => exact ⟨0, zs, Nat.zero_le _, rfl, HO, HK, Lib.hid (fun q hq => .inl hq)⟩
      case round =>
        clear HO HK
        obtain ⟨j, ys, hj, rfl, HO, HK, HN⟩ := hrel
        have hsz := HK.out.size
        by_cases hlt : j < 64
        · go_wp2_with (at_builtin; (refine push8 wr rfl (.tmp 20) (.tmp 23) rfl base u0 (n + j) ys rfl HO.out _ 18 rfl rfl (by omega) (by omega) ?_); intro v' w1 hown1 hg1 hn1)
          have HK1 := Lib.hid (HK.out.trans (KeptS.of_grown (S := fun q => u0.ownBlock = some q) hg1 (fun q hq => hq)) (fun q hq => HN.out q hq))
          have HN1 : Hid (∀ q, v'.ownBlock = some q → (Value.slice A n c).ownBlock = some q ∨ w.heap.size ≤ q) := Lib.hid (fun q hq => by
            rcases hn1 with e | ⟨k, e, hk⟩
            · exact HN.out q (e.symm.trans hq)
            · rw [e] at hq; injection hq with hq; right; omega)
          have HO1 := Lib.hid hown1
          clear hg1 hown1 hn1 HO HK HN
          go_wp2
          go_roundw
          case rel => exact ⟨j + 1, _, by omega, by go_num, by rw [← Nat.add_assoc]; exact HO1, HK1, HN1⟩
          case measure => simp [intOf]; omega
        · obtain ⟨A', c', hv, _⟩ := own_shape HO.out
          have HV := Lib.hid hv
          clear HO HN hv
          go_wp2
          go_end0
          exact ⟨rfl, HK.out⟩

/-- Bytes the other way round, each another one. -/
def inc (b : Nat) : Nat := (b + 1) % 256
def tn (bs : List Nat) : List Nat := (bs.map inc).reverse
theorem tn_length (bs : List Nat) : (tn bs).length = bs.length := by simp [tn]
theorem tn_by (bs : List Nat) : By (tn bs) := fun b hb => by
  simp only [tn, List.mem_reverse, List.mem_map] at hb
  obtain ⟨c, _, rfl⟩ := hb
  unfold inc
  omega
theorem tn_drop {bs : List Nat} {j x : Nat} (h : bs[j]? = some x) : tn (bs.drop j) = tn (bs.drop (j + 1)) ++ [inc x] := by
  obtain ⟨hl, rfl⟩ := List.getElem?_eq_some_iff.1 h
  unfold tn
  rw [List.drop_eq_getElem_cons hl, List.map_cons, List.reverse_cons]

set_option maxHeartbeats 1000000 in
set_option maxRecDepth 100000 in
theorem turned_is (A : Option Addr) (n c : Nat) (bs : List Nat) (w : World) (hr : Rd w A (b8 bs)) (hn : bs.length = n) (hl : n ≤ 140737488351232) :
    Calls Try.prog 56 #[.slice A n c] w fun e w' => Got8 w w' e (tn bs) := by
  have HR := Lib.hid hr
  have HN := Lib.hid hn
  clear hr hn
  go_enter Try.func56, Try.ntmps56
  go_wp2
  go_loopw [3, 4] (fun v i wr => ∃ (j N : Nat) (ys : List Nat), j ≤ n ∧ N ≤ n - j ∧ i = .int .i64 ((j : Int) - 1) ∧ Hid (N = ys.length) ∧ Hid (ys = tn (bs.drop j)) ∧ Hid (wr.ownsRow w.heap.size 5 1 v N (b8 ys)) ∧ Hid (Below w.heap.size w wr)) (fun _ i _ => (intOf i + 1).toNat)
  case atStart => exact ⟨n, 0, [], Nat.le_refl _, Nat.zero_le _, rfl, Lib.hid rfl, Lib.hid (by rw [List.drop_eq_nil_of_le (by rw [HN.out]; omega)]; rfl), Lib.hid (World.ownsRow_nil _ _ _ _), Lib.hid (Below.refl _ _)⟩
  case round =>
    obtain ⟨j, N, ys, hj, hN, rfl, HNL, HY, HO, HB⟩ := hrel
    have hsz := HB.out.size
    by_cases h0 : j = 0
    · subst h0
      have HF : Hid (N = (tn bs).length ∧ b8 ys = b8 (tn bs)) := Lib.hid (by have h := HY.out; rw [List.drop_zero] at h; rw [← h]; exact ⟨HNL.out, rfl⟩)
      clear HY HNL
      go_wp2
      go_ret
      exact got8_mk HO.out HF.out.1 HF.out.2 HB.out
    · obtain ⟨k, rfl⟩ : ∃ k, j = k + 1 := ⟨j - 1, by omega⟩
      obtain ⟨x, hx⟩ : ∃ x, bs[k]? = some x := ⟨_, List.getElem?_eq_getElem (by rw [HN.out]; omega)⟩
      obtain ⟨g, off, rfl, hg, hc⟩ := HR.out.at_ hx
      have hc2 := (HB.out.cell (p := ⟨g, off + k, none⟩) hg).trans hc
      have HST : Hid (ys ++ [inc x] = tn (bs.drop k)) := Lib.hid (by rw [tn_drop hx, ← HY.out])
      have hki : (((k + 1 : Nat) : Int) - 1) = (k : Int) := by omega
      rw [hki]
      clear hx hc HY
      have hinc : ((x : Int) + 1) % 256 = ((inc x : Nat) : Int) := by unfold inc; omega
      go_wp2_with (at_builtin; go_loud ((refine push8 wr rfl (.tmp 12) (.tmp 18) rfl w.heap.size u3 N ys rfl HO.out _ (inc x) (by first | exact hinc | (unfold inc; omega)) rfl (by omega) (by omega) ?_); intro v' w1 hown1 hg1 hn1; have HO1 := Lib.hid hown1; have HB1 := Lib.hid (HB.out.trans (below_of_grown hg1 (by omega) (fun k hk => (HO.out.lt k hk).1))); clear hown1 hg1 hn1))
      go_roundw
      case rel => exact ⟨k, N + 1, _, by omega, by omega, by go_num, Lib.hid (by rw [HNL.out]; simp), HST, HO1, HB1⟩
      case measure => simp [intOf]

set_option maxHeartbeats 1000000 in
set_option maxRecDepth 100000 in
theorem lay_is (base g N C n m c d : Nat) (B : Option Addr) (xs ys : List Nat) (w : World) (h : w.ownsRow base 5 1 (.slice (some ⟨g, 0, none⟩) N C) N (b8 ys)) (hr : Rd w B (b8 xs)) (hB : xs ≠ [] → ∀ a, B = some a → a.block ≠ g) (hm : xs.length = m) (hmn : m ≤ n) (hnN : n ≤ N) (hl : n ≤ 140737488351232) :
    Calls Try.prog 57 #[.slice (some ⟨g, 0, none⟩) n c, .slice B m d] w fun e w' => e = .returned (.tuple #[]) ∧ w'.ownsRow base 5 1 (.slice (some ⟨g, 0, none⟩) N C) N (b8 (xs ++ ys.drop m)) ∧ w.grownBy w' (some g) := by
  have hyN := own8_n h
  have HM := Lib.hid hm
  have HYN := Lib.hid hyN
  have HR := Lib.hid hr
  have HBB := Lib.hid hB
  have HH : Hid (w.ownsRow base 5 1 (.slice (some ⟨g, 0, none⟩) N C) N (b8 (xs.take 0 ++ ys.drop 0))) := Lib.hid (by simpa using h)
  clear hyN hr hB h hm
  go_enter Try.func57, Try.ntmps57
  go_wp2
  go_loopw [4] (fun i wr => ∃ k : Nat, k ≤ m ∧ i = .int .i64 k ∧ Hid (wr.ownsRow base 5 1 (.slice (some ⟨g, 0, none⟩) N C) N (b8 (xs.take k ++ ys.drop k))) ∧ Hid (w.grownBy wr (some g))) (fun i _ => m - (intOf i).toNat)
  case atStart => exact ⟨0, Nat.zero_le _, rfl, HH, Lib.hid ⟨rfl, rfl, rfl, Nat.le_refl _, fun _ _ _ => rfl⟩⟩
  case round =>
    clear HH
    obtain ⟨k, hk, rfl, HO, HG⟩ := hrel
    by_cases hlt : k < m
    · obtain ⟨x, hx⟩ : ∃ x, xs[k]? = some x := ⟨_, List.getElem?_eq_getElem (by rw [HM.out]; exact hlt)⟩
      obtain ⟨⟨y, hc1⟩, hf1, hs1, hg1⟩ := lay_one HO.out (by rw [HM.out]; omega) (by rw [HYN.out]; omega) (by omega) hx
      obtain ⟨q, off, rfl, hq, hc⟩ := HR.out.at_ hx
      have hqg := HBB.out (by intro h; rw [h] at hx; cases hx) _ rfl
      simp only at hqg
      have hc2 : wr.cell? ⟨q, off + k, none⟩ = some (.int .u8 (x : Int)) := by
        have e := HG.out.block q hq (fun e => hqg (by injection e))
        have : wr.cell? ⟨q, off + k, none⟩ = w.cell? ⟨q, off + k, none⟩ := by simp only [World.cell?, e]
        exact this.trans hc
      have HS := Lib.hid hs1
      have HG1 := Lib.hid (grown_trans HG.out hg1)
      have i0 : (0 : Int) ≤ (k : Int) := by omega
      have i1 : (k : Int) < (m : Int) := by omega
      have i2 : (k : Int) < (n : Int) := by omega
      clear hs1 hg1 hc hx HO HG hqg
      go_wp2
      go_roundw
      case rel => exact ⟨k + 1, by omega, by go_num, HS, HG1⟩
      case measure => simp [intOf]; omega
    · have hkm : k = m := by omega
      subst hkm
      have HF : Hid (wr.ownsRow base 5 1 (.slice (some ⟨g, 0, none⟩) N C) N (b8 (xs ++ ys.drop k))) := Lib.hid (by
        have h := HO.out
        rw [List.take_of_length_le (by rw [HM.out]; omega)] at h
        exact h)
      clear HO
      go_wp2
      go_end0
      exact ⟨rfl, HF.out, HG.out⟩
end Go.Proofs.Ytmdpncjffikmiaa

/- chroniclelaw2: sameTokens, twins, unharmed, other: what the statements do to tokens. -/
namespace Go.Proofs.Ytmdpncjffikmiaa
open Go Go.RowKit
set_option linter.unusedVariables false
set_option linter.unusedSimpArgs false

set_option maxHeartbeats 1000000 in
set_option maxRecDepth 100000 in
theorem sameTokens_yes (A B : Option Addr) (n c d : Nat) (la lb : List TkV) (w : World) (ha : Rd w A (tkCells la)) (hb : Rd w B (tkCells lb)) (he : toks la = toks lb) (hn : la.length = n) (oa : ∀ x ∈ la, x.Ok w) (ob : ∀ x ∈ lb, x.Ok w) (hl : n ≤ 4000000000000) :
    Calls Try.prog 29 #[.slice A n c, .slice B n d] w fun e w' => Looks w w' e (.bool true) := by
  have HA := Lib.hid ha
  have HB := Lib.hid hb
  have HN := Lib.hid hn
  have HM : Hid (lb.length = n) := Lib.hid (by have := congrArg List.length he; simp only [toks, List.length_map] at this; omega)
  have HE := Lib.hid he
  have OA := Lib.hid oa
  have OB := Lib.hid ob
  clear ha hb he hn oa ob
  have hne : ((n : Int) != (n : Int)) = false := by simp
  go_enter Try.func29, Try.ntmps29
  go_wp2
  go_loopw [5] (fun i wr => ∃ k j : Nat, k ≤ n ∧ i = .int .i64 k ∧ wr = w.drewN j) (fun i _ => n - (intOf i).toNat)
  case atStart => exact ⟨0, 0, Nat.zero_le _, rfl, rfl⟩
  case round =>
    obtain ⟨k, j, hk, rfl, rfl⟩ := hrel
    by_cases hlt : k < n
    · obtain ⟨x, hx⟩ : ∃ x, la[k]? = some x := ⟨_, List.getElem?_eq_getElem (by rw [HN.out]; exact hlt)⟩
      obtain ⟨y, hy⟩ : ∃ y, lb[k]? = some y := ⟨_, List.getElem?_eq_getElem (by rw [HM.out]; exact hlt)⟩
      have hxy : x.tk = y.tk := by
        have h1 := toks_get hx
        have h2 := toks_get hy
        rw [HE.out, h2] at h1
        injection h1 with h1
        exact h1.symm
      have ox := OA.out x (List.mem_of_getElem? hx)
      have oy := OB.out y (List.mem_of_getElem? hy)
      obtain ⟨g, off, rfl, hg, hc0, hc1, hc2⟩ := HA.out.tok hx
      obtain ⟨g', off', rfl, hg', hd0, hd1, hd2⟩ := HB.out.tok hy
      obtain ⟨xA, xc, lit, xd, xl⟩ := x
      obtain ⟨yA, yc, lit', yd, yl⟩ := y
      unfold TkV.tk at hxy
      simp only [Tk.mk.injEq] at hxy
      obtain ⟨rfl, rfl, rfl⟩ := hxy
      have PS := Lib.hid (fun W (hW : Below w.heap.size w W) => lsame_yes xA yA lit.length lit.length xc yc lit lit W (ox.rd.below hW) (oy.rd.below hW) rfl rfl (by have := ox.sz; simp only at this; omega) (by have := ox.sz; simp only at this; omega) rfl)
      simp only at hc0 hc1 hc2 hd0 hd1 hd2
      have e1 : ((xd : Int) != xd) = false := by simp
      have e2 : ((xl : Int) != xl) = false := by simp
      have i0 : (0 : Int) ≤ (k : Int) := by omega
      have i1 : (k : Int) < (n : Int) := by omega
      clear ox oy hx hy
      go_wp2
      go_quiet ((go_at_call 19; go_loud (refine (PS.out _ (by first | exact below_drewN (below_drewN (Below.refl _ _) _) _ | exact below_drewN (Below.refl _ _) _)).mono ?_; rintro r w1 ⟨rfl, m, rfl⟩; exact ⟨rfl, _, (World.drewN_drewN ..).trans (congrArg _ (Nat.add_assoc ..))⟩)))
      go_wp2
      go_roundw
      case rel => exact ⟨k + 1, _, by omega, by go_num, rfl⟩
      case measure => simp [intOf]; omega
    · go_wp2
      go_ret
      exact ⟨rfl, _, rfl⟩

/-- Tokens in a row of the call's own: their cells, and one of them laid anew. -/
theorem tok_row {w : World} {base g N c k : Nat} {xs : List TkV} {x : TkV} (h : w.ownsRow base 37 3 (.slice (some ⟨g, 0, none⟩) N c) N (tkCells xs)) (hk : xs[k]? = some x) :
    (w.cell? ⟨g, k * 3, none⟩ = some (.slice x.A x.lit.length x.c) ∧ w.cell? ⟨g, k * 3 + 1, none⟩ = some (.int .i64 x.d) ∧ w.cell? ⟨g, k * 3 + 2, none⟩ = some (.int .i64 x.l)) ∧
    w.frozen? ⟨g, k * 3, none⟩ = false ∧ w.frozen? ⟨g, k * 3 + 1, none⟩ = false ∧ w.frozen? ⟨g, k * 3 + 2, none⟩ = false := by
  have hn := h.1
  rw [tkCells_length] at hn
  have hl := (List.getElem?_eq_some_iff.1 hk).1
  obtain ⟨h0, h1, h2⟩ := tkCells_get hk
  exact ⟨⟨(h.cellAt _ (by omega)).trans h0, (h.cellAt _ (by omega)).trans h1, (h.cellAt _ (by omega)).trans h2⟩, h.frozenAt _, h.frozenAt _, h.frozenAt _⟩
theorem tok_stored {w : World} {base g N c k : Nat} {xs : List TkV} (h : w.ownsRow base 37 3 (.slice (some ⟨g, 0, none⟩) N c) N (tkCells xs)) (hk : k < xs.length) (y : TkV) :
    (((w.setCell ⟨g, k * 3, none⟩ (.slice y.A y.lit.length y.c)).setCell ⟨g, k * 3 + 1, none⟩ (.int .i64 y.d)).setCell ⟨g, k * 3 + 2, none⟩ (.int .i64 y.l)).ownsRow base 37 3 (.slice (some ⟨g, 0, none⟩) N c) N (tkCells (xs.set k y)) ∧
    w.grownBy (((w.setCell ⟨g, k * 3, none⟩ (.slice y.A y.lit.length y.c)).setCell ⟨g, k * 3 + 1, none⟩ (.int .i64 y.d)).setCell ⟨g, k * 3 + 2, none⟩ (.int .i64 y.l)) (some g) := by
  have h1 := h.stored (k * 3) (.slice y.A y.lit.length y.c)
  have h2 := h1.1.stored (k * 3 + 1) (.int .i64 y.d)
  have h3 := h2.1.stored (k * 3 + 2) (.int .i64 y.l)
  rw [tkCells_set3 y hk] at h3
  exact ⟨h3.1, grown_trans h1.2 (grown_trans h2.2 h3.2)⟩

theorem infoTok : (Try.prog.info? 37).map (fun i => (i.zero, i.size, i.bytes)) = some (some (.agg #[.slice none 0 0, .int .i64 0, .int .i64 0]), 3, 40) := by kernel_rfl

/-- A token's twin: its bytes in memory of their own, with marks behind. -/
structure Twin (W : World) (g0 : Nat) (x y : TkV) : Prop where
  lit : y.lit = x.lit
  d : y.d = x.d
  l : y.l = x.l
  c : y.c = x.lit.length + 64
  at_ : ∃ gi, y.A = some ⟨gi, 0, none⟩ ∧ g0 < gi
  rd : Rd W y.A (b8 (x.lit ++ pat x.lit.length))
theorem Twin.grown {W W' : World} {g0 g2 : Nat} {x y : TkV} (h : Twin W g0 x y) (hg : W.grownBy W' (some g2)) (h2 : g2 ≤ g0) : Twin W' g0 x y := by
  obtain ⟨gi, e, hne⟩ := h.at_
  exact ⟨h.lit, h.d, h.l, h.c, h.at_, h.rd.grown hg (fun a ha e2 => by rw [e] at ha; injection ha with ha; subst ha; injection e2 with e2; have e3 : gi = g2 := e2; omega)⟩
theorem Twin.below {W W' : World} {g0 : Nat} {x y : TkV} (h : Twin W g0 x y) (hb : Below W.heap.size W W') : Twin W' g0 x y := ⟨h.lit, h.d, h.l, h.c, h.at_, h.rd.below hb⟩
theorem Twin.tk {W : World} {g0 : Nat} {x y : TkV} (h : Twin W g0 x y) : y.tk = x.tk := by unfold TkV.tk; rw [h.lit, h.d, h.l]
theorem Twin.ok {W w : World} {g0 : Nat} {x y : TkV} (h : Twin W g0 x y) (o : x.Ok w) : y.Ok W := by
  have hs := o.sz
  refine ⟨?_, ?_, ?_, ?_, ?_, ?_, ?_⟩
  · rw [h.lit, h.c]; omega
  · rw [h.c]; unfold maxLen; omega
  · rw [h.lit]
    have := h.rd.take_ x.lit.length
    rw [b8_append, List.take_left' (b8_length _)] at this
    exact this
  · rw [h.lit]; exact o.by_
  · rw [h.lit]; exact hs
  · rw [h.d]; exact o.d64
  · rw [h.l]; exact o.l64

def tkZero : TkV := ⟨none, 0, [], 0, 0⟩
def tkEnd : TkV := ⟨none, 0, [], 77, -5⟩
/-- The first of them are twins of those. -/
def TwinsTo (W : World) (g0 : Nat) (l ms : List TkV) : Prop := ∀ (i : Nat) (y : TkV), ms[i]? = some y → ∃ x, l[i]? = some x ∧ Twin W g0 x y
def Twins (w : World) (l : List TkV) (n : Nat) (e : Ending) (W : World) : Prop :=
  ∃ ms, e = .returned (.slice (some ⟨w.heap.size, 0, none⟩) (n + 1) (n + 1)) ∧ W.ownsRow w.heap.size 37 3 (.slice (some ⟨w.heap.size, 0, none⟩) (n + 1) (n + 1)) (n + 1) (tkCells (ms ++ [tkEnd])) ∧ ms.length = n ∧ TwinsTo W w.heap.size l ms ∧ Below w.heap.size w W

theorem TwinsTo.grown {W W' : World} {g0 g2 : Nat} {l ms : List TkV} (h : TwinsTo W g0 l ms) (hg : W.grownBy W' (some g2)) (h2 : g2 ≤ g0) : TwinsTo W' g0 l ms := fun i y hy => by
  obtain ⟨x, hx, ht⟩ := h i y hy
  exact ⟨x, hx, ht.grown hg h2⟩
theorem TwinsTo.below {W W' : World} {g0 : Nat} {l ms : List TkV} (h : TwinsTo W g0 l ms) (hb : Below W.heap.size W W') : TwinsTo W' g0 l ms := fun i y hy => by
  obtain ⟨x, hx, ht⟩ := h i y hy
  exact ⟨x, hx, ht.below hb⟩
theorem twin_set {ms : List TkV} {k n : Nat} (h : ms.length = k) (hk : k < n) {y : TkV} : (ms ++ List.replicate (n + 1 - k) tkZero).set k y = (ms ++ [y]) ++ List.replicate (n + 1 - (k + 1)) tkZero := by
  rw [List.set_append_right _ _ (by omega), h, Nat.sub_self, show n + 1 - k = (n + 1 - (k + 1)) + 1 by omega, List.replicate_succ, List.set_cons_zero, List.append_assoc]
  rfl
theorem TwinsTo.snoc {wr w2 W : World} {g0 k xc : Nat} {xA : Option Addr} {lit : List Nat} {xd xl : Int} {l ms : List TkV} (h : TwinsTo wr g0 l ms) (hk : ms.length = k) (hx : l[k]? = some ⟨xA, xc, lit, xd, xl⟩)
    (hr : Rd w2 (some ⟨wr.heap.size, 0, none⟩) (b8 (lit ++ pat lit.length))) (hg : g0 < wr.heap.size) (hb : Below wr.heap.size wr w2) (hs : w2.grownBy W (some g0)) : TwinsTo W.drew g0 l (ms ++ [⟨some ⟨wr.heap.size, 0, none⟩, lit.length + 64, lit, xd, xl⟩]) := by
  have hd : Below W.heap.size W W.drew := (Below.refl _ _).drew
  intro i y hy
  rcases Nat.lt_or_ge i ms.length with hi | hi
  · rw [List.getElem?_append_left hi] at hy
    obtain ⟨x, h1, h2⟩ := h i y hy
    exact ⟨x, h1, ((h2.below hb).grown hs (Nat.le_refl _)).below hd⟩
  · rw [List.getElem?_append_right hi] at hy
    have hik : i - ms.length = 0 := by
      have := (List.getElem?_eq_some_iff.1 hy).1
      simp only [List.length_singleton] at this
      omega
    rw [hik] at hy
    simp only [List.getElem?_cons_zero, Option.some.injEq] at hy
    subst hy
    refine ⟨⟨xA, xc, lit, xd, xl⟩, by rw [show i = k by omega]; exact hx, ⟨rfl, rfl, rfl, rfl, ⟨_, rfl, by omega⟩, ?_⟩⟩
    refine (hr.grown hs (fun a ha e => ?_)).below hd
    injection ha with ha
    subst ha
    injection e with e
    have e' : wr.heap.size = g0 := e
    omega
theorem TwinsTo.toks {W : World} {g0 n : Nat} {l ms : List TkV} (h : TwinsTo W g0 l ms) (hl : l.length = n) (hm : ms.length = n) : toks ms = toks l := by
  apply List.ext_getElem?
  intro i
  unfold Go.Proofs.Ytmdpncjffikmiaa.toks
  rw [List.getElem?_map, List.getElem?_map]
  cases hy : ms[i]? with
  | none =>
    have : l[i]? = none := by rw [List.getElem?_eq_none_iff] at hy ⊢; omega
    rw [this]
  | some y =>
    obtain ⟨x, hx, ht⟩ := h i y hy
    rw [hx]
    simp [ht.tk]

theorem zeroToks (n : Nat) : (madeCells (Value.agg #[.slice none 0 0, .int .i64 0, .int .i64 0]).cells (n * 3)).toList = tkCells (List.replicate n tkZero) := by
  have hc : (Value.agg #[.slice none 0 0, .int .i64 0, .int .i64 0]).cells = #[.slice none 0 0, .int .i64 0, .int .i64 0] := by simp [Value.cells]
  rw [hc]
  apply List.ext_getElem?
  intro i
  by_cases hi : i < n * 3
  · have hk : (List.replicate n tkZero)[i / 3]? = some tkZero := by rw [List.getElem?_replicate, if_pos (by omega)]
    obtain ⟨h0, h1, h2⟩ := tkCells_get hk
    have hm : ((madeCells #[Value.slice none 0 0, .int .i64 0, .int .i64 0] (n * 3)).toList)[i]? = some (#[Value.slice none 0 0, .int .i64 0, .int .i64 0][i % 3]!) := by
      simp [madeCells, hi]
    rw [hm]
    rcases (show i % 3 = 0 ∨ i % 3 = 1 ∨ i % 3 = 2 by omega) with e | e | e
    · rw [e, show i = i / 3 * 3 by omega, h0]; rfl
    · rw [e, show i = i / 3 * 3 + 1 by omega, h1]; rfl
    · rw [e, show i = i / 3 * 3 + 2 by omega, h2]; rfl
  · rw [List.getElem?_eq_none (by simp [madeCells]; omega), List.getElem?_eq_none (by rw [tkCells_length, List.length_replicate]; omega)]

set_option maxHeartbeats 1000000 in
set_option maxRecDepth 100000 in
theorem twins_is (A : Option Addr) (n c : Nat) (l : List TkV) (w : World) (hr : Rd w A (tkCells l)) (hn : l.length = n) (ok : ∀ x ∈ l, x.Ok w) (hl : n ≤ 4000000000000) :
    Calls Try.prog 17 #[.slice A n c] w (Twins w l n) := by
  obtain ⟨inf, hi, hz0, hz1, hz2⟩ := info_parts infoTok
  have HI := Lib.hid hi
  have HZ0 := Lib.hid hz0
  have HZ1 := Lib.hid hz1
  have HZ2 := Lib.hid hz2
  have HR := Lib.hid hr
  have HN := Lib.hid hn
  have OK := Lib.hid ok
  have HYZ := Lib.hid (zeroToks (n + 1))
  clear hr hn ok hi hz0 hz1 hz2
  go_enter Try.func17, Try.ntmps17
  go_wp2_with (at_make; refine wpList_make_full _ rfl (.tmp 8) (.tmp 8) 22 rfl w.heap.size 37 inf (.agg #[.slice none 0 0, .int .i64 0, .int .i64 0]) 3 Try.underlying22 HI.out HZ0.out HZ1.out .i64 .i64 _ _ (n + 1) rfl rfl (by omega) (by omega) (by rw [HZ2.out]; omega) (by unfold maxLen; omega) (Nat.le_refl _) ?_; intro w1 hown1 hg1; have HO := Lib.hid (HYZ.out ▸ hown1); have HB := Lib.hid (below_of_grown hg1 (Nat.le_refl _) (fun k hk => by cases hk)); clear hown1 hg1)
  go_loopw [4, 5] (fun i v wr => ∃ (k : Nat) (ms : List TkV), k ≤ n ∧ i = .int .i64 k ∧ Hid (ms.length = k) ∧ Hid (wr.ownsRow w.heap.size 37 3 (.slice (some ⟨w.heap.size, 0, none⟩) (n + 1) (n + 1)) (n + 1) (tkCells (ms ++ List.replicate (n + 1 - k) tkZero))) ∧ Hid (TwinsTo wr w.heap.size l ms) ∧ Hid (Below w.heap.size w wr)) (fun i _ _ => n - (intOf i).toNat)
  case atStart => exact ⟨0, [], Nat.zero_le _, rfl, Lib.hid rfl, HO, Lib.hid (fun i y h => by simp at h), HB⟩
  case round =>
    clear HO HB
    obtain ⟨k, ms, hk, rfl, HL, HO, HT, HB⟩ := hrel
    have hsz := HB.out.size
    by_cases hlt : k < n
    · obtain ⟨x, hx⟩ : ∃ x, l[k]? = some x := ⟨_, List.getElem?_eq_getElem (by rw [HN.out]; exact hlt)⟩
      have OX := Lib.hid (OK.out x (List.mem_of_getElem? hx))
      obtain ⟨g, off, rfl, hg, hc0, hc1, hc2⟩ := HR.out.tok hx
      have HX := Lib.hid hx
      replace hc0 := (HB.out.cell (p := ⟨g, off + k * 3, none⟩) hg).trans hc0
      replace hc1 := (HB.out.cell (p := ⟨g, off + k * 3 + 1, none⟩) hg).trans hc1
      replace hc2 := (HB.out.cell (p := ⟨g, off + k * 3 + 2, none⟩) hg).trans hc2
      have hls := OX.out.sz
      have hcap := OX.out.cap
      have PS := Lib.hid (spare_is x.A x.lit.length x.c x.lit wr (OX.out.rd.below HB.out) rfl hls)
      obtain ⟨xA, xc, lit, xd, xl⟩ := x
      simp only at hc0 hc1 hc2 hls hcap
      have i0 : (0 : Int) ≤ (k : Int) := by omega
      have i1 : (k : Int) < (n : Int) := by omega
      have i2 : (k : Int) < (n : Int) + 1 := by omega
      have i3 : (lit.length : Int) ≤ (lit.length : Int) + 64 := by omega
      have i4 : lit.length ≤ lit.length + 64 := by omega
      have i5 : (0 : Int) ≤ (lit.length : Int) := by omega
      have hfz : w.heap.size < wr.heap.size := (HO.out.lt _ rfl).2
      clear hx
      go_wp2_with (go_at_call 27; refine PS.out.mono ?_; rintro e w2 ⟨rfl, ho2, hb2⟩; replace hc0 := (hb2.cell (p := ⟨g, off + k * 3, none⟩) (Nat.lt_of_lt_of_le hg hsz)).trans hc0; replace hc1 := (hb2.cell (p := ⟨g, off + k * 3 + 1, none⟩) (Nat.lt_of_lt_of_le hg hsz)).trans hc1; replace hc2 := (hb2.cell (p := ⟨g, off + k * 3 + 2, none⟩) (Nat.lt_of_lt_of_le hg hsz)).trans hc2; have HO2 := Lib.hid ho2; have HB2 := Lib.hid hb2; clear ho2 hb2)
      have HO3 := Lib.hid (own_below HO.out HB2.out)
      have hz : (ms ++ List.replicate (n + 1 - k) tkZero)[k]? = some tkZero := by
        rw [List.getElem?_append_right (by rw [HL.out]; omega), HL.out, Nat.sub_self, List.getElem?_replicate, if_pos (by omega)]
      obtain ⟨⟨q0, q1, q2⟩, f0, f1, f2⟩ := tok_row HO3.out hz
      clear hz
      refine wp_region_still_tail 22 (by kernel_rfl) (by kernel_rfl) ?_
      simp only [List.take_succ_cons, List.take_zero, List.drop_succ_cons, List.drop_zero]
      repeat still_step
      refine wpStill_nil ?_
      change wpList _ _ _ _ _ w2.drew
      go_wp2
      have hs := tok_stored HO3.out (k := k) (by rw [List.length_append, List.length_replicate, HL.out]; omega) ⟨some ⟨wr.heap.size, 0, none⟩, lit.length + 64, lit, xd, xl⟩
      rw [twin_set HL.out hlt] at hs
      have HS := Lib.hid hs
      clear hs q0 q1 q2 f0 f1 f2 hc0 hc1 hc2
      go_roundw
      case rel => exact ⟨k + 1, _, by omega, by go_num, Lib.hid (by rw [List.length_append, HL.out]; rfl), Lib.hid HS.out.1.drew, Lib.hid (HT.out.snoc HL.out HX.out (rd_own HO2.out) hfz HB2.out HS.out.2), Lib.hid ((HB.out.trans ((HB2.out.mono hsz).trans (below_of_grown HS.out.2 (Nat.le_trans hsz HB2.out.size) (fun q hq => by injection hq with hq; omega)))).drew)⟩
      case measure => simp [intOf]; omega
    · have hkn : k = n := by omega
      subst hkn
      have hz : (ms ++ List.replicate (k + 1 - k) tkZero)[k]? = some tkZero := by
        rw [List.getElem?_append_right (by rw [HL.out]; omega), HL.out, Nat.sub_self, List.getElem?_replicate, if_pos (by omega)]
      obtain ⟨⟨q0, q1, q2⟩, f0, f1, f2⟩ := tok_row HO.out hz
      have hfz : w.heap.size < wr.heap.size := (HO.out.lt _ rfl).2
      have hs := tok_stored HO.out (k := k) (by rw [List.length_append, List.length_replicate, HL.out]; omega) tkEnd
      have hl1 : (ms ++ List.replicate (k + 1 - k) tkZero).set k tkEnd = ms ++ [tkEnd] := by
        rw [List.set_append_right _ _ (by rw [HL.out]; omega), HL.out, Nat.sub_self, show k + 1 - k = 1 by omega]
        rfl
      rw [hl1] at hs
      have HS := Lib.hid hs
      have i2 : (k : Int) < (k : Int) + 1 := by omega
      have i0 : (0 : Int) ≤ (k : Int) := by omega
      clear hz hl1 hs
      go_wp2
      go_ret
      exact ⟨ms, rfl, HS.out.1, HL.out, HT.out.grown HS.out.2 (Nat.le_refl _), HB.out.trans (below_of_grown HS.out.2 hsz (fun q hq => by injection hq with hq; omega))⟩
theorem TwinsTo.ok {W w : World} {g0 : Nat} {l ms : List TkV} (h : TwinsTo W g0 l ms) (ok : ∀ x ∈ l, x.Ok w) : ∀ y ∈ ms, y.Ok W := by
  intro y hy
  obtain ⟨i, hi⟩ := List.mem_iff_getElem?.1 hy
  obtain ⟨x, hx, ht⟩ := h i y hi
  exact ht.ok (ok x (List.mem_of_getElem? hx))
theorem rd_tkpre {W : World} {A : Option Addr} {xs ys : List TkV} (h : Rd W A (tkCells (xs ++ ys))) : Rd W A (tkCells xs) := by
  have := h.take_ (xs.length * 3)
  rw [tkCells_append, List.take_left' (tkCells_length xs)] at this
  exact this

set_option maxHeartbeats 1000000 in
set_option maxRecDepth 100000 in
theorem unharmed_is (A : Option Addr) (g0 n c : Nat) (l ms : List TkV) (w : World) (hr : Rd w A (tkCells l)) (hn : l.length = n) (ok : ∀ x ∈ l, x.Ok w) (ho : Rd w (some ⟨g0, 0, none⟩) (tkCells (ms ++ [tkEnd]))) (hm : ms.length = n) (ht : TwinsTo w g0 l ms) (hl : n ≤ 4000000000000) :
    Calls Try.prog 21 #[.slice (some ⟨g0, 0, none⟩) (n + 1) (n + 1), .slice A n c] w fun e w' => Looks w w' e (.bool true) := by
  have PS := Lib.hid (fun W (hW : Below w.heap.size w W) => sameTokens_yes (some ⟨g0, 0, none⟩) A n (n + 1) c ms l W ((rd_tkpre ho).below hW) (hr.below hW) (ht.toks hn hm) hm (fun x hx => (ht.ok ok x hx).below hW) (fun x hx => (ok x hx).below hW) hl)
  have hz : (ms ++ [tkEnd])[n]? = some tkEnd := by rw [List.getElem?_append_right (by omega), hm, Nat.sub_self]; rfl
  obtain ⟨g1, off1, he1, hg1, _, q1, q2⟩ := ho.tok hz
  injection he1 with he1
  injection he1 with he1 he2
  subst he1 he2
  rw [Nat.zero_add] at q1 q2
  simp only [tkEnd] at q1 q2
  have HR := Lib.hid hr
  have HN := Lib.hid hn
  have OK := Lib.hid ok
  have HO := Lib.hid ho
  have HM := Lib.hid hm
  have HT := Lib.hid ht
  have i0 : (0 : Int) ≤ (n : Int) := by omega
  have i1 : (n : Int) ≤ (n : Int) + 1 := by omega
  have i2 : (n : Int) < (n : Int) + 1 := by omega
  have i3 : n ≤ n + 1 := by omega
  clear hr hn ok ho hm ht hz
  go_enter Try.func21, Try.ntmps21
  go_wp2_with (go_at_call 29; go_loud (refine (PS.out _ (Below.refl _ _)).mono ?_; rintro r w1 ⟨rfl, m, rfl⟩))
  clear q1 q2 PS
  go_loopw [5] (fun i wr => ∃ k j : Nat, k ≤ n ∧ i = .int .i64 k ∧ wr = w.drewN j) (fun i _ => n - (intOf i).toNat)
  case atStart => exact ⟨0, _, Nat.zero_le _, rfl, rfl⟩
  case round =>
    obtain ⟨k, j, hk, rfl, rfl⟩ := hrel
    by_cases hlt : k < n
    · obtain ⟨y, hy⟩ : ∃ y, ms[k]? = some y := ⟨_, List.getElem?_eq_getElem (by rw [HM.out]; exact hlt)⟩
      obtain ⟨x, hx, htw⟩ := HT.out k y hy
      have ox := OK.out x (List.mem_of_getElem? hx)
      obtain ⟨g, off, rfl, hg, hc0, hc1, hc2⟩ := HR.out.tok hx
      obtain ⟨g', off', he', hg', hd0, hd1, hd2⟩ := (rd_tkpre HO.out).tok hy
      injection he' with he'
      injection he' with he1 he2
      subst he1 he2
      rw [Nat.zero_add] at hd0 hd1 hd2
      have hls := ox.sz
      have hcap := ox.cap
      have PK := Lib.hid (fun W (hW : Below w.heap.size w W) => kept_is y.A x.A x.lit.length (x.lit.length + 64) y.c x.c x.lit W (htw.rd.below hW) (ox.rd.below hW) rfl rfl hls)
      have hyl := htw.lit
      have hyc := htw.c
      clear htw hx hy ox
      obtain ⟨xA, xc, lit, xd, xl⟩ := x
      obtain ⟨yA, yc, ylit, yd, yl⟩ := y
      simp only at hc0 hc1 hc2 hd0 hd1 hd2 hls hcap hyl hyc PK
      subst hyl hyc
      have j0 : (0 : Int) ≤ (k : Int) := by omega
      have j1 : (k : Int) < (n : Int) := by omega
      have j2 : (k : Int) < (n : Int) + 1 := by omega
      have j3 : (0 : Int) ≤ (ylit.length : Int) + 64 := by omega
      have j4 : ((ylit.length : Int) + 64).toNat = ylit.length + 64 := by omega
      have j5 : ylit.length ≤ ylit.length + 64 := by omega
      go_wp2
      go_quiet ((go_at_call 31; go_loud (refine (PK.out _ (by first | exact below_drewN (below_drewN (Below.refl _ _) _) _ | exact below_drewN (Below.refl _ _) _ | exact Below.refl _ _)).mono ?_; rintro r w1 ⟨rfl, m, rfl⟩; exact ⟨rfl, _, (World.drewN_drewN ..).trans (congrArg _ (Nat.add_assoc ..))⟩)))
      go_wp2
      go_roundw
      case rel => exact ⟨k + 1, _, by omega, by go_num, rfl⟩
      case measure => simp [intOf]; omega
    · go_wp2
      go_ret
      exact ⟨rfl, _, rfl⟩
end Go.Proofs.Ytmdpncjffikmiaa

/- Rows of tokens of the call's own; chroniclelaw2.other. -/
namespace Go.Proofs.Ytmdpncjffikmiaa
open Go Go.RowKit
set_option linter.unusedVariables false
set_option linter.unusedSimpArgs false

/-- Tokens behind a row of the call's own. -/
theorem appT (w : World) {ops : Array Oper} {rest : List Oper} {o : Oper} {a : Act} {Q : Exit → Act → World → Prop} (hgd : o.guard = none) (s x : Operand)
    (ho : o.op = .call { callee := .builtin .append, args := #[s, x], argTypes := #[22, 22] })
    (base : Nat) (v : Value) (n : Nat) (xs : List TkV) (hs : a.eval s = v) (hown : w.ownsRow base 37 3 v n (tkCells xs))
    (A : Option Addr) (m c : Nat) (news : List TkV) (hx : a.eval x = .slice A m c) (hl : news.length = m) (hr : Rd w A (tkCells news))
    (hbytes : (n + m) * 40 ≤ 140737488355328) (hbase : base ≤ w.heap.size)
    (h : ∀ v' w', w'.ownsRow base 37 3 v' (n + m) (tkCells (xs ++ news)) → w.grownBy w' v.ownBlock → (v'.ownBlock = v.ownBlock ∨ ∃ k, v'.ownBlock = some k ∧ w.heap.size ≤ k) → wpList Try.prog ops Q rest (a.put o.dst v') w') :
    wpList Try.prog ops Q (o :: rest) a w := by
  obtain ⟨i0, hi, hz0, hz1, hz2⟩ := info_parts infoTok
  refine wpList_app w hgd s x 22 ho base 37 i0 _ 3 40 Try.underlying22 hi hz0 hz1 hz2 rfl (by omega) v n (tkCells xs) hs hown A m c (tkCells news) hx (by rw [tkCells_length, hl]) hr (tkCells_one _) hbytes (by unfold maxLen; omega) hbase ?_
  intro v' w' h1 h2 h3
  exact h v' w' (by rw [tkCells_append]; exact h1) h2 h3

/-- One token, a literal slice of one. -/
theorem pushT (w : World) {ops : Array Oper} {rest : List Oper} {o : Oper} {a : Act} {Q : Exit → Act → World → Prop} (hgd : o.guard = none) (s x : Operand)
    (ho : o.op = .call { callee := .builtin .append, args := #[s, x], argTypes := #[22, 22] })
    (base : Nat) (v : Value) (n : Nat) (xs : List TkV) (hs : a.eval s = v) (hown : w.ownsRow base 37 3 v n (tkCells xs)) (y : TkV) (q : Nat) (hq : q = w.heap.size)
    (hx : a.eval x = .slice (some ⟨q, 0, none⟩) 1 1)
    (hbytes : (n + 1) * 40 ≤ 140737488355328) (hbase : base ≤ w.heap.size)
    (h : ∀ v' w', w'.ownsRow base 37 3 v' (n + 1) (tkCells (xs ++ [y])) → w.grownBy w' v.ownBlock → (v'.ownBlock = v.ownBlock ∨ ∃ k, v'.ownBlock = some k ∧ w.heap.size ≤ k) → wpList Try.prog ops Q rest (a.put o.dst v') w') :
    wpList Try.prog ops Q (o :: rest) a (w.alloc (.cells #[.slice y.A y.lit.length y.c, .int .i64 y.d, .int .i64 y.l] 37)) := by
  subst hq
  have hb : Below w.heap.size w (w.alloc (.cells #[.slice y.A y.lit.length y.c, .int .i64 y.d, .int .i64 y.l] 37)) := (Below.refl _ _).alloc (Nat.le_refl _) _
  refine appT (w.alloc (.cells #[.slice y.A y.lit.length y.c, .int .i64 y.d, .int .i64 y.l] 37)) hgd s x ho base v n xs hs (hown.alloc _) (some ⟨w.heap.size, 0, none⟩) 1 1 [y] hx rfl (rd_lit w _ _) hbytes (Nat.le_trans hbase hb.size) ?_
  intro v' w' h1 h2 h3
  refine h v' w' h1 ⟨h2.os.trans hb.os, h2.tape.trans hb.tape, h2.output.trans hb.output, Nat.le_trans hb.size h2.size, fun k hk hne => (h2.block k (Nat.lt_of_lt_of_le hk hb.size) hne).trans (hb.block k hk)⟩ ?_
  rcases h3 with h3 | ⟨k, h3, hk⟩
  · exact .inl h3
  · exact .inr ⟨k, h3, Nat.le_trans hb.size hk⟩

/-- Another token. -/
def bumpT (x : TkV) : TkV := if 0 < x.l ∧ x.l < 1000 then ⟨x.A, x.c, x.lit, x.d, x.l + 1⟩ else x
def oth (l : List TkV) : List TkV := (l.map bumpT).reverse
theorem oth_length (l : List TkV) : (oth l).length = l.length := by simp [oth]
theorem bumpT_ok {w : World} {x : TkV} (h : x.Ok w) : (bumpT x).Ok w := by
  unfold bumpT
  split
  · exact ⟨h.cap, h.cm, h.rd, h.by_, h.sz, h.d64, by simp only; omega⟩
  · exact h
theorem oth_ok {w : World} {l : List TkV} (h : ∀ x ∈ l, x.Ok w) : ∀ x ∈ oth l, x.Ok w := by
  intro x hx
  unfold oth at hx
  rw [List.mem_reverse, List.mem_map] at hx
  obtain ⟨y, hy, rfl⟩ := hx
  exact bumpT_ok (h y hy)
theorem oth_drop {l : List TkV} {j : Nat} {x : TkV} (h : l[j]? = some x) : oth (l.drop j) = oth (l.drop (j + 1)) ++ [bumpT x] := by
  obtain ⟨hl, rfl⟩ := List.getElem?_eq_some_iff.1 h
  unfold oth
  rw [List.drop_eq_getElem_cons hl, List.map_cons, List.reverse_cons]

def GotT (w : World) (l : List TkV) (n : Nat) (e : Ending) (w' : World) : Prop :=
  ∃ A c, e = .returned (.slice A n c) ∧ w'.ownsRow w.heap.size 37 3 (.slice A n c) n (tkCells l) ∧ Below w.heap.size w w'

set_option maxHeartbeats 1000000 in
set_option maxRecDepth 100000 in
theorem other_is (A : Option Addr) (n c : Nat) (l : List TkV) (w : World) (hr : Rd w A (tkCells l)) (hn : l.length = n) (ok : ∀ x ∈ l, x.Ok w) (hl : n * 40 ≤ 140737488351232) :
    Calls Try.prog 49 #[.slice A n c] w (GotT w (oth l) n) := by
  have HR := Lib.hid hr
  have HN := Lib.hid hn
  have OK := Lib.hid ok
  clear hr hn ok
  go_enter Try.func49, Try.ntmps49
  go_wp2
  go_loopw [3, 4, 5] (fun v i p wr => ∃ (j N : Nat) (ys : List TkV), j ≤ n ∧ Hid (N + j = n) ∧ i = .int .i64 ((j : Int) - 1) ∧ Hid (ys = oth (l.drop j)) ∧ Hid (wr.ownsRow w.heap.size 37 3 v N (tkCells ys)) ∧ Hid (Below w.heap.size w wr)) (fun _ i _ _ => (intOf i + 1).toNat)
  case atStart => exact ⟨n, 0, [], Nat.le_refl _, Lib.hid (by omega), rfl, Lib.hid (by rw [List.drop_eq_nil_of_le (by rw [HN.out]; omega)]; rfl), Lib.hid (World.ownsRow_nil _ _ _ _), Lib.hid (Below.refl _ _)⟩
  case round =>
    obtain ⟨j, N, ys, hj, HNJ, rfl, HY, HO, HB⟩ := hrel
    have hsz := HB.out.size
    have hNn : N ≤ n := by have := HNJ.out; omega
    by_cases h0 : j = 0
    · subst h0
      have HF : Hid (u3 = u3 ∧ wr.ownsRow w.heap.size 37 3 u3 n (tkCells (oth l))) := Lib.hid (by
        have h := HY.out
        rw [List.drop_zero] at h
        have e := HNJ.out
        rw [Nat.add_zero] at e
        rw [← h, ← e]
        exact ⟨rfl, HO.out⟩)
      obtain ⟨A9, c9, hv, _⟩ := own_shape HF.out.2
      clear HY HNJ
      subst hv
      go_wp2
      go_ret
      exact ⟨A9, c9, rfl, HF.out.2, HB.out⟩
    · obtain ⟨k, rfl⟩ : ∃ k, j = k + 1 := ⟨j - 1, by omega⟩
      obtain ⟨x, hx⟩ : ∃ x, l[k]? = some x := ⟨_, List.getElem?_eq_getElem (by rw [HN.out]; omega)⟩
      obtain ⟨g, off, rfl, hg, hc0, hc1, hc2⟩ := HR.out.tok hx
      replace hc0 := (HB.out.cell (p := ⟨g, off + k * 3, none⟩) hg).trans hc0
      replace hc1 := (HB.out.cell (p := ⟨g, off + k * 3 + 1, none⟩) hg).trans hc1
      replace hc2 := (HB.out.cell (p := ⟨g, off + k * 3 + 2, none⟩) hg).trans hc2
      have HST : Hid (ys ++ [bumpT x] = oth (l.drop k)) := Lib.hid (by rw [oth_drop hx, ← HY.out])
      have hl64 := (OK.out x (List.mem_of_getElem? hx)).l64
      have hki : (((k + 1 : Nat) : Int) - 1) = (k : Int) := by omega
      rw [hki]
      obtain ⟨xA, xc, lit, xd, xl⟩ := x
      simp only at hc0 hc1 hc2 hl64
      have i0 : (0 : Int) ≤ (k : Int) := by omega
      have i1 : (k : Int) < (n : Int) := by omega
      have HB0 := Lib.hid (Bt.new wr ⟨xA, xc, lit, xd, xl⟩)
      clear hx HY
      by_cases hp : 0 < xl ∧ xl < 1000
      · have HBU : Hid (bumpT ⟨xA, xc, lit, xd, xl⟩ = ⟨xA, xc, lit, xd, xl + 1⟩) := Lib.hid (by unfold bumpT; rw [if_pos hp])
        obtain ⟨hp1, hp2⟩ := hp
        go_wp2_with (at_builtin; go_loud ((refine pushT (wr.alloc (.cells #[.slice xA lit.length xc, .int .i64 xd, .int .i64 (xl + 1)] 37)) rfl (.tmp 29) (.tmp 31) (by rfl) w.heap.size _ N ys (by rfl) (HO.out.alloc _) ⟨xA, xc, lit, xd, xl + 1⟩ (wr.heap.size + 1) (by simp) (by rfl) (by omega) (by simp; omega) ?_); intro v2 w2 ho2 hg2 hn2; have HO2 := Lib.hid ho2; have HB2 := Lib.hid ((HB.out.alloc hsz (.cells #[.slice xA lit.length xc, .int .i64 xd, .int .i64 (xl + 1)] 37)).trans (below_of_grown hg2 (by simp; omega) (fun k hk => (HO.out.lt k hk).1))); clear ho2 hg2 hn2))
        go_roundw
        case rel => exact ⟨k, N + 1, _, by omega, Lib.hid (by have := HNJ.out; omega), by go_num, Lib.hid (by rw [← HST.out, HBU.out]), HO2, HB2⟩
        case measure => simp [intOf]
      · have HBU : Hid (bumpT ⟨xA, xc, lit, xd, xl⟩ = ⟨xA, xc, lit, xd, xl⟩) := Lib.hid (by unfold bumpT; rw [if_neg hp])
        by_cases hp1 : 0 < xl
        · have hp2 : ¬ xl < 1000 := fun h => hp ⟨hp1, h⟩
          clear hp
          go_wp2_with (at_builtin; go_loud ((refine pushT (wr.alloc (.cells #[.slice xA lit.length xc, .int .i64 xd, .int .i64 (xl)] 37)) rfl (.tmp 29) (.tmp 31) (by rfl) w.heap.size _ N ys (by rfl) (HO.out.alloc _) ⟨xA, xc, lit, xd, xl⟩ (wr.heap.size + 1) (by simp) (by rfl) (by omega) (by simp; omega) ?_); intro v2 w2 ho2 hg2 hn2; have HO2 := Lib.hid ho2; have HB2 := Lib.hid ((HB.out.alloc hsz (.cells #[.slice xA lit.length xc, .int .i64 xd, .int .i64 (xl)] 37)).trans (below_of_grown hg2 (by simp; omega) (fun k hk => (HO.out.lt k hk).1))); clear ho2 hg2 hn2))
          go_roundw
          case rel => exact ⟨k, N + 1, _, by omega, Lib.hid (by have := HNJ.out; omega), by go_num, Lib.hid (by rw [← HST.out, HBU.out]), HO2, HB2⟩
          case measure => simp [intOf]
        · clear hp
          go_wp2_with (at_builtin; go_loud ((refine pushT (wr.alloc (.cells #[.slice xA lit.length xc, .int .i64 xd, .int .i64 (xl)] 37)) rfl (.tmp 29) (.tmp 31) (by rfl) w.heap.size _ N ys (by rfl) (HO.out.alloc _) ⟨xA, xc, lit, xd, xl⟩ (wr.heap.size + 1) (by simp) (by rfl) (by omega) (by simp; omega) ?_); intro v2 w2 ho2 hg2 hn2; have HO2 := Lib.hid ho2; have HB2 := Lib.hid ((HB.out.alloc hsz (.cells #[.slice xA lit.length xc, .int .i64 xd, .int .i64 (xl)] 37)).trans (below_of_grown hg2 (by simp; omega) (fun k hk => (HO.out.lt k hk).1))); clear ho2 hg2 hn2))
          go_roundw
          case rel => exact ⟨k, N + 1, _, by omega, Lib.hid (by have := HNJ.out; omega), by go_num, Lib.hid (by rw [← HST.out, HBU.out]), HO2, HB2⟩
          case measure => simp [intOf]
end Go.Proofs.Ytmdpncjffikmiaa

/- chroniclelaw2: expandPlaced, writePlaced (printed by gen_sqtk.py). -/
namespace Go.Proofs.Ytmdpncjffikmiaa
open Go Go.RowKit
set_option linter.unusedVariables false
set_option linter.unusedSimpArgs false

theorem sp_exp_len (l : List Tk) : (exp [] l).1.length ≤ 140737488351232 := Nat.le_trans (exp_len l [] (by simp)) (by omega)
theorem flat_len : ∀ (l : List Tk), (∀ t ∈ l, Fine t) → (l.flatMap bt).length ≤ l.length * 4116
  | [], _ => by simp
  | t :: r, h => by
    have h1 := bt_len (h t (List.mem_cons_self ..))
    have h2 := flat_len r (fun t' ht' => h t' (List.mem_cons_of_mem _ ht'))
    simp only [List.flatMap_cons, List.length_append, List.length_cons]
    omega
theorem sp_wr_len (l : List Tk) : (wr l).1.length ≤ 140737488351232 := by
  unfold wr
  split
  · rename_i h
    have hl := exp_len l [] (by simp)
    have hf := fine_of_exp (ts := l) (text := []) (T := (exp [] l).1) (by rw [← h])
    have h1 := flat_len l hf.1
    have h2 := Uv.uv_len_64 (exp [] l).1.length (by omega)
    have h3 := hf.2
    unfold blk
    simp only [List.length_append, List.length_nil] at *
    omega
  · simp
theorem rd_kept {W W' : World} {A : Option Addr} {xs : List Value} {S : Nat → Prop} (h : Rd W A xs) (hk : KeptS W W' S) (hA : ∀ a, A = some a → ¬ S a.block) : Rd W' A xs := by
  intro hn
  obtain ⟨g, off, e, hg, hc⟩ := h hn
  have hb := hk.block g hg (hA _ e)
  refine ⟨g, off, e, Nat.lt_of_lt_of_le hg hk.size, fun k u hu => ?_⟩
  have h2 := hc k u hu
  have e2 : W'.cell? ⟨g, off + k, none⟩ = W.cell? ⟨g, off + k, none⟩ := by simp only [World.cell?, hb]
  exact e2.trans h2
/-- What was there before a row's own block changed. -/
theorem rd_beside {W W' : World} {A : Option Addr} {xs : List Value} {g B : Nat} (h : Rd W A xs) (hA : ∀ a, A = some a → a.block < B ∨ g < a.block) (hg : W.grownBy W' (some g)) (hB : B ≤ g) : Rd W' A xs :=
  h.grown hg (fun a ha e => by injection e with e; rcases hA a ha with h1 | h1 <;> omega)
theorem own_at {w : World} {base : Nat} {e : TypeId} {size n c : Nat} {A : Option Addr} {xs : List Value} (h : w.ownsRow base e size (.slice A n c) n xs) : ∀ a, A = some a → base ≤ a.block ∧ a.block < w.heap.size := by
  obtain ⟨A', c', hv, _, _, hb⟩ := own_shape h
  injection hv with h1
  subst h1
  exact hb

set_option maxHeartbeats 2000000 in
set_option maxRecDepth 100000 in
theorem expandPlaced_is (A : Option Addr) (n c : Nat) (l : List TkV) (w : World) (hr : Rd w A (tkCells l)) (hn : l.length = n) (ok : ∀ x ∈ l, x.Ok w) (hl : n * 40 ≤ 140737488351232) (hnc : n ≤ c) :
    Calls Try.prog 22 #[.slice A n c] w fun e w' => e = .returned (.bool true) ∧ Below w.heap.size w w' := by
  have HR := Lib.hid hr
  have HN := Lib.hid hn
  have OK := Lib.hid ok
  have hl2 : n ≤ 4000000000000 := by omega
  have i1 : (n : Int) ≤ (n : Int) + 1 := by omega
  have i2 : (0 : Int) ≤ (n : Int) := by omega
  have i3 : n ≤ n + 1 := by omega
  have P1 := Lib.hid (other_is A n c l w hr hn ok hl)
  obtain ⟨lo, hlo⟩ : ∃ lo, lo = oth l := ⟨_, rfl⟩
  have HOL : Hid (lo.length = n) := Lib.hid (by rw [hlo, oth_length, hn])
  have HOO : Hid (∀ x ∈ lo, x.Ok w) := Lib.hid (by rw [hlo]; exact oth_ok ok)
  rw [← hlo] at P1
  obtain ⟨q1, hq1⟩ : ∃ q, q = exp [] (toks lo) := ⟨_, rfl⟩
  obtain ⟨q2, hq2⟩ : ∃ q, q = exp [] (toks l) := ⟨_, rfl⟩
  have HQ1 := Lib.hid hq1
  have HQ2 := Lib.hid hq2
  have hL1 : q1.1.length ≤ 140737488351232 := by rw [hq1]; exact sp_exp_len _
  have hL2 : q2.1.length ≤ 140737488351232 := by rw [hq2]; exact sp_exp_len _
  clear hr hn ok hlo hq1 hq2
  go_enter Try.func22, Try.ntmps22
  go_wp2_with fail
  refine P1.out.mono ?_
  rintro e w1 ⟨A1, c1, rfl, ho1, hb1⟩
  have HR1 := Lib.hid (rd_own ho1)
  have HA1 := Lib.hid (own_at ho1)
  have HB1 := Lib.hid hb1
  have hs1 := hb1.size
  clear P1 ho1 hb1
  go_wp2_with fail
  refine (twins_is A1 n c1 lo w1 HR1.out HOL.out (fun x hx => (HOO.out x hx).below HB1.out) hl2).mono ?_
  rintro e w2 ⟨ms, rfl, ho2, hm2, ht2, hb2⟩
  have HO2 := Lib.hid ho2
  have HM := Lib.hid hm2
  have HT := Lib.hid ht2
  have HB2 := Lib.hid hb2
  have hs2 := hb2.size
  have hg2 : w1.heap.size < w2.heap.size := (ho2.lt _ rfl).2
  clear ho2 hm2 ht2 hb2
  go_wp2_with fail
  refine (expand_is (some ⟨w1.heap.size, 0, none⟩) n (n + 1) ms w2 (rd_tkpre (rd_own HO2.out)) HM.out (HT.out.ok (fun x hx => HOO.out x hx)) hl2).mono ?_
  rw [HT.out.toks HOL.out HM.out, ← HQ1.out]
  rintro e w3 ⟨A3, c3, rfl, ho3, hb3⟩
  have HR3 := Lib.hid (rd_own ho3)
  have HA3 := Lib.hid (own_at ho3)
  have HB3 := Lib.hid hb3
  have hs3 := hb3.size
  clear ho3 hb3
  go_wp2_with fail
  refine (twins_is A n c l w3 (HR.out.below (HB1.out.trans ((HB2.out.mono hs1).trans (HB3.out.mono (Nat.le_trans hs1 hs2))))) HN.out (fun x hx => (OK.out x hx).below (HB1.out.trans ((HB2.out.mono hs1).trans (HB3.out.mono (Nat.le_trans hs1 hs2))))) hl2).mono ?_
  rintro e w4 ⟨us, rfl, ho4, hm4, ht4, hb4⟩
  have HU := Lib.hid (rd_own ho4)
  have HUM := Lib.hid hm4
  have HUT := Lib.hid ht4
  have HB4 := Lib.hid hb4
  have HO4 := Lib.hid (own_below HO2.out (HB3.out.trans (hb4.mono hs3)))
  have hs4 := hb4.size
  have hg4 : w3.heap.size < w4.heap.size := (ho4.lt _ rfl).2
  clear ho4 hm4 ht4 hb4
  go_wp2_with fail
  go_loopw [8] (fun i wr => ∃ k : Nat, k ≤ n ∧ i = .int .i64 k ∧ Hid (wr.ownsRow w1.heap.size 37 3 (.slice (some ⟨w1.heap.size, 0, none⟩) (n + 1) (n + 1)) (n + 1) (tkCells (us.take k ++ (ms ++ [tkEnd]).drop k))) ∧ Hid (w4.grownBy wr (some w1.heap.size))) (fun i _ => n - (intOf i).toNat)
  case atStart => exact ⟨0, Nat.zero_le _, rfl, Lib.hid (by simpa using HO4.out), Lib.hid ⟨rfl, rfl, rfl, Nat.le_refl _, fun _ _ _ => rfl⟩⟩
  case round =>
    obtain ⟨k, hk, rfl, HO5, HG5⟩ := hrel
    have hs5 := HG5.out.size
    by_cases hlt : k < n
    · obtain ⟨y, hy⟩ : ∃ y, us[k]? = some y := ⟨_, List.getElem?_eq_getElem (by rw [HUM.out]; exact hlt)⟩
      have hlz : (ms ++ [tkEnd]).length = n + 1 := by rw [List.length_append, HM.out]; rfl
      obtain ⟨z, hz⟩ : ∃ z, (us.take k ++ (ms ++ [tkEnd]).drop k)[k]? = some z := ⟨_, List.getElem?_eq_getElem (by rw [List.length_append, List.length_take, List.length_drop, hlz, HUM.out]; omega)⟩
      obtain ⟨⟨z0, z1, z2⟩, f0, f1, f2⟩ := tok_row HO5.out hz
      have hs := tok_stored HO5.out (k := k) (by rw [List.length_append, List.length_take, List.length_drop, hlz, HUM.out]; omega) y
      rw [set_lay us (ms ++ [tkEnd]) k y hy (by rw [hlz]; omega)] at hs
      have HS := Lib.hid hs
      have hu := HU.out.grown HG5.out (fun a ha e => by injection ha with ha; subst ha; injection e with e; have e2 : w3.heap.size = w1.heap.size := e; omega)
      obtain ⟨g9, off9, he9, hg9, u0, u1, u2⟩ := (rd_tkpre hu).tok hy
      injection he9 with he9
      injection he9 with he1 he2
      subst he1 he2
      rw [Nat.zero_add] at u0 u1 u2
      have j0 : (0 : Int) ≤ (k : Int) := by omega
      have j1 : (k : Int) < (n : Int) := by omega
      have j2 : (k : Int) < (n : Int) + 1 := by omega
      obtain ⟨yA, yc, ylit, yd, yl⟩ := y
      simp only at u0 u1 u2 HS
      clear hs hu hz hy hlz
      go_wp2_with fail
      go_roundw
      case rel => exact ⟨k + 1, by omega, by go_num, Lib.hid HS.out.1, Lib.hid (grown_trans HG5.out HS.out.2)⟩
      case measure => simp [intOf]; omega
    · have hkn : k = n := by omega
      subst hkn
      have hlist : us.take k ++ (ms ++ [tkEnd]).drop k = us ++ [tkEnd] := by
        rw [List.take_of_length_le (by rw [HUM.out]; omega), List.drop_append_of_le_length (by rw [HM.out]; omega), List.drop_eq_nil_of_le (by rw [HM.out]; omega)]
        rfl
      have HO6 : Hid (wr.ownsRow w1.heap.size 37 3 (.slice (some ⟨w1.heap.size, 0, none⟩) (k + 1) (k + 1)) (k + 1) (tkCells (us ++ [tkEnd]))) := Lib.hid (by rw [← hlist]; exact HO5.out)
      have HUT5 := Lib.hid (HUT.out.grown HG5.out (by omega : w1.heap.size ≤ w3.heap.size))
      have HB15 := Lib.hid (((HB2.out.trans ((HB3.out.mono hs2).trans (HB4.out.mono (Nat.le_trans hs2 hs3)))).trans (below_of_grown HG5.out (by omega) (fun q hq => by injection hq with hq; omega)) : Below w1.heap.size w1 wr))
      have HB35 := Lib.hid (rd_beside (B := w1.heap.size) (HR3.out.below HB4.out) (fun a ha => .inr (by have := (HA3.out a ha).1; omega)) HG5.out (Nat.le_refl _))
      obtain ⟨w5, rfl⟩ : ∃ w5 : World, w5 = wr := ⟨_, rfl⟩
      clear hlist HO5 HO2 HO4
      go_wp2_with fail
      refine (expand_is (some ⟨w1.heap.size, 0, none⟩) k (k + 1) us w5 (rd_tkpre (rd_own HO6.out)) HUM.out (HUT5.out.ok (fun x hx => OK.out x hx)) hl2).mono ?_
      rw [HUT5.out.toks HN.out HUM.out, ← HQ2.out]
      rintro e w6 ⟨A6, c6, rfl, ho6, hb6⟩
      have HR6 := Lib.hid (rd_own ho6)
      have HB6 := Lib.hid hb6
      have hs6 := hb6.size
      have HB16 := Lib.hid (HB15.out.trans (hb6.mono (by omega)))
      have HR36 := Lib.hid (HB35.out.below hb6)
      clear ho6 hb6 HB15 HB35
      go_wp2_with fail
      refine (rexpand_is A1 k c1 lo w6 (HR1.out.below HB16.out) HOL.out (fun x hx => ((HOO.out x hx).below HB1.out).below HB16.out) hl2).mono ?_
      rw [← HQ1.out]
      rintro e w7 ⟨A7, c7, rfl, ho7, hb7⟩
      have HR7 := Lib.hid (rd_own ho7)
      have HB17 := Lib.hid (HB16.out.trans (hb7.mono (by omega)))
      have HR37 := Lib.hid (HR36.out.below hb7)
      have HR67 := Lib.hid (HR6.out.below hb7)
      have hs7 := hb7.size
      clear ho7 hb7 HB16 HR36 HR6
      go_wp2_with fail
      refine (rexpand_is A k c l w7 (HR.out.below (HB1.out.trans (HB17.out.mono hs1))) HN.out (fun x hx => (OK.out x hx).below (HB1.out.trans (HB17.out.mono hs1))) hl2).mono ?_
      rw [← HQ2.out]
      rintro e w8 ⟨A8, c8, rfl, ho8, hb8⟩
      have HR8 := Lib.hid (rd_own ho8)
      have HB18 := Lib.hid (HB17.out.trans (hb8.mono (by omega)))
      have HR38 := Lib.hid (HR37.out.below hb8)
      have HR68 := Lib.hid (HR67.out.below hb8)
      have HR78 := Lib.hid (HR7.out.below hb8)
      clear ho8 hb8 HB17 HR37 HR67 HR7
      go_wp2_with fail
      refine (lsame_yes A3 A7 q1.1.length q1.1.length c3 c7 q1.1 q1.1 w8 HR38.out HR78.out rfl rfl (by omega) (by omega) rfl).mono ?_
      rintro e w9 ⟨rfl, d9, rfl⟩
      go_wp2_with fail
      refine (lsame_yes A6 A8 q2.1.length q2.1.length c6 c8 q2.1 q2.1 _ (HR68.out.below (below_drewN (Below.refl _ _) _)) (HR8.out.below (below_drewN (Below.refl _ _) _)) rfl rfl (by omega) (by omega) rfl).mono ?_
      rintro e w10 ⟨rfl, d10, rfl⟩
      go_wp2_with fail
      go_ret
      exact ⟨rfl, below_drewN (HB1.out.trans (HB18.out.mono hs1)) _⟩

set_option maxHeartbeats 2000000 in
set_option maxRecDepth 100000 in
theorem writePlaced_is (A : Option Addr) (n c : Nat) (l : List TkV) (w : World) (hr : Rd w A (tkCells l)) (hn : l.length = n) (ok : ∀ x ∈ l, x.Ok w) (hl : n * 40 ≤ 140737488351232) (hnc : n ≤ c) :
    Calls Try.prog 25 #[.slice A n c] w fun e w' => e = .returned (.bool true) ∧ Below w.heap.size w w' := by
  have HR := Lib.hid hr
  have HN := Lib.hid hn
  have OK := Lib.hid ok
  have hl2 : n ≤ 4000000000000 := by omega
  have i1 : (n : Int) ≤ (n : Int) + 1 := by omega
  have i2 : (0 : Int) ≤ (n : Int) := by omega
  have i3 : n ≤ n + 1 := by omega
  have P1 := Lib.hid (other_is A n c l w hr hn ok hl)
  obtain ⟨lo, hlo⟩ : ∃ lo, lo = oth l := ⟨_, rfl⟩
  have HOL : Hid (lo.length = n) := Lib.hid (by rw [hlo, oth_length, hn])
  have HOO : Hid (∀ x ∈ lo, x.Ok w) := Lib.hid (by rw [hlo]; exact oth_ok ok)
  rw [← hlo] at P1
  obtain ⟨q1, hq1⟩ : ∃ q, q = wr (toks lo) := ⟨_, rfl⟩
  obtain ⟨q2, hq2⟩ : ∃ q, q = wr (toks l) := ⟨_, rfl⟩
  have HQ1 := Lib.hid hq1
  have HQ2 := Lib.hid hq2
  have hL1 : q1.1.length ≤ 140737488351232 := by rw [hq1]; exact sp_wr_len _
  have hL2 : q2.1.length ≤ 140737488351232 := by rw [hq2]; exact sp_wr_len _
  clear hr hn ok hlo hq1 hq2
  go_enter Try.func25, Try.ntmps25
  go_wp2_with fail
  refine P1.out.mono ?_
  rintro e w1 ⟨A1, c1, rfl, ho1, hb1⟩
  have HR1 := Lib.hid (rd_own ho1)
  have HA1 := Lib.hid (own_at ho1)
  have HB1 := Lib.hid hb1
  have hs1 := hb1.size
  clear P1 ho1 hb1
  go_wp2_with fail
  refine (twins_is A1 n c1 lo w1 HR1.out HOL.out (fun x hx => (HOO.out x hx).below HB1.out) hl2).mono ?_
  rintro e w2 ⟨ms, rfl, ho2, hm2, ht2, hb2⟩
  have HO2 := Lib.hid ho2
  have HM := Lib.hid hm2
  have HT := Lib.hid ht2
  have HB2 := Lib.hid hb2
  have hs2 := hb2.size
  have hg2 : w1.heap.size < w2.heap.size := (ho2.lt _ rfl).2
  clear ho2 hm2 ht2 hb2
  go_wp2_with fail
  refine (write_is (some ⟨w1.heap.size, 0, none⟩) n (n + 1) ms w2 (rd_tkpre (rd_own HO2.out)) HM.out (HT.out.ok (fun x hx => HOO.out x hx)) hl2).mono ?_
  rw [HT.out.toks HOL.out HM.out, ← HQ1.out]
  rintro e w3 ⟨A3, c3, rfl, ho3, hb3⟩
  have HR3 := Lib.hid (rd_own ho3)
  have HA3 := Lib.hid (own_at ho3)
  have HB3 := Lib.hid hb3
  have hs3 := hb3.size
  clear ho3 hb3
  go_wp2_with fail
  refine (twins_is A n c l w3 (HR.out.below (HB1.out.trans ((HB2.out.mono hs1).trans (HB3.out.mono (Nat.le_trans hs1 hs2))))) HN.out (fun x hx => (OK.out x hx).below (HB1.out.trans ((HB2.out.mono hs1).trans (HB3.out.mono (Nat.le_trans hs1 hs2))))) hl2).mono ?_
  rintro e w4 ⟨us, rfl, ho4, hm4, ht4, hb4⟩
  have HU := Lib.hid (rd_own ho4)
  have HUM := Lib.hid hm4
  have HUT := Lib.hid ht4
  have HB4 := Lib.hid hb4
  have HO4 := Lib.hid (own_below HO2.out (HB3.out.trans (hb4.mono hs3)))
  have hs4 := hb4.size
  have hg4 : w3.heap.size < w4.heap.size := (ho4.lt _ rfl).2
  clear ho4 hm4 ht4 hb4
  go_wp2_with fail
  go_loopw [8] (fun i wr => ∃ k : Nat, k ≤ n ∧ i = .int .i64 k ∧ Hid (wr.ownsRow w1.heap.size 37 3 (.slice (some ⟨w1.heap.size, 0, none⟩) (n + 1) (n + 1)) (n + 1) (tkCells (us.take k ++ (ms ++ [tkEnd]).drop k))) ∧ Hid (w4.grownBy wr (some w1.heap.size))) (fun i _ => n - (intOf i).toNat)
  case atStart => exact ⟨0, Nat.zero_le _, rfl, Lib.hid (by simpa using HO4.out), Lib.hid ⟨rfl, rfl, rfl, Nat.le_refl _, fun _ _ _ => rfl⟩⟩
  case round =>
    obtain ⟨k, hk, rfl, HO5, HG5⟩ := hrel
    have hs5 := HG5.out.size
    by_cases hlt : k < n
    · obtain ⟨y, hy⟩ : ∃ y, us[k]? = some y := ⟨_, List.getElem?_eq_getElem (by rw [HUM.out]; exact hlt)⟩
      have hlz : (ms ++ [tkEnd]).length = n + 1 := by rw [List.length_append, HM.out]; rfl
      obtain ⟨z, hz⟩ : ∃ z, (us.take k ++ (ms ++ [tkEnd]).drop k)[k]? = some z := ⟨_, List.getElem?_eq_getElem (by rw [List.length_append, List.length_take, List.length_drop, hlz, HUM.out]; omega)⟩
      obtain ⟨⟨z0, z1, z2⟩, f0, f1, f2⟩ := tok_row HO5.out hz
      have hs := tok_stored HO5.out (k := k) (by rw [List.length_append, List.length_take, List.length_drop, hlz, HUM.out]; omega) y
      rw [set_lay us (ms ++ [tkEnd]) k y hy (by rw [hlz]; omega)] at hs
      have HS := Lib.hid hs
      have hu := HU.out.grown HG5.out (fun a ha e => by injection ha with ha; subst ha; injection e with e; have e2 : w3.heap.size = w1.heap.size := e; omega)
      obtain ⟨g9, off9, he9, hg9, u0, u1, u2⟩ := (rd_tkpre hu).tok hy
      injection he9 with he9
      injection he9 with he1 he2
      subst he1 he2
      rw [Nat.zero_add] at u0 u1 u2
      have j0 : (0 : Int) ≤ (k : Int) := by omega
      have j1 : (k : Int) < (n : Int) := by omega
      have j2 : (k : Int) < (n : Int) + 1 := by omega
      obtain ⟨yA, yc, ylit, yd, yl⟩ := y
      simp only at u0 u1 u2 HS
      clear hs hu hz hy hlz
      go_wp2_with fail
      go_roundw
      case rel => exact ⟨k + 1, by omega, by go_num, Lib.hid HS.out.1, Lib.hid (grown_trans HG5.out HS.out.2)⟩
      case measure => simp [intOf]; omega
    · have hkn : k = n := by omega
      subst hkn
      have hlist : us.take k ++ (ms ++ [tkEnd]).drop k = us ++ [tkEnd] := by
        rw [List.take_of_length_le (by rw [HUM.out]; omega), List.drop_append_of_le_length (by rw [HM.out]; omega), List.drop_eq_nil_of_le (by rw [HM.out]; omega)]
        rfl
      have HO6 : Hid (wr.ownsRow w1.heap.size 37 3 (.slice (some ⟨w1.heap.size, 0, none⟩) (k + 1) (k + 1)) (k + 1) (tkCells (us ++ [tkEnd]))) := Lib.hid (by rw [← hlist]; exact HO5.out)
      have HUT5 := Lib.hid (HUT.out.grown HG5.out (by omega : w1.heap.size ≤ w3.heap.size))
      have HB15 := Lib.hid (((HB2.out.trans ((HB3.out.mono hs2).trans (HB4.out.mono (Nat.le_trans hs2 hs3)))).trans (below_of_grown HG5.out (by omega) (fun q hq => by injection hq with hq; omega)) : Below w1.heap.size w1 wr))
      have HB35 := Lib.hid (rd_beside (B := w1.heap.size) (HR3.out.below HB4.out) (fun a ha => .inr (by have := (HA3.out a ha).1; omega)) HG5.out (Nat.le_refl _))
      obtain ⟨w5, rfl⟩ : ∃ w5 : World, w5 = wr := ⟨_, rfl⟩
      clear hlist HO5 HO2 HO4
      go_wp2_with fail
      refine (write_is (some ⟨w1.heap.size, 0, none⟩) k (k + 1) us w5 (rd_tkpre (rd_own HO6.out)) HUM.out (HUT5.out.ok (fun x hx => OK.out x hx)) hl2).mono ?_
      rw [HUT5.out.toks HN.out HUM.out, ← HQ2.out]
      rintro e w6 ⟨A6, c6, rfl, ho6, hb6⟩
      have HR6 := Lib.hid (rd_own ho6)
      have HB6 := Lib.hid hb6
      have hs6 := hb6.size
      have HB16 := Lib.hid (HB15.out.trans (hb6.mono (by omega)))
      have HR36 := Lib.hid (HB35.out.below hb6)
      clear ho6 hb6 HB15 HB35
      go_wp2_with fail
      refine (rwrite_is A1 k c1 lo w6 (HR1.out.below HB16.out) HOL.out (fun x hx => ((HOO.out x hx).below HB1.out).below HB16.out) hl2).mono ?_
      rw [← HQ1.out]
      rintro e w7 ⟨A7, c7, rfl, ho7, hb7⟩
      have HR7 := Lib.hid (rd_own ho7)
      have HB17 := Lib.hid (HB16.out.trans (hb7.mono (by omega)))
      have HR37 := Lib.hid (HR36.out.below hb7)
      have HR67 := Lib.hid (HR6.out.below hb7)
      have hs7 := hb7.size
      clear ho7 hb7 HB16 HR36 HR6
      go_wp2_with fail
      refine (rwrite_is A k c l w7 (HR.out.below (HB1.out.trans (HB17.out.mono hs1))) HN.out (fun x hx => (OK.out x hx).below (HB1.out.trans (HB17.out.mono hs1))) hl2).mono ?_
      rw [← HQ2.out]
      rintro e w8 ⟨A8, c8, rfl, ho8, hb8⟩
      have HR8 := Lib.hid (rd_own ho8)
      have HB18 := Lib.hid (HB17.out.trans (hb8.mono (by omega)))
      have HR38 := Lib.hid (HR37.out.below hb8)
      have HR68 := Lib.hid (HR67.out.below hb8)
      have HR78 := Lib.hid (HR7.out.below hb8)
      clear ho8 hb8 HB17 HR37 HR67 HR7
      go_wp2_with fail
      refine (lsame_yes A3 A7 q1.1.length q1.1.length c3 c7 q1.1 q1.1 w8 HR38.out HR78.out rfl rfl (by omega) (by omega) rfl).mono ?_
      rintro e w9 ⟨rfl, d9, rfl⟩
      go_wp2_with fail
      refine (lsame_yes A6 A8 q2.1.length q2.1.length c6 c8 q2.1 q2.1 _ (HR68.out.below (below_drewN (Below.refl _ _) _)) (HR8.out.below (below_drewN (Below.refl _ _) _)) rfl rfl (by omega) (by omega) rfl).mono ?_
      rintro e w10 ⟨rfl, d10, rfl⟩
      go_wp2_with fail
      go_ret
      exact ⟨rfl, below_drewN (HB1.out.trans (HB18.out.mono hs1)) _⟩
end Go.Proofs.Ytmdpncjffikmiaa
