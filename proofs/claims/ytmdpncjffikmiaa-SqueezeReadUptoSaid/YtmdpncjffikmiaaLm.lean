/- chroniclelaw2: spare, kept, fill, turned, lay: what the statements do to memory. -/
import Derived.Test.YtmdpncjffikmiaaSame2
import Derived.Test.YtmdpncjffikmiaaStep
namespace Go.Proofs.Ytmdpncjffikmiaa
open Go Go.RowKit
set_option linter.unusedVariables false
set_option linter.unusedSimpArgs false

/-- The marks behind n bytes. -/
def pat (n : Nat) : List Nat := (List.range 64).map (fun j => 200 + (n + j) % 7)
theorem pat_length (n : Nat) : (pat n).length = 64 := by simp [pat]
theorem pat_get (n j : Nat) (h : j < 64) : (pat n)[j]? = some (200 + (n + j) % 7) := by simp [pat, h]
theorem pat_by (n : Nat) : By (pat n) := fun b hb => by
  obtain ⟨j, _, rfl⟩ := List.mem_map.1 hb
  omega

/-- One of a list's elements is laid over a list of the same length. -/
theorem set_lay {α : Type} (xs ys : List α) (k : Nat) (x : α) (hx : xs[k]? = some x) (hk : k < ys.length) : (xs.take k ++ ys.drop k).set k x = xs.take (k + 1) ++ ys.drop (k + 1) := by
  obtain ⟨h, rfl⟩ := List.getElem?_eq_some_iff.1 hx
  have hl : (xs.take k).length = k := by rw [List.length_take]; omega
  rw [List.set_append_right _ _ (by omega), hl, Nat.sub_self, List.drop_eq_getElem_cons hk, List.set_cons_zero, List.take_succ_eq_append_getElem h, List.append_assoc]
  rfl
theorem get_lay {α : Type} (xs ys : List α) (k : Nat) (hx : k ≤ xs.length) : (xs.take k ++ ys.drop k)[k]? = ys[k]? := by
  have hl : (xs.take k).length = k := by rw [List.length_take]; omega
  rw [List.getElem?_append_right (by omega), hl, Nat.sub_self, List.getElem?_drop, Nat.add_zero]

/-- One more byte laid into a row of the call's own. -/
theorem lay_one {base N c g k : Nat} {w : World} {xs ys : List Nat} (h : w.ownsRow base 5 1 (.slice (some ⟨g, 0, none⟩) N c) N (b8 (xs.take k ++ ys.drop k))) (hx : k < xs.length) (hy : k < ys.length) (hN : k < N) {x : Nat} (hxk : xs[k]? = some x) :
    (∃ y : Nat, w.cell? ⟨g, k, none⟩ = some (.int .u8 (y : Int))) ∧ w.frozen? ⟨g, k, none⟩ = false ∧
    (w.setCell ⟨g, k, none⟩ (.int .u8 (x : Int))).ownsRow base 5 1 (.slice (some ⟨g, 0, none⟩) N c) N (b8 (xs.take (k + 1) ++ ys.drop (k + 1))) ∧ w.grownBy (w.setCell ⟨g, k, none⟩ (.int .u8 (x : Int))) (some g) := by
  have hc := h.cellAt k (by omega)
  rw [b8_get, get_lay xs ys k (by omega), List.getElem?_eq_getElem hy] at hc
  have hf := h.frozenAt k
  have hst := h.stored k (.int .u8 (x : Int))
  rw [b8_set'', set_lay xs ys k x hxk hy] at hst
  exact ⟨⟨_, hc⟩, hf, hst.1, hst.2⟩

def Spared (w : World) (bs : List Nat) (n : Nat) (e : Ending) (w' : World) : Prop :=
  e = .returned (.slice (some ⟨w.heap.size, 0, none⟩) (n + 64) (n + 64)) ∧
    w'.ownsRow w.heap.size 5 1 (.slice (some ⟨w.heap.size, 0, none⟩) (n + 64) (n + 64)) (n + 64) (b8 (bs ++ pat n)) ∧ Below w.heap.size w w'

set_option maxHeartbeats 1000000 in
set_option maxRecDepth 100000 in
theorem spare_is (A : Option Addr) (n c : Nat) (bs : List Nat) (w : World) (hr : Rd w A (b8 bs)) (hn : bs.length = n) (hl : n ≤ 140737488351232) :
    Calls Try.prog 27 #[.slice A n c] w (Spared w bs n) := by
  obtain ⟨inf, hi, hz0, hz1, hz2⟩ := info_parts info8
  have HI := Lib.hid hi
  have HZ0 := Lib.hid hz0
  have HZ1 := Lib.hid hz1
  have HZ2 := Lib.hid hz2
  have HN := Lib.hid hn
  have HR := Lib.hid hr
  obtain ⟨xs, hxs⟩ : ∃ xs, xs = bs ++ pat n := ⟨_, rfl⟩
  have HX1 : Hid (∀ k, k < n → ∃ x, bs[k]? = some x ∧ xs[k]? = some x) := Lib.hid (fun k hk => by
    refine ⟨_, List.getElem?_eq_getElem (by omega), ?_⟩
    rw [hxs, List.getElem?_append_left (by omega), List.getElem?_eq_getElem])
  have HX2 : Hid (∀ j, j < 64 → xs[n + j]? = some (200 + (n + j) % 7)) := Lib.hid (fun j hj => by
    rw [hxs, List.getElem?_append_right (by omega), hn, Nat.add_sub_cancel_left, pat_get n j hj])
  have HXL : Hid (xs.length = n + 64) := Lib.hid (by rw [hxs, List.length_append, pat_length, hn])
  unfold Spared
  rw [← hxs]
  clear hi hz0 hz1 hz2 hn hr hxs
  obtain ⟨ys, hys⟩ : ∃ ys, ys = List.replicate (n + 64) 0 := ⟨_, rfl⟩
  have HYL : Hid (ys.length = n + 64) := Lib.hid (by rw [hys, List.length_replicate])
  have HYZ : Hid ((madeCells (Value.int .u8 0).cells ((n + 64) * 1)).toList = b8 (xs.take 0 ++ ys.drop 0)) := Lib.hid (by
    have := toList_madeCells_one (Value.int .u8 0) (n + 64)
    simp only [Nat.mul_one, List.take_zero, List.drop_zero, List.nil_append]
    refine this.trans ?_
    simp [b8, hys])
  clear hys
  go_enter Try.func27, Try.ntmps27
  go_wp2_with (at_make; refine wpList_make_full _ rfl (.tmp 8) (.tmp 8) 23 rfl w.heap.size 5 inf (.int .u8 0) 1 Try.underlying23 HI.out HZ0.out HZ1.out .i64 .i64 _ _ (n + 64) rfl rfl (by omega) (by omega) (by rw [HZ2.out]; omega) (by unfold maxLen; omega) (Nat.le_refl _) ?_; intro w1 hown1 hg1; have HO := Lib.hid (HYZ.out ▸ hown1); have HB := Lib.hid (below_of_grown hg1 (Nat.le_refl _) (fun k hk => by cases hk)); clear hown1 hg1)
  go_loopw [4] (fun i wr => ∃ k : Nat, k ≤ n ∧ i = .int .i64 k ∧ Hid (wr.ownsRow w.heap.size 5 1 (.slice (some ⟨w.heap.size, 0, none⟩) (n + 64) (n + 64)) (n + 64) (b8 (xs.take k ++ ys.drop k))) ∧ Hid (Below w.heap.size w wr)) (fun i _ => n - (intOf i).toNat)
  case atStart => exact ⟨0, Nat.zero_le _, rfl, HO, HB⟩
  case round =>
    clear HO HB
    obtain ⟨k, hk, rfl, HO, HB⟩ := hrel
    by_cases hlt : k < n
    · obtain ⟨x, hx, hxx⟩ := HX1.out k hlt
      obtain ⟨⟨y, hc1⟩, hf1, hs1, hg1⟩ := lay_one HO.out (by rw [HXL.out]; omega) (by rw [HYL.out]; omega) (by omega) hxx
      obtain ⟨g, off, rfl, hg, hc⟩ := HR.out.at_ hx
      have hc2 := (HB.out.cell (p := ⟨g, off + k, none⟩) hg).trans hc
      have HS := Lib.hid hs1
      have HG := Lib.hid (HB.out.trans (below_of_grown hg1 HB.out.size (fun q hq => by injection hq with hq; omega)))
      clear hs1 hg1 hc hx hxx HO HB
      go_wp2
      go_roundw
      case rel => exact ⟨k + 1, by omega, by go_num, HS, HG⟩
      case measure => simp [intOf]; omega
    · have hkn : k = n := by omega
      subst hkn
      obtain ⟨wo, rfl⟩ : ∃ wo : World, wo = wr := ⟨_, rfl⟩
      go_wp2
      go_loopw [5] (fun i wr => ∃ j : Nat, j ≤ 64 ∧ i = .int .i64 ((k + j : Nat) : Int) ∧ Hid (wr.ownsRow w.heap.size 5 1 (.slice (some ⟨w.heap.size, 0, none⟩) (k + 64) (k + 64)) (k + 64) (b8 (xs.take (k + j) ++ ys.drop (k + j)))) ∧ Hid (Below w.heap.size w wr)) (fun i _ => k + 64 - (intOf i).toNat)
      case atStart => exact ⟨0, Nat.zero_le _, rfl, HO, HB⟩
      case round =>
        clear HO HB
        obtain ⟨j, hj, rfl, HO, HB⟩ := hrel
        by_cases hlt : j < 64
        · have hxx := HX2.out j hlt
          obtain ⟨⟨y, hc1⟩, hf1, hs1, hg1⟩ := lay_one HO.out (by rw [HXL.out]; omega) (by rw [HYL.out]; omega) (by omega) hxx
          rw [show ((200 + (k + j) % 7 : Nat) : Int) = 200 + ((k : Int) + (j : Int)) % 7 by omega] at hs1 hg1
          have HS := Lib.hid hs1
          have HG := Lib.hid (HB.out.trans (below_of_grown hg1 HB.out.size (fun q hq => by injection hq with hq; omega)))
          clear hs1 hg1 hxx HO HB
          go_wp2
          go_roundw
          case rel => exact ⟨j + 1, by omega, by go_num, HS, HG⟩
          case measure => simp [intOf]; omega
        · have hj64 : j = 64 := by omega
          subst hj64
          have HF : Hid (wr.ownsRow w.heap.size 5 1 (.slice (some ⟨w.heap.size, 0, none⟩) (k + 64) (k + 64)) (k + 64) (b8 xs)) := Lib.hid (by
            have h := HO.out
            rw [List.take_of_length_le (by rw [HXL.out]; omega), List.drop_eq_nil_of_le (by rw [HYL.out]; omega), List.append_nil] at h
            exact h)
          clear HO
          go_wp2
          go_ret
          exact ⟨rfl, HF.out, HB.out⟩

/-- Bytes with marks behind, read: as they were. -/
def Marked (w : World) (A : Option Addr) (bs : List Nat) : Prop := Rd w A (b8 (bs ++ pat bs.length))

set_option maxHeartbeats 1000000 in
set_option maxRecDepth 100000 in
theorem kept_is (A B : Option Addr) (n m c d : Nat) (bs : List Nat) (w : World) (hr : Rd w A (b8 (bs ++ pat n))) (hb : Rd w B (b8 bs)) (hn : bs.length = n) (hm : m = n + 64) (hl : n ≤ 140737488351232) :
    Calls Try.prog 31 #[.slice A m c, .slice B n d] w fun e w' => Looks w w' e (.bool true) := by
  have HX1 : Hid (∀ k, k < n → ∃ x, bs[k]? = some x ∧ (bs ++ pat n)[k]? = some x) := Lib.hid (fun k hk => by
    refine ⟨_, List.getElem?_eq_getElem (by omega), ?_⟩
    rw [List.getElem?_append_left (by omega), List.getElem?_eq_getElem])
  have HX2 : Hid (∀ k, n ≤ k → k < n + 64 → (bs ++ pat n)[k]? = some (200 + k % 7)) := Lib.hid (fun k h0 hj => by
    rw [List.getElem?_append_right (by omega), hn, pat_get n (k - n) (by omega), show n + (k - n) = k by omega])
  have HR := Lib.hid hr
  have HB := Lib.hid hb
  have HN := Lib.hid hn
  have HM := Lib.hid hm
  have hm1 : m ≤ 140737488351232 + 64 := by omega
  clear hr hb hn hm
  go_enter Try.func31, Try.ntmps31
  go_wp2
  go_loopw [5] (fun i wr => ∃ k j : Nat, k ≤ m ∧ i = .int .i64 k ∧ wr = w.drewN j) (fun i _ => m - (intOf i).toNat)
  case atStart => exact ⟨0, 0, Nat.zero_le _, rfl, rfl⟩
  case round =>
    obtain ⟨k, j, hk, rfl, rfl⟩ := hrel
    by_cases hlt : k < m
    · by_cases hkn : k < n
      · obtain ⟨x, hx1, hx2⟩ := HX1.out k hkn
        obtain ⟨g, off, rfl, hg, hc⟩ := HR.out.at_ hx2
        obtain ⟨g', off', rfl, hg', hc'⟩ := HB.out.at_ hx1
        have i0 : (0 : Int) ≤ (k : Int) := by omega
        have i1 : (k : Int) < (m : Int) := by omega
        have i2 : (k : Int) < (n : Int) := by omega
        have d1 : decide ((k : Int) < (n : Int)) = true := decide_eq_true i2
        have d2 : decide ((n : Int) ≤ (k : Int)) = false := decide_eq_false (by omega)
        have d3 : ((x : Int) != (x : Int)) = false := by simp
        clear hx1 hx2
        go_wp2
        go_quiet (fail)
        go_wp2
        go_roundw
        case rel => exact ⟨k + 1, _, by omega, by go_num, rfl⟩
        case measure => simp [intOf]; omega
      · obtain ⟨z, hz⟩ : ∃ z, z = 200 + k % 7 := ⟨_, rfl⟩
        have hx2 := HX2.out k (by omega) (by rw [← HM.out]; exact hlt)
        rw [← hz] at hx2
        obtain ⟨g, off, rfl, hg, hc⟩ := HR.out.at_ hx2
        have i0 : (0 : Int) ≤ (k : Int) := by omega
        have i1 : (k : Int) < (m : Int) := by omega
        have d1 : decide ((k : Int) < (n : Int)) = false := decide_eq_false (by omega)
        have d2 : decide ((n : Int) ≤ (k : Int)) = true := decide_eq_true (by omega)
        have d3 : ((z : Int) != 200 + (k : Int) % 7) = false := by rw [bne_eq_false_iff_eq]; omega
        clear hx2 hz
        go_wp2
        go_quiet (fail)
        go_wp2
        go_roundw
        case rel => exact ⟨k + 1, _, by omega, by go_num, rfl⟩
        case measure => simp [intOf]; omega
    · go_wp2
      go_ret
      exact ⟨rfl, _, rfl⟩
theorem KeptS.heap {a b : World} {S : Nat → Prop} (h : KeptS a b S) : a.heap.size ≤ b.heap.size := h.size

set_option maxHeartbeats 1000000 in
set_option maxRecDepth 100000 in
theorem fill_is (base n : Nat) (v : Value) (xs : List Nat) (w : World) (h : w.ownsRow base 5 1 v n (b8 xs)) (hl : n ≤ 140737488351232) (hb : base ≤ w.heap.size) :
    Calls Try.prog 20 #[v, .int .u8 17] w fun e w' => e = .returned (.tuple #[]) ∧ KeptS w w' (fun q => v.ownBlock = some q) := by
  obtain ⟨A, c, rfl, hnc, hcm, hAb⟩ := own_shape h
  have hx := own8_n h
  have HX := Lib.hid hx
  have HH := Lib.hid h
  clear hx h
  go_enter Try.func20, Try.ntmps20
  go_wp2
  go_loopw [4] (fun i wr => ∃ (k : Nat) (zs : List Nat), k ≤ n ∧ i = .int .i64 k ∧ Hid (wr.ownsRow base 5 1 (.slice A n c) n (b8 zs)) ∧ Hid (KeptS w wr (fun q => (Value.slice A n c).ownBlock = some q))) (fun i _ => n - (intOf i).toNat)
  case atStart => exact ⟨0, xs, Nat.zero_le _, rfl, HH, Lib.hid (KeptS.refl _ _)⟩
  case round =>
    clear HH
    obtain ⟨k, zs, hk, rfl, HO, HK⟩ := hrel
    by_cases hlt : k < n
    · have hz := own8_n HO.out
      obtain ⟨g, off, rfl, hg, hcell⟩ := (rd_own HO.out).at_ (List.getElem?_eq_getElem (show k < zs.length by omega))
      have hoff : off = 0 := by
        rcases HO.out.2 with ⟨hv, _⟩ | ⟨g', cap, cur, hv, _⟩
        · simp at hv
        · simp at hv; exact hv.1.2
      subst hoff
      have hf := HO.out.frozenAt k
      have hst := HO.out.stored k (.int .u8 17)
      rw [show (b8 zs).set k (.int .u8 17) = b8 (zs.set k 17) from b8_set'' zs k 17] at hst
      rw [Nat.zero_add] at hcell
      obtain ⟨x, hx⟩ : ∃ x, x = zs[k] := ⟨_, rfl⟩
      rw [← hx] at hcell
      have HS := Lib.hid hst.1
      have HG := Lib.hid (HK.out.trans (KeptS.of_grown (S := fun q => some g = some q) hst.2 (fun q hq => hq)) (fun q hq => .inl hq))
      clear hst HO HK hx hz
      go_wp2
      go_roundw
      case rel => exact ⟨k + 1, _, by omega, by go_num, HS, HG⟩
      case measure => simp [intOf]; omega
    · clear hnc hcm hAb HX
      obtain ⟨wo, rfl⟩ : ∃ wo : World, wo = wr := ⟨_, rfl⟩
      go_wp2
      go_loopw [0, 5] (fun b i wr => ∃ (k : Nat) (zs : List Nat), k ≤ 64 ∧ i = .int .i64 k ∧ Hid (wr.ownsRow base 5 1 b (n + k) (b8 zs)) ∧ Hid (KeptS w wr (fun q => (Value.slice A n c).ownBlock = some q)) ∧ Hid (∀ q, b.ownBlock = some q → (Value.slice A n c).ownBlock = some q ∨ w.heap.size ≤ q)) (fun _ i _ => 64 - (intOf i).toNat)
      case atStart => exact ⟨0, zs, Nat.zero_le _, rfl, HO, HK, Lib.hid (fun q hq => .inl hq)⟩
      case round =>
        clear HO HK
        obtain ⟨j, ys, hj, rfl, HO, HK, HN⟩ := hrel
        have hsz := HK.out.size
        by_cases hlt : j < 64
        · go_wp2_with (at_builtin; (refine push8 wr rfl (.tmp 20) (.tmp 23) rfl base u0 (n + j) ys rfl HO.out _ 18 rfl rfl (by omega) (by omega) ?_); intro v' w1 hown1 hg1 hn1)
          have HK1 := Lib.hid (HK.out.trans (KeptS.of_grown (S := fun q => u0.ownBlock = some q) hg1 (fun q hq => hq)) (fun q hq => HN.out q hq))
          have HN1 : Hid (∀ q, v'.ownBlock = some q → (Value.slice A n c).ownBlock = some q ∨ w.heap.size ≤ q) := Lib.hid (fun q hq => by
            rcases hn1 with e | ⟨k, e, hk⟩
            · exact HN.out q (e.symm.trans hq)
            · rw [e] at hq; injection hq with hq; right; omega)
          have HO1 := Lib.hid hown1
          clear hg1 hown1 hn1 HO HK HN
          go_wp2
          go_roundw
          case rel => exact ⟨j + 1, _, by omega, by go_num, by rw [← Nat.add_assoc]; exact HO1, HK1, HN1⟩
          case measure => simp [intOf]; omega
        · obtain ⟨A', c', hv, _⟩ := own_shape HO.out
          have HV := Lib.hid hv
          clear HO HN hv
          go_wp2
          go_end0
          exact ⟨rfl, HK.out⟩

/-- Bytes the other way round, each another one. -/
def inc (b : Nat) : Nat := (b + 1) % 256
def tn (bs : List Nat) : List Nat := (bs.map inc).reverse
theorem tn_length (bs : List Nat) : (tn bs).length = bs.length := by simp [tn]
theorem tn_by (bs : List Nat) : By (tn bs) := fun b hb => by
  simp only [tn, List.mem_reverse, List.mem_map] at hb
  obtain ⟨c, _, rfl⟩ := hb
  unfold inc
  omega
theorem tn_drop {bs : List Nat} {j x : Nat} (h : bs[j]? = some x) : tn (bs.drop j) = tn (bs.drop (j + 1)) ++ [inc x] := by
  obtain ⟨hl, rfl⟩ := List.getElem?_eq_some_iff.1 h
  unfold tn
  rw [List.drop_eq_getElem_cons hl, List.map_cons, List.reverse_cons]

set_option maxHeartbeats 1000000 in
set_option maxRecDepth 100000 in
theorem turned_is (A : Option Addr) (n c : Nat) (bs : List Nat) (w : World) (hr : Rd w A (b8 bs)) (hn : bs.length = n) (hl : n ≤ 140737488351232) :
    Calls Try.prog 56 #[.slice A n c] w fun e w' => Got8 w w' e (tn bs) := by
  have HR := Lib.hid hr
  have HN := Lib.hid hn
  clear hr hn
  go_enter Try.func56, Try.ntmps56
  go_wp2
  go_loopw [3, 4] (fun v i wr => ∃ (j N : Nat) (ys : List Nat), j ≤ n ∧ N ≤ n - j ∧ i = .int .i64 ((j : Int) - 1) ∧ Hid (N = ys.length) ∧ Hid (ys = tn (bs.drop j)) ∧ Hid (wr.ownsRow w.heap.size 5 1 v N (b8 ys)) ∧ Hid (Below w.heap.size w wr)) (fun _ i _ => (intOf i + 1).toNat)
  case atStart => exact ⟨n, 0, [], Nat.le_refl _, Nat.zero_le _, rfl, Lib.hid rfl, Lib.hid (by rw [List.drop_eq_nil_of_le (by rw [HN.out]; omega)]; rfl), Lib.hid (World.ownsRow_nil _ _ _ _), Lib.hid (Below.refl _ _)⟩
  case round =>
    obtain ⟨j, N, ys, hj, hN, rfl, HNL, HY, HO, HB⟩ := hrel
    have hsz := HB.out.size
    by_cases h0 : j = 0
    · subst h0
      have HF : Hid (N = (tn bs).length ∧ b8 ys = b8 (tn bs)) := Lib.hid (by have h := HY.out; rw [List.drop_zero] at h; rw [← h]; exact ⟨HNL.out, rfl⟩)
      clear HY HNL
      go_wp2
      go_ret
      exact got8_mk HO.out HF.out.1 HF.out.2 HB.out
    · obtain ⟨k, rfl⟩ : ∃ k, j = k + 1 := ⟨j - 1, by omega⟩
      obtain ⟨x, hx⟩ : ∃ x, bs[k]? = some x := ⟨_, List.getElem?_eq_getElem (by rw [HN.out]; omega)⟩
      obtain ⟨g, off, rfl, hg, hc⟩ := HR.out.at_ hx
      have hc2 := (HB.out.cell (p := ⟨g, off + k, none⟩) hg).trans hc
      have HST : Hid (ys ++ [inc x] = tn (bs.drop k)) := Lib.hid (by rw [tn_drop hx, ← HY.out])
      have hki : (((k + 1 : Nat) : Int) - 1) = (k : Int) := by omega
      rw [hki]
      clear hx hc HY
      have hinc : ((x : Int) + 1) % 256 = ((inc x : Nat) : Int) := by unfold inc; omega
      go_wp2_with (at_builtin; go_loud ((refine push8 wr rfl (.tmp 12) (.tmp 18) rfl w.heap.size u3 N ys rfl HO.out _ (inc x) (by first | exact hinc | (unfold inc; omega)) rfl (by omega) (by omega) ?_); intro v' w1 hown1 hg1 hn1; have HO1 := Lib.hid hown1; have HB1 := Lib.hid (HB.out.trans (below_of_grown hg1 (by omega) (fun k hk => (HO.out.lt k hk).1))); clear hown1 hg1 hn1))
      go_roundw
      case rel => exact ⟨k, N + 1, _, by omega, by omega, by go_num, Lib.hid (by rw [HNL.out]; simp), HST, HO1, HB1⟩
      case measure => simp [intOf]

set_option maxHeartbeats 1000000 in
set_option maxRecDepth 100000 in
theorem lay_is (base g N C n m c d : Nat) (B : Option Addr) (xs ys : List Nat) (w : World) (h : w.ownsRow base 5 1 (.slice (some ⟨g, 0, none⟩) N C) N (b8 ys)) (hr : Rd w B (b8 xs)) (hB : xs ≠ [] → ∀ a, B = some a → a.block ≠ g) (hm : xs.length = m) (hmn : m ≤ n) (hnN : n ≤ N) (hl : n ≤ 140737488351232) :
    Calls Try.prog 57 #[.slice (some ⟨g, 0, none⟩) n c, .slice B m d] w fun e w' => e = .returned (.tuple #[]) ∧ w'.ownsRow base 5 1 (.slice (some ⟨g, 0, none⟩) N C) N (b8 (xs ++ ys.drop m)) ∧ w.grownBy w' (some g) := by
  have hyN := own8_n h
  have HM := Lib.hid hm
  have HYN := Lib.hid hyN
  have HR := Lib.hid hr
  have HBB := Lib.hid hB
  have HH : Hid (w.ownsRow base 5 1 (.slice (some ⟨g, 0, none⟩) N C) N (b8 (xs.take 0 ++ ys.drop 0))) := Lib.hid (by simpa using h)
  clear hyN hr hB h hm
  go_enter Try.func57, Try.ntmps57
  go_wp2
  go_loopw [4] (fun i wr => ∃ k : Nat, k ≤ m ∧ i = .int .i64 k ∧ Hid (wr.ownsRow base 5 1 (.slice (some ⟨g, 0, none⟩) N C) N (b8 (xs.take k ++ ys.drop k))) ∧ Hid (w.grownBy wr (some g))) (fun i _ => m - (intOf i).toNat)
  case atStart => exact ⟨0, Nat.zero_le _, rfl, HH, Lib.hid ⟨rfl, rfl, rfl, Nat.le_refl _, fun _ _ _ => rfl⟩⟩
  case round =>
    clear HH
    obtain ⟨k, hk, rfl, HO, HG⟩ := hrel
    by_cases hlt : k < m
    · obtain ⟨x, hx⟩ : ∃ x, xs[k]? = some x := ⟨_, List.getElem?_eq_getElem (by rw [HM.out]; exact hlt)⟩
      obtain ⟨⟨y, hc1⟩, hf1, hs1, hg1⟩ := lay_one HO.out (by rw [HM.out]; omega) (by rw [HYN.out]; omega) (by omega) hx
      obtain ⟨q, off, rfl, hq, hc⟩ := HR.out.at_ hx
      have hqg := HBB.out (by intro h; rw [h] at hx; cases hx) _ rfl
      simp only at hqg
      have hc2 : wr.cell? ⟨q, off + k, none⟩ = some (.int .u8 (x : Int)) := by
        have e := HG.out.block q hq (fun e => hqg (by injection e))
        have : wr.cell? ⟨q, off + k, none⟩ = w.cell? ⟨q, off + k, none⟩ := by simp only [World.cell?, e]
        exact this.trans hc
      have HS := Lib.hid hs1
      have HG1 := Lib.hid (grown_trans HG.out hg1)
      have i0 : (0 : Int) ≤ (k : Int) := by omega
      have i1 : (k : Int) < (m : Int) := by omega
      have i2 : (k : Int) < (n : Int) := by omega
      clear hs1 hg1 hc hx HO HG hqg
      go_wp2
      go_roundw
      case rel => exact ⟨k + 1, by omega, by go_num, HS, HG1⟩
      case measure => simp [intOf]; omega
    · have hkm : k = m := by omega
      subst hkm
      have HF : Hid (wr.ownsRow base 5 1 (.slice (some ⟨g, 0, none⟩) N C) N (b8 (xs ++ ys.drop k))) := Lib.hid (by
        have h := HO.out
        rw [List.take_of_length_le (by rw [HM.out]; omega)] at h
        exact h)
      clear HO
      go_wp2
      go_end0
      exact ⟨rfl, HF.out, HG.out⟩
end Go.Proofs.Ytmdpncjffikmiaa
