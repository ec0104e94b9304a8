/- octet.Patch: what it returns: the walk. -/
import Derived.Test.YtfgjlplfpjfnoaaPatch
import Derived.Test.YtfgjlplfpjfnoaaWalkOctetLinear
namespace Go.Proofs.Ytfgjlplfpjfnoaa
open Go Go.RowKit
set_option linter.unusedVariables false

def viTo (y0 k : Nat) : List Nat := (List.range k).map (Pat.vi y0) ++ List.replicate (8 - k) 0
theorem viTo_length (y0 k : Nat) (h : k ≤ 8) : (viTo y0 k).length = 8 := by simp [viTo]; omega
theorem viTo_get (y0 k : Nat) (h : k < 8) : (viTo y0 k)[k]? = some 0 := by
  unfold viTo
  rw [List.getElem?_append_right (by simp), List.getElem?_replicate, if_pos (by simp; omega)]
theorem viTo_set (y0 k : Nat) (h : k < 8) : (viTo y0 k).set k (Pat.vi y0 k) = viTo y0 (k + 1) := by
  unfold viTo
  rw [List.set_append_right _ _ (by simp)]
  obtain ⟨m, hm⟩ : ∃ m, 8 - k = m + 1 := ⟨7 - k, by omega⟩
  rw [hm, show 8 - (k + 1) = m from by omega, List.range_succ]
  simp [List.replicate_succ]
theorem viTo_at (y0 k : Nat) (h : k < 8) : (viTo y0 8)[k]? = some (Pat.vi y0 k) := by
  unfold viTo
  rw [List.getElem?_append_left (by simpa using h), List.getElem?_map, List.getElem?_range h]
  rfl

/-- Three blocks of the call's own: the entries found, the table, its way back. -/
structure PatS (w : World) (y0 k g7 : Nat) (W : World) : Prop where
  below : Below w.heap.size w W
  via : W.heap[w.heap.size]? = some (.cells (b8 (viTo y0 k)).toArray 96 (0, 0))
  tab : W.heap[g7]? = some (.cells tab.toArray 97 (0, 0))
  bk : W.heap[g7 + 1]? = some (.cells (b8 Pat.bk).toArray 99 (0, 0))
  far : w.heap.size < g7

theorem PatS.more {w : World} {y0 k g7 : Nat} {W W' : World} (h : PatS w y0 k g7 W) (hb : Below W.heap.size W W') : PatS w y0 k g7 W' := by
  have l1 := (Array.getElem?_eq_some_iff.1 h.via).1
  have l2 := (Array.getElem?_eq_some_iff.1 h.tab).1
  have l3 := (Array.getElem?_eq_some_iff.1 h.bk).1
  exact ⟨h.below.trans (hb.mono h.below.size), (hb.block _ l1).trans h.via, (hb.block _ l2).trans h.tab, (hb.block _ l3).trans h.bk, h.far⟩

theorem PatS.setFar {w : World} {y0 k g7 g q : Nat} {W : World} {x : Value} (h : PatS w y0 k g7 W) (hg : g7 + 1 < g) : PatS w y0 k g7 (W.setCell ⟨g, q, none⟩ x) := by
  have hf := h.far
  exact ⟨h.below.setCell (by simp only; omega) _, (heap_setCell_other W ⟨g, q, none⟩ w.heap.size _ (by simp only; omega)).trans h.via, (heap_setCell_other W ⟨g, q, none⟩ g7 _ (by simp only; omega)).trans h.tab, (heap_setCell_other W ⟨g, q, none⟩ (g7 + 1) _ (by simp only; omega)).trans h.bk, h.far⟩
theorem PatS.drew {w : World} {y0 k g7 : Nat} {W : World} (h : PatS w y0 k g7 W) : PatS w y0 k g7 W.drew := ⟨h.below.drew, h.via, h.tab, h.bk, h.far⟩

def nibTo0 (y u o : Nat) : Nat := o + (y % 16 ^^^ u)
def nibTo1 (y u o : Nat) : Nat := o + 16 * (y % 16 ^^^ u)
theorem nib_xor (y u : Nat) (hu : u < 16) : bits .xor .u8 ((y : Int) % 16) (u : Int) = ((y % 16 ^^^ u : Nat) : Int) := by
  rw [show (y : Int) % 16 = ((y % 16 : Nat) : Int) from by omega]
  exact u8_xor_nat (y % 16) u (by omega) (by omega)
theorem nib_val0 (y u o : Nat) (hu : u < 16) (ho : o = 0) : bits .or .u8 (o : Int) (bits .xor .u8 ((y : Int) % 16) (u : Int) % 256) = ((nibTo0 y u o : Nat) : Int) := by
  have hn : y % 16 ^^^ u < 16 := Crc.xor_lt (n := 4) (Nat.mod_lt _ (by omega)) hu
  rw [nib_xor y u hu, show (((y % 16 ^^^ u : Nat) : Int)) % 256 = ((y % 16 ^^^ u : Nat) : Int) from by omega, u8_or_nat o _ (by omega) (by omega), ho, nibTo0, Nat.zero_or, Nat.zero_add]
theorem nib_val1 (y u o : Nat) (hu : u < 16) (ho : o < 16) : bits .or .u8 (o : Int) (bits .xor .u8 ((y : Int) % 16) (u : Int) * 16 % 256) = ((nibTo1 y u o : Nat) : Int) := by
  have hn : y % 16 ^^^ u < 16 := Crc.xor_lt (n := 4) (Nat.mod_lt _ (by omega)) hu
  rw [nib_xor y u hu, nibTo1]
  generalize y % 16 ^^^ u = q at hn
  rw [show (q : Int) * 16 % 256 = ((16 * q : Nat) : Int) from by omega, u8_or_nat o _ (by omega) (by omega), Nat.or_comm, show 16 * q = 2 ^ 4 * q from rfl, ← Nat.two_pow_add_eq_or_of_lt (by omega : o < 2 ^ 4) q, Nat.add_comm]

theorem info8b : (Try.prog.info? 96).map (·.size) = some 8 := by kernel_rfl

set_option maxHeartbeats 1600000 in
set_option maxRecDepth 100000 in
theorem patch_any (A : Option Addr) (n c : Nat) (bs : List Nat) (want : Nat) (w : World) (hr : Rd w A (b8 bs)) (hby : By bs) (hn : bs.length = n) (hl : n ≤ 140737488355328) (hw : want < 4294967296) :
    Calls Try.prog 42 #[.slice A n c, .int .u32 (want : Int)] w fun e w' => Got8 w w' e (Pat.patch bs want) := by
  obtain ⟨y0, hy0⟩ : ∃ y0, y0 = want ^^^ Crc.ones := ⟨_, rfl⟩
  have hy32 : y0 < 4294967296 := by rw [hy0]; exact Crc.xor_lt (n := 32) hw Crc.ones_lt
  have hx : bits .xor .u32 IntKind.u32.max (want : Int) = (y0 : Int) := by rw [hy0]; exact xor_max want hw
  obtain ⟨s, hs⟩ : ∃ s, s = Crc.ext 0 bs := ⟨_, rfl⟩
  obtain ⟨r, hrr⟩ : ∃ r, r = s ^^^ Crc.ones := ⟨_, rfl⟩
  have hs32 : s < 4294967296 := by rw [hs]; exact Crc.ext_lt (by omega) hby
  have hr32 : r < 4294967296 := by rw [hrr]; exact Crc.xor_lt (n := 32) hs32 Crc.ones_lt
  have hsx : bits .xor .u32 IntKind.u32.max (s : Int) = (r : Int) := by rw [hrr]; exact xor_max s hs32
  have HP := Lib.hid (show Pat.patch bs want = Pat.rowTo y0 r 8 by rw [hy0, hrr, hs]; rfl)
  have HS := Lib.hid hs
  clear hy0 hs hrr
  go_enter Try.func42, Try.ntmps42
  go_wp2_with fail
  obtain ⟨W1, hW1⟩ : ∃ W1 : World, W1 = w.alloc (.cells #[.int .u8 0, .int .u8 0, .int .u8 0, .int .u8 0, .int .u8 0, .int .u8 0, .int .u8 0, .int .u8 0] 96) := ⟨_, rfl⟩
  have hv1 : W1.heap[w.heap.size]? = some (.cells (b8 (viTo y0 0)).toArray 96 (0, 0)) := by rw [hW1]; exact heap_alloc_new w _
  have hb1 : Below w.heap.size w W1 := by rw [hW1]; exact (Below.refl _ _).alloc (Nat.le_refl _) _
  rw [← hW1]
  have l1 := (Array.getElem?_eq_some_iff.1 hv1).1
  clear hW1
  refine (sums_any W1).mono ?_
  rintro e w2 ⟨rfl, hb2⟩
  have hv2 := (hb2.block _ l1).trans hv1
  have hb2' := hb1.trans (hb2.mono hb1.size)
  have l2 := (Array.getElem?_eq_some_iff.1 hv2).1
  clear hv1 hb2 l1 hb1
  go_wp2_with fail
  refine (backs_any w2).mono ?_
  rintro e w3 ⟨rfl, hb3⟩
  have hv3 := (hb3.block _ l2).trans hv2
  have hb3' := hb2'.trans (hb3.mono hb2'.size)
  have l3 := (Array.getElem?_eq_some_iff.1 hv3).1
  clear hv2 hb3 l2 hb2'
  obtain ⟨W4, hW4⟩ : ∃ W4 : World, W4 = (w3.alloc (.cells #[.int .u32 0, .int .u32 0, .int .u32 0, .int .u32 0, .int .u32 0, .int .u32 0, .int .u32 0, .int .u32 0, .int .u32 0, .int .u32 0, .int .u32 0, .int .u32 0, .int .u32 0, .int .u32 0, .int .u32 0, .int .u32 0] 97)).alloc (.cells #[.int .u8 0, .int .u8 0, .int .u8 0, .int .u8 0, .int .u8 0, .int .u8 0, .int .u8 0, .int .u8 0, .int .u8 0, .int .u8 0, .int .u8 0, .int .u8 0, .int .u8 0, .int .u8 0, .int .u8 0, .int .u8 0] 99) := ⟨_, rfl⟩
  have h7 : W4.heap[w3.heap.size]? = some (.cells #[.int .u32 0, .int .u32 0, .int .u32 0, .int .u32 0, .int .u32 0, .int .u32 0, .int .u32 0, .int .u32 0, .int .u32 0, .int .u32 0, .int .u32 0, .int .u32 0, .int .u32 0, .int .u32 0, .int .u32 0, .int .u32 0] 97 (0, 0)) := by rw [hW4]; exact heap_alloc2_old _ _ _
  have h8 : W4.heap[w3.heap.size + 1]? = some (.cells #[.int .u8 0, .int .u8 0, .int .u8 0, .int .u8 0, .int .u8 0, .int .u8 0, .int .u8 0, .int .u8 0, .int .u8 0, .int .u8 0, .int .u8 0, .int .u8 0, .int .u8 0, .int .u8 0, .int .u8 0, .int .u8 0] 99 (0, 0)) := by rw [hW4]; exact heap_alloc2_new _ _ _
  have hb4 : Below w3.heap.size w3 W4 := by rw [hW4]; exact ((Below.refl _ _).alloc (Nat.le_refl _) _).alloc (by simp) _
  go_wp2_with (first
    | ((try rw [← hW4]); refine wpList_store_row rfl 97 (.tmp 7) (.tmp 15) rfl w3.heap.size tab.toArray rfl rfl _ _ h7 (info16.trans (by rw [← tabTo_full]; simp [tabTo_length])) (by rw [← tabTo_full]; simp [tabTo_length]) (by rw [← tabTo_full]; exact tabTo_one 16) ?_)
    | (refine wpList_store_row rfl 99 (.tmp 8) (.tmp 16) rfl (w3.heap.size + 1) (b8 Pat.bk).toArray rfl rfl _ _ ((setRow_other _ _ _ _ (by omega)).trans h8) (info16b.trans (by simp [b8_length, Pat.bk, Pat.bkTo_length])) (by simp [b8_length, Pat.bk, Pat.bkTo_length]) (b8_one' Pat.bk) ?_))
  obtain ⟨W, hW⟩ : ∃ W : World, W = (W4.setRow w3.heap.size tab.toArray).setRow (w3.heap.size + 1) (b8 Pat.bk).toArray := ⟨_, rfl⟩
  have hS : PatS w y0 0 w3.heap.size W := by
    refine ⟨?_, ?_, ?_, ?_, l3⟩
    · rw [hW]
      refine (hb3'.trans (hb4.mono hb3'.size)).trans ⟨rfl, rfl, rfl, by simp, fun i hi => ?_⟩
      have := hb3'.size
      rw [setRow_other _ _ i _ (by omega), setRow_other _ _ i _ (by omega)]
    · rw [hW, setRow_other _ _ _ _ (by omega), setRow_other _ _ _ _ (by omega)]
      exact (hb4.block _ l3).trans hv3
    · rw [hW, setRow_other _ _ _ _ (by omega)]
      exact setRow_heap _ _ _ _ _ (0, 0) h7
    · rw [hW]
      exact setRow_heap _ _ _ _ _ (0, 0) ((setRow_other _ _ _ _ (by omega)).trans h8)
  rw [← hW4, ← hW]
  obtain ⟨g7, hg7⟩ : ∃ g7, g7 = w3.heap.size := ⟨_, rfl⟩
  rw [← hg7] at hS ⊢
  clear hW hW4 h7 h8 hb4 hb3' l3 hv3 hg7
  go_loopw [6, 17] (fun vy vi wr => ∃ i y : Nat, i ≤ 8 ∧ vi = .int .i64 i ∧ vy = .int .u32 y ∧ y < 4294967296 ∧ Hid (y = Pat.back y0 i) ∧ PatS w y0 i g7 wr) (fun _ i _ => 8 - (intOf i).toNat)
  case atStart => exact ⟨0, y0, by omega, rfl, rfl, hy32, rfl, hS⟩
  case round =>
    obtain ⟨i, y, hi, rfl, rfl, hy, HY, hS⟩ := hrel
    by_cases hlt : i < 8
    · obtain ⟨u, hu⟩ : ∃ u, u = Pat.vi y0 i := ⟨_, rfl⟩
      have hvy : Pat.via y = u := by rw [HY.out, hu]; rfl
      have hu16 : u < 16 := by rw [hu]; exact Pat.vi_lt hy32 i
      obtain ⟨h, hh⟩ : ∃ h, h = y / 268435456 := ⟨_, rfl⟩
      have h16 : h < 16 := by omega
      have hshr : (y : Int) / 268435456 = (h : Int) := by omega
      have hbk : Pat.bk[h]? = some u := by rw [hh, ← hvy]; exact Pat.via_get hy
      obtain ⟨t, ht⟩ : ∃ t, t = Crc.Mi 4 u := ⟨_, rfl⟩
      have ht32 : t < 4294967296 := by rw [ht]; exact Crc.Mi_lt 4 (by omega)
      obtain ⟨z, hz⟩ : ∃ z, z = y ^^^ t := ⟨_, rfl⟩
      have hz28 : z < 268435456 := by rw [hz, ht, ← hvy]; exact Pat.less_small hy
      have hzx : bits .xor .u32 (y : Int) (t : Int) = (z : Int) := by rw [hz]; exact u32_xor_nat y t hy ht32
      have hnext : z * 16 = Pat.back y0 (i + 1) := by rw [hz, ht, ← hvy, HY.out]; rfl
      have HN := Lib.hid hnext
      have c8 : wr.cell? ⟨g7 + 1, h, none⟩ = some (.int .u8 (u : Int)) := by
        rw [cell_of_row wr _ h _ _ _ hS.bk]
        simp [b8, hbk]
      have c5 : wr.cell? ⟨w.heap.size, i, none⟩ = some (.int .u8 0) := by
        rw [cell_of_row wr _ i _ _ _ hS.via]
        simp [b8, viTo_get y0 i hlt]
      have f5 : wr.frozen? ⟨w.heap.size, i, none⟩ = false := frozen_of_row wr _ i _ _ hS.via
      have c7 : wr.cell? ⟨g7, u, none⟩ = some (.int .u32 (t : Int)) := load_tab hS.tab (by rw [ht]; exact tab_get u hu16)
      have HS' := Lib.hid hS
      have HU := Lib.hid hu
      have hne := hS.far
      have hne2 : g7 ≠ w.heap.size := by omega
      have hne3 : g7 + 1 ≠ w.heap.size := by omega
      clear hvy hh hbk ht hz hnext HY hS hu
      have i0 : (0 : Int) ≤ (i : Int) := by omega
      have i1 : (i : Int) < 8 := by omega
      go_wp2_with fail
      go_roundw
      case rel =>
        refine ⟨i + 1, z * 16, by omega, by go_num, by go_num, by omega, HN, ?_⟩
        have hS := HS'.out
        refine ⟨hS.below.setCell (Nat.le_refl _) _, ?_, ?_, ?_, hS.far⟩
        · have := heap_setCell_same wr w.heap.size i _ _ (v8 u) hS.via
          rw [List.setIfInBounds_toArray, v8, b8_set'', HU.out, viTo_set y0 i hlt] at this
          rw [HU.out]
          exact this
        · exact (heap_setCell_other wr ⟨w.heap.size, i, none⟩ g7 _ (by simpa using hne2)).trans hS.tab
        · exact (heap_setCell_other wr ⟨w.heap.size, i, none⟩ (g7 + 1) _ (by simpa using hne3)).trans hS.bk
      case measure => simp [intOf]; omega
    · have hi8 : i = 8 := by omega
      subst hi8
      go_wp2_with fail
      refine (sum_is A n c bs wr s (hr.below hS.below) hby hn hl HS.out).mono ?_
      rintro e w5 ⟨rfl, hb5⟩
      have hS5 := hS.more hb5
      have hsz5 := hS5.below.size
      have l5 := (Array.getElem?_eq_some_iff.1 hS5.bk).1
      obtain ⟨inf, hi, hz0, hz1, hz2⟩ := info_parts info8m
      have HI := Lib.hid hi
      have HZ0 := Lib.hid hz0
      have HZ1 := Lib.hid hz1
      have HZ2 := Lib.hid hz2
      clear hi hz0 hz1 hz2 HY hb5 hS
      go_wp2_with (at_make; refine wpList_make_full _ rfl (.const (.int .i64 4)) (.const (.int .i64 4)) 22 rfl w.heap.size 5 inf (.int .u8 0) 1 Try.underlying22 HI.out HZ0.out HZ1.out .i64 .i64 _ _ 4 rfl rfl rfl rfl (by rw [HZ2.out]; omega) (by unfold maxLen; omega) hsz5 ?_; intro w6 hown6 hg6)
      have hS6 := hS5.more (below_of_grown hg6 (Nat.le_refl _) (fun k hk => by cases hk))
      have hown6' : w6.ownsRow w.heap.size 5 1 (.slice (some ⟨w5.heap.size, 0, none⟩) 4 4) 4 (b8 (Pat.rowTo y0 r 0)) := by
        have hz : (madeCells (Value.int .u8 0).cells (4 * 1)).toList = b8 (Pat.rowTo y0 r 0) := by
          refine (toList_madeCells_one (Value.int .u8 0) 4).trans ?_
          simp [b8, Pat.rowTo, Pat.byteTo, List.replicate]
        rw [← hz]
        exact hown6
      obtain ⟨g10, hg10⟩ : ∃ g, g = w5.heap.size := ⟨_, rfl⟩
      have hfar : g7 + 1 < g10 := by omega
      rw [← hg10] at hown6' ⊢
      clear hown6 hg6 hS5 hg10 l5 hsz5 HI HZ0 HZ1 HZ2
      go_loopw [6, 11] (fun vy vi wr => ∃ (d y : Nat) (j : Int), d ≤ 8 ∧ j = 7 - (d : Int) ∧ vi = .int .i64 j ∧ vy = .int .u32 y ∧ y < 4294967296 ∧ Hid (y = Pat.fwd y0 r d) ∧ PatS w y0 8 g7 wr ∧ Hid (wr.ownsRow w.heap.size 5 1 (.slice (some ⟨g10, 0, none⟩) 4 4) 4 (b8 (Pat.rowTo y0 r d)))) (fun _ i _ => (intOf i + 1).toNat)
      case atStart => exact ⟨0, r, 7, by omega, by omega, rfl, by first | rfl | rw [hsx], hr32, rfl, hS6, hown6'⟩
      case round =>
        obtain ⟨d, y, j, hd, hj, rfl, rfl, hy, HY, hS, H⟩ := hrel
        have hd9 : d = 0 ∨ d = 1 ∨ d = 2 ∨ d = 3 ∨ d = 4 ∨ d = 5 ∨ d = 6 ∨ d = 7 ∨ d = 8 := by omega
        rcases hd9 with rfl | rfl | rfl | rfl | rfl | rfl | rfl | rfl | rfl
        · obtain rfl : j = 7 := by omega
          obtain ⟨u, hu⟩ : ∃ u, u = Pat.vi y0 7 := ⟨_, rfl⟩
          have hu16 : u < 16 := by rw [hu]; exact Pat.vi_lt hy32 7
          obtain ⟨t, ht⟩ : ∃ t, t = Crc.Mi 4 u := ⟨_, rfl⟩
          have ht32 : t < 4294967296 := by rw [ht]; exact Crc.Mi_lt 4 (by omega)
          obtain ⟨o, ho⟩ : ∃ o, o = Pat.byteTo y0 r 0 0 := ⟨_, rfl⟩
          have ho0 : o = 0 := by rw [ho]; simp [Pat.byteTo]
          have c5 : wr.cell? ⟨w.heap.size, 7, none⟩ = some (.int .u8 (u : Int)) := by
            rw [cell_of_row wr _ 7 _ _ _ hS.via]
            simp [b8, viTo_at y0 7 (by omega), hu]
          have c7 : wr.cell? ⟨g7, u, none⟩ = some (.int .u32 (t : Int)) := load_tab hS.tab (by rw [ht]; exact tab_get u hu16)
          have cr : wr.cell? ⟨g10, 0, none⟩ = some (.int .u8 (o : Int)) := by
            rw [H.out.cellAt 0 (by omega), ho]
            rfl
          have fr : wr.frozen? ⟨g10, 0, none⟩ = false := H.out.frozenAt 0
          obtain ⟨z, hz⟩ : ∃ z, z = t ^^^ y / 16 := ⟨_, rfl⟩
          have hz32 : z < 4294967296 := by rw [hz]; exact Crc.xor_lt (n := 32) ht32 (by omega)
          have hzx : bits .xor .u32 (t : Int) ((y : Int) / 16) = (z : Int) := by rw [hz]; exact xor_shift4 t y ht32 hy
          have hn : y % 16 ^^^ u = Pat.nib y0 r 0 := by rw [HY.out, hu]; rfl
          have hnext : z = Pat.fwd y0 r 1 := by rw [hz, ht, hu, HY.out]; rfl
          have HN := Lib.hid hnext
          have hval := nib_val0 y u o hu16 ho0
          have hrow : (Pat.rowTo y0 r 0).set 0 (nibTo0 y u o) = Pat.rowTo y0 r 1 := by
            simp [nibTo0, hn, ho, Pat.rowTo, Pat.byteTo]
          have hst := H.out.stored 0 (.int .u8 ((nibTo0 y u o : Nat) : Int))
          rw [b8_set'', hrow, ← hval] at hst
          have HST := Lib.hid hst
          have hlow : w.heap.size < g10 := by have := hS.far; omega
          have HSS := Lib.hid hS
          clear hu ht ho hz hn hnext hval hrow hst HY hS ho0 hj
          go_wp2_with fail
          go_region
          go_wp2_with fail
          go_roundw
          case rel => exact ⟨1, z, 6, by omega, by go_num, rfl, rfl, hz32, HN, (HSS.out.setFar hfar).drew, HST.out.1.drew⟩
          case measure => simp [intOf]
        · obtain rfl : j = 6 := by omega
          obtain ⟨u, hu⟩ : ∃ u, u = Pat.vi y0 6 := ⟨_, rfl⟩
          have hu16 : u < 16 := by rw [hu]; exact Pat.vi_lt hy32 6
          obtain ⟨t, ht⟩ : ∃ t, t = Crc.Mi 4 u := ⟨_, rfl⟩
          have ht32 : t < 4294967296 := by rw [ht]; exact Crc.Mi_lt 4 (by omega)
          obtain ⟨o, ho⟩ : ∃ o, o = Pat.byteTo y0 r 1 0 := ⟨_, rfl⟩
          have ho0 : o < 16 := by rw [ho]; have := Pat.nib_lt (r := r) hy32 0; simpa [Pat.byteTo] using this
          have c5 : wr.cell? ⟨w.heap.size, 6, none⟩ = some (.int .u8 (u : Int)) := by
            rw [cell_of_row wr _ 6 _ _ _ hS.via]
            simp [b8, viTo_at y0 6 (by omega), hu]
          have c7 : wr.cell? ⟨g7, u, none⟩ = some (.int .u32 (t : Int)) := load_tab hS.tab (by rw [ht]; exact tab_get u hu16)
          have cr : wr.cell? ⟨g10, 0, none⟩ = some (.int .u8 (o : Int)) := by
            rw [H.out.cellAt 0 (by omega), ho]
            rfl
          have fr : wr.frozen? ⟨g10, 0, none⟩ = false := H.out.frozenAt 0
          obtain ⟨z, hz⟩ : ∃ z, z = t ^^^ y / 16 := ⟨_, rfl⟩
          have hz32 : z < 4294967296 := by rw [hz]; exact Crc.xor_lt (n := 32) ht32 (by omega)
          have hzx : bits .xor .u32 (t : Int) ((y : Int) / 16) = (z : Int) := by rw [hz]; exact xor_shift4 t y ht32 hy
          have hn : y % 16 ^^^ u = Pat.nib y0 r 1 := by rw [HY.out, hu]; rfl
          have hnext : z = Pat.fwd y0 r 2 := by rw [hz, ht, hu, HY.out]; rfl
          have HN := Lib.hid hnext
          have hval := nib_val1 y u o hu16 ho0
          have hrow : (Pat.rowTo y0 r 1).set 0 (nibTo1 y u o) = Pat.rowTo y0 r 2 := by
            simp [nibTo1, hn, ho, Pat.rowTo, Pat.byteTo]
          have hst := H.out.stored 0 (.int .u8 ((nibTo1 y u o : Nat) : Int))
          rw [b8_set'', hrow, ← hval] at hst
          have HST := Lib.hid hst
          have hlow : w.heap.size < g10 := by have := hS.far; omega
          have HSS := Lib.hid hS
          clear hu ht ho hz hn hnext hval hrow hst HY hS ho0 hj
          go_wp2_with fail
          go_region
          go_wp2_with fail
          go_roundw
          case rel => exact ⟨2, z, 5, by omega, by go_num, rfl, rfl, hz32, HN, (HSS.out.setFar hfar).drew, HST.out.1.drew⟩
          case measure => simp [intOf]
        · obtain rfl : j = 5 := by omega
          obtain ⟨u, hu⟩ : ∃ u, u = Pat.vi y0 5 := ⟨_, rfl⟩
          have hu16 : u < 16 := by rw [hu]; exact Pat.vi_lt hy32 5
          obtain ⟨t, ht⟩ : ∃ t, t = Crc.Mi 4 u := ⟨_, rfl⟩
          have ht32 : t < 4294967296 := by rw [ht]; exact Crc.Mi_lt 4 (by omega)
          obtain ⟨o, ho⟩ : ∃ o, o = Pat.byteTo y0 r 2 1 := ⟨_, rfl⟩
          have ho0 : o = 0 := by rw [ho]; simp [Pat.byteTo]
          have c5 : wr.cell? ⟨w.heap.size, 5, none⟩ = some (.int .u8 (u : Int)) := by
            rw [cell_of_row wr _ 5 _ _ _ hS.via]
            simp [b8, viTo_at y0 5 (by omega), hu]
          have c7 : wr.cell? ⟨g7, u, none⟩ = some (.int .u32 (t : Int)) := load_tab hS.tab (by rw [ht]; exact tab_get u hu16)
          have cr : wr.cell? ⟨g10, 1, none⟩ = some (.int .u8 (o : Int)) := by
            rw [H.out.cellAt 1 (by omega), ho]
            rfl
          have fr : wr.frozen? ⟨g10, 1, none⟩ = false := H.out.frozenAt 1
          obtain ⟨z, hz⟩ : ∃ z, z = t ^^^ y / 16 := ⟨_, rfl⟩
          have hz32 : z < 4294967296 := by rw [hz]; exact Crc.xor_lt (n := 32) ht32 (by omega)
          have hzx : bits .xor .u32 (t : Int) ((y : Int) / 16) = (z : Int) := by rw [hz]; exact xor_shift4 t y ht32 hy
          have hn : y % 16 ^^^ u = Pat.nib y0 r 2 := by rw [HY.out, hu]; rfl
          have hnext : z = Pat.fwd y0 r 3 := by rw [hz, ht, hu, HY.out]; rfl
          have HN := Lib.hid hnext
          have hval := nib_val0 y u o hu16 ho0
          have hrow : (Pat.rowTo y0 r 2).set 1 (nibTo0 y u o) = Pat.rowTo y0 r 3 := by
            simp [nibTo0, hn, ho, Pat.rowTo, Pat.byteTo]
          have hst := H.out.stored 1 (.int .u8 ((nibTo0 y u o : Nat) : Int))
          rw [b8_set'', hrow, ← hval] at hst
          have HST := Lib.hid hst
          have hlow : w.heap.size < g10 := by have := hS.far; omega
          have HSS := Lib.hid hS
          clear hu ht ho hz hn hnext hval hrow hst HY hS ho0 hj
          go_wp2_with fail
          go_region
          go_wp2_with fail
          go_roundw
          case rel => exact ⟨3, z, 4, by omega, by go_num, rfl, rfl, hz32, HN, (HSS.out.setFar hfar).drew, HST.out.1.drew⟩
          case measure => simp [intOf]
        · obtain rfl : j = 4 := by omega
          obtain ⟨u, hu⟩ : ∃ u, u = Pat.vi y0 4 := ⟨_, rfl⟩
          have hu16 : u < 16 := by rw [hu]; exact Pat.vi_lt hy32 4
          obtain ⟨t, ht⟩ : ∃ t, t = Crc.Mi 4 u := ⟨_, rfl⟩
          have ht32 : t < 4294967296 := by rw [ht]; exact Crc.Mi_lt 4 (by omega)
          obtain ⟨o, ho⟩ : ∃ o, o = Pat.byteTo y0 r 3 1 := ⟨_, rfl⟩
          have ho0 : o < 16 := by rw [ho]; have := Pat.nib_lt (r := r) hy32 2; simpa [Pat.byteTo] using this
          have c5 : wr.cell? ⟨w.heap.size, 4, none⟩ = some (.int .u8 (u : Int)) := by
            rw [cell_of_row wr _ 4 _ _ _ hS.via]
            simp [b8, viTo_at y0 4 (by omega), hu]
          have c7 : wr.cell? ⟨g7, u, none⟩ = some (.int .u32 (t : Int)) := load_tab hS.tab (by rw [ht]; exact tab_get u hu16)
          have cr : wr.cell? ⟨g10, 1, none⟩ = some (.int .u8 (o : Int)) := by
            rw [H.out.cellAt 1 (by omega), ho]
            rfl
          have fr : wr.frozen? ⟨g10, 1, none⟩ = false := H.out.frozenAt 1
          obtain ⟨z, hz⟩ : ∃ z, z = t ^^^ y / 16 := ⟨_, rfl⟩
          have hz32 : z < 4294967296 := by rw [hz]; exact Crc.xor_lt (n := 32) ht32 (by omega)
          have hzx : bits .xor .u32 (t : Int) ((y : Int) / 16) = (z : Int) := by rw [hz]; exact xor_shift4 t y ht32 hy
          have hn : y % 16 ^^^ u = Pat.nib y0 r 3 := by rw [HY.out, hu]; rfl
          have hnext : z = Pat.fwd y0 r 4 := by rw [hz, ht, hu, HY.out]; rfl
          have HN := Lib.hid hnext
          have hval := nib_val1 y u o hu16 ho0
          have hrow : (Pat.rowTo y0 r 3).set 1 (nibTo1 y u o) = Pat.rowTo y0 r 4 := by
            simp [nibTo1, hn, ho, Pat.rowTo, Pat.byteTo]
          have hst := H.out.stored 1 (.int .u8 ((nibTo1 y u o : Nat) : Int))
          rw [b8_set'', hrow, ← hval] at hst
          have HST := Lib.hid hst
          have hlow : w.heap.size < g10 := by have := hS.far; omega
          have HSS := Lib.hid hS
          clear hu ht ho hz hn hnext hval hrow hst HY hS ho0 hj
          go_wp2_with fail
          go_region
          go_wp2_with fail
          go_roundw
          case rel => exact ⟨4, z, 3, by omega, by go_num, rfl, rfl, hz32, HN, (HSS.out.setFar hfar).drew, HST.out.1.drew⟩
          case measure => simp [intOf]
        · obtain rfl : j = 3 := by omega
          obtain ⟨u, hu⟩ : ∃ u, u = Pat.vi y0 3 := ⟨_, rfl⟩
          have hu16 : u < 16 := by rw [hu]; exact Pat.vi_lt hy32 3
          obtain ⟨t, ht⟩ : ∃ t, t = Crc.Mi 4 u := ⟨_, rfl⟩
          have ht32 : t < 4294967296 := by rw [ht]; exact Crc.Mi_lt 4 (by omega)
          obtain ⟨o, ho⟩ : ∃ o, o = Pat.byteTo y0 r 4 2 := ⟨_, rfl⟩
          have ho0 : o = 0 := by rw [ho]; simp [Pat.byteTo]
          have c5 : wr.cell? ⟨w.heap.size, 3, none⟩ = some (.int .u8 (u : Int)) := by
            rw [cell_of_row wr _ 3 _ _ _ hS.via]
            simp [b8, viTo_at y0 3 (by omega), hu]
          have c7 : wr.cell? ⟨g7, u, none⟩ = some (.int .u32 (t : Int)) := load_tab hS.tab (by rw [ht]; exact tab_get u hu16)
          have cr : wr.cell? ⟨g10, 2, none⟩ = some (.int .u8 (o : Int)) := by
            rw [H.out.cellAt 2 (by omega), ho]
            rfl
          have fr : wr.frozen? ⟨g10, 2, none⟩ = false := H.out.frozenAt 2
          obtain ⟨z, hz⟩ : ∃ z, z = t ^^^ y / 16 := ⟨_, rfl⟩
          have hz32 : z < 4294967296 := by rw [hz]; exact Crc.xor_lt (n := 32) ht32 (by omega)
          have hzx : bits .xor .u32 (t : Int) ((y : Int) / 16) = (z : Int) := by rw [hz]; exact xor_shift4 t y ht32 hy
          have hn : y % 16 ^^^ u = Pat.nib y0 r 4 := by rw [HY.out, hu]; rfl
          have hnext : z = Pat.fwd y0 r 5 := by rw [hz, ht, hu, HY.out]; rfl
          have HN := Lib.hid hnext
          have hval := nib_val0 y u o hu16 ho0
          have hrow : (Pat.rowTo y0 r 4).set 2 (nibTo0 y u o) = Pat.rowTo y0 r 5 := by
            simp [nibTo0, hn, ho, Pat.rowTo, Pat.byteTo]
          have hst := H.out.stored 2 (.int .u8 ((nibTo0 y u o : Nat) : Int))
          rw [b8_set'', hrow, ← hval] at hst
          have HST := Lib.hid hst
          have hlow : w.heap.size < g10 := by have := hS.far; omega
          have HSS := Lib.hid hS
          clear hu ht ho hz hn hnext hval hrow hst HY hS ho0 hj
          go_wp2_with fail
          go_region
          go_wp2_with fail
          go_roundw
          case rel => exact ⟨5, z, 2, by omega, by go_num, rfl, rfl, hz32, HN, (HSS.out.setFar hfar).drew, HST.out.1.drew⟩
          case measure => simp [intOf]
        · obtain rfl : j = 2 := by omega
          obtain ⟨u, hu⟩ : ∃ u, u = Pat.vi y0 2 := ⟨_, rfl⟩
          have hu16 : u < 16 := by rw [hu]; exact Pat.vi_lt hy32 2
          obtain ⟨t, ht⟩ : ∃ t, t = Crc.Mi 4 u := ⟨_, rfl⟩
          have ht32 : t < 4294967296 := by rw [ht]; exact Crc.Mi_lt 4 (by omega)
          obtain ⟨o, ho⟩ : ∃ o, o = Pat.byteTo y0 r 5 2 := ⟨_, rfl⟩
          have ho0 : o < 16 := by rw [ho]; have := Pat.nib_lt (r := r) hy32 4; simpa [Pat.byteTo] using this
          have c5 : wr.cell? ⟨w.heap.size, 2, none⟩ = some (.int .u8 (u : Int)) := by
            rw [cell_of_row wr _ 2 _ _ _ hS.via]
            simp [b8, viTo_at y0 2 (by omega), hu]
          have c7 : wr.cell? ⟨g7, u, none⟩ = some (.int .u32 (t : Int)) := load_tab hS.tab (by rw [ht]; exact tab_get u hu16)
          have cr : wr.cell? ⟨g10, 2, none⟩ = some (.int .u8 (o : Int)) := by
            rw [H.out.cellAt 2 (by omega), ho]
            rfl
          have fr : wr.frozen? ⟨g10, 2, none⟩ = false := H.out.frozenAt 2
          obtain ⟨z, hz⟩ : ∃ z, z = t ^^^ y / 16 := ⟨_, rfl⟩
          have hz32 : z < 4294967296 := by rw [hz]; exact Crc.xor_lt (n := 32) ht32 (by omega)
          have hzx : bits .xor .u32 (t : Int) ((y : Int) / 16) = (z : Int) := by rw [hz]; exact xor_shift4 t y ht32 hy
          have hn : y % 16 ^^^ u = Pat.nib y0 r 5 := by rw [HY.out, hu]; rfl
          have hnext : z = Pat.fwd y0 r 6 := by rw [hz, ht, hu, HY.out]; rfl
          have HN := Lib.hid hnext
          have hval := nib_val1 y u o hu16 ho0
          have hrow : (Pat.rowTo y0 r 5).set 2 (nibTo1 y u o) = Pat.rowTo y0 r 6 := by
            simp [nibTo1, hn, ho, Pat.rowTo, Pat.byteTo]
          have hst := H.out.stored 2 (.int .u8 ((nibTo1 y u o : Nat) : Int))
          rw [b8_set'', hrow, ← hval] at hst
          have HST := Lib.hid hst
          have hlow : w.heap.size < g10 := by have := hS.far; omega
          have HSS := Lib.hid hS
          clear hu ht ho hz hn hnext hval hrow hst HY hS ho0 hj
          go_wp2_with fail
          go_region
          go_wp2_with fail
          go_roundw
          case rel => exact ⟨6, z, 1, by omega, by go_num, rfl, rfl, hz32, HN, (HSS.out.setFar hfar).drew, HST.out.1.drew⟩
          case measure => simp [intOf]
        · obtain rfl : j = 1 := by omega
          obtain ⟨u, hu⟩ : ∃ u, u = Pat.vi y0 1 := ⟨_, rfl⟩
          have hu16 : u < 16 := by rw [hu]; exact Pat.vi_lt hy32 1
          obtain ⟨t, ht⟩ : ∃ t, t = Crc.Mi 4 u := ⟨_, rfl⟩
          have ht32 : t < 4294967296 := by rw [ht]; exact Crc.Mi_lt 4 (by omega)
          obtain ⟨o, ho⟩ : ∃ o, o = Pat.byteTo y0 r 6 3 := ⟨_, rfl⟩
          have ho0 : o = 0 := by rw [ho]; simp [Pat.byteTo]
          have c5 : wr.cell? ⟨w.heap.size, 1, none⟩ = some (.int .u8 (u : Int)) := by
            rw [cell_of_row wr _ 1 _ _ _ hS.via]
            simp [b8, viTo_at y0 1 (by omega), hu]
          have c7 : wr.cell? ⟨g7, u, none⟩ = some (.int .u32 (t : Int)) := load_tab hS.tab (by rw [ht]; exact tab_get u hu16)
          have cr : wr.cell? ⟨g10, 3, none⟩ = some (.int .u8 (o : Int)) := by
            rw [H.out.cellAt 3 (by omega), ho]
            rfl
          have fr : wr.frozen? ⟨g10, 3, none⟩ = false := H.out.frozenAt 3
          obtain ⟨z, hz⟩ : ∃ z, z = t ^^^ y / 16 := ⟨_, rfl⟩
          have hz32 : z < 4294967296 := by rw [hz]; exact Crc.xor_lt (n := 32) ht32 (by omega)
          have hzx : bits .xor .u32 (t : Int) ((y : Int) / 16) = (z : Int) := by rw [hz]; exact xor_shift4 t y ht32 hy
          have hn : y % 16 ^^^ u = Pat.nib y0 r 6 := by rw [HY.out, hu]; rfl
          have hnext : z = Pat.fwd y0 r 7 := by rw [hz, ht, hu, HY.out]; rfl
          have HN := Lib.hid hnext
          have hval := nib_val0 y u o hu16 ho0
          have hrow : (Pat.rowTo y0 r 6).set 3 (nibTo0 y u o) = Pat.rowTo y0 r 7 := by
            simp [nibTo0, hn, ho, Pat.rowTo, Pat.byteTo]
          have hst := H.out.stored 3 (.int .u8 ((nibTo0 y u o : Nat) : Int))
          rw [b8_set'', hrow, ← hval] at hst
          have HST := Lib.hid hst
          have hlow : w.heap.size < g10 := by have := hS.far; omega
          have HSS := Lib.hid hS
          clear hu ht ho hz hn hnext hval hrow hst HY hS ho0 hj
          go_wp2_with fail
          go_region
          go_wp2_with fail
          go_roundw
          case rel => exact ⟨7, z, 0, by omega, by go_num, rfl, rfl, hz32, HN, (HSS.out.setFar hfar).drew, HST.out.1.drew⟩
          case measure => simp [intOf]
        · obtain rfl : j = 0 := by omega
          obtain ⟨u, hu⟩ : ∃ u, u = Pat.vi y0 0 := ⟨_, rfl⟩
          have hu16 : u < 16 := by rw [hu]; exact Pat.vi_lt hy32 0
          obtain ⟨t, ht⟩ : ∃ t, t = Crc.Mi 4 u := ⟨_, rfl⟩
          have ht32 : t < 4294967296 := by rw [ht]; exact Crc.Mi_lt 4 (by omega)
          obtain ⟨o, ho⟩ : ∃ o, o = Pat.byteTo y0 r 7 3 := ⟨_, rfl⟩
          have ho0 : o < 16 := by rw [ho]; have := Pat.nib_lt (r := r) hy32 6; simpa [Pat.byteTo] using this
          have c5 : wr.cell? ⟨w.heap.size, 0, none⟩ = some (.int .u8 (u : Int)) := by
            rw [cell_of_row wr _ 0 _ _ _ hS.via]
            simp [b8, viTo_at y0 0 (by omega), hu]
          have c7 : wr.cell? ⟨g7, u, none⟩ = some (.int .u32 (t : Int)) := load_tab hS.tab (by rw [ht]; exact tab_get u hu16)
          have cr : wr.cell? ⟨g10, 3, none⟩ = some (.int .u8 (o : Int)) := by
            rw [H.out.cellAt 3 (by omega), ho]
            rfl
          have fr : wr.frozen? ⟨g10, 3, none⟩ = false := H.out.frozenAt 3
          obtain ⟨z, hz⟩ : ∃ z, z = t ^^^ y / 16 := ⟨_, rfl⟩
          have hz32 : z < 4294967296 := by rw [hz]; exact Crc.xor_lt (n := 32) ht32 (by omega)
          have hzx : bits .xor .u32 (t : Int) ((y : Int) / 16) = (z : Int) := by rw [hz]; exact xor_shift4 t y ht32 hy
          have hn : y % 16 ^^^ u = Pat.nib y0 r 7 := by rw [HY.out, hu]; rfl
          have hnext : z = Pat.fwd y0 r 8 := by rw [hz, ht, hu, HY.out]; rfl
          have HN := Lib.hid hnext
          have hval := nib_val1 y u o hu16 ho0
          have hrow : (Pat.rowTo y0 r 7).set 3 (nibTo1 y u o) = Pat.rowTo y0 r 8 := by
            simp [nibTo1, hn, ho, Pat.rowTo, Pat.byteTo]
          have hst := H.out.stored 3 (.int .u8 ((nibTo1 y u o : Nat) : Int))
          rw [b8_set'', hrow, ← hval] at hst
          have HST := Lib.hid hst
          have hlow : w.heap.size < g10 := by have := hS.far; omega
          have HSS := Lib.hid hS
          clear hu ht ho hz hn hnext hval hrow hst HY hS ho0 hj
          go_wp2_with fail
          go_region
          go_wp2_with fail
          go_roundw
          case rel => exact ⟨8, z, -1, by omega, by go_num, rfl, rfl, hz32, HN, (HSS.out.setFar hfar).drew, HST.out.1.drew⟩
          case measure => simp [intOf]
        · obtain rfl : j = -1 := by omega
          go_wp2_with fail
          go_ret
          exact got8_mk H.out rfl (by rw [HP.out]) hS.below
end Go.Proofs.Ytfgjlplfpjfnoaa
