/- Pack: its rounds. (Printed by gen_pack.py.) -/
import Derived.Test.YtfgjlplfpjfnoaaItems
namespace Go.Proofs.Ytfgjlplfpjfnoaa
open Go Go.RowKit
set_option linter.unusedVariables false
set_option linter.unusedSimpArgs false

/-- What Pack answers. -/
def PackPost (w : World) (l : List Stp) (e : Ending) (w' : World) : Prop :=
  ∃ A c, e = .returned (.tuple #[.slice A (pk l).1.length c, .int .i64 (pk l).2]) ∧ w'.ownsRow w.heap.size 5 1 (.slice A (pk l).1.length c) (pk l).1.length (b8 (pk l).1) ∧ Below w.heap.size w w'

/-- An item in its block. -/
def BxI (W : World) (g : Nat) (x : Stp) : Prop := W.heap[g]? = some (.cells #[.int .i64 x.k, .int .u64 (x.n : Int), .string x.s] 68 (0, 0))
theorem BxI.facts {W : World} {g : Nat} {x : Stp} (h : BxI W g x) : W.cell? ⟨g, 0, none⟩ = some (.int .i64 x.k) ∧ W.cell? ⟨g, 1, none⟩ = some (.int .u64 (x.n : Int)) ∧ W.cell? ⟨g, 2, none⟩ = some (.string x.s) :=
  ⟨cell_of_row W g 0 _ _ _ h, cell_of_row W g 1 _ _ _ h, cell_of_row W g 2 _ _ _ h⟩
theorem BxI.new (w : World) (x : Stp) : BxI (w.alloc (.cells #[.int .i64 x.k, .int .u64 (x.n : Int), .string x.s] 68)) w.heap.size x := heap_alloc_new w _
theorem BxI.below {W W' : World} {g B : Nat} {x : Stp} (h : BxI W g x) (hb : Below B W W') (hg : g < B) : BxI W' g x := (hb.block g hg).trans h
theorem BxI.lt {W : World} {g : Nat} {x : Stp} (h : BxI W g x) : g < W.heap.size := lt_of_block h

theorem own_weak {w : World} {base base' : Nat} {e : TypeId} {size : Nat} {v : Value} {n : Nat} {xs : List Value} (h : w.ownsRow base e size v n xs) (hb : base' ≤ base) : w.ownsRow base' e size v n xs := by
  refine ⟨h.1, ?_⟩
  rcases h.2 with h | ⟨g, cap, cur, a, b, c⟩
  · exact .inl h
  · exact .inr ⟨g, cap, cur, a, Nat.le_trans hb b, c⟩
theorem fits_take {l : List Stp} {k : Nat} {x : Stp} (hx : l[k]? = some x) (h : (l.take k).all Stp.fits = true) (hf : x.fits = true) : (l.take (k + 1)).all Stp.fits = true := by
  obtain ⟨hk, rfl⟩ := List.getElem?_eq_some_iff.1 hx
  rw [List.take_succ_eq_append_getElem hk, List.all_append, h]
  simp [hf]
theorem pk_not {l : List Stp} {k : Nat} {x : Stp} (hx : l[k]? = some x) (hf : x.fits = false) : pk l = ([], 12) := by
  have : l.all Stp.fits = false := by
    rw [List.all_eq_false]
    exact ⟨x, List.mem_of_getElem? hx, by simp [hf]⟩
  simp [pk, this]
theorem pk_all {l : List Stp} (h : l.all Stp.fits = true) : pk l = (itemsOut l, 0) := by simp [pk, h]
theorem fits_kind {x : Stp} (h : x.fits = true) : x.k = 0 ∨ x.k = 1 ∨ x.k = 2 ∨ x.k = 3 ∨ x.k = 4 ∨ x.k = 5 := by
  unfold Stp.fits at h
  by_cases h0 : x.k = 0
  · exact .inl h0
  by_cases h3 : x.k = 3
  · simp [h3]
  by_cases h1 : x.k = 1
  · simp [h1]
  by_cases h2 : x.k = 2
  · simp [h2]
  by_cases h4 : x.k = 4
  · simp [h4]
  by_cases h5 : x.k = 5
  · simp [h5]
  simp [h0, h1, h2, h3, h4, h5] at h
theorem box_below (w wr W : World) (o : Obj) (h : Below w.heap.size w wr) (hb : Below (wr.alloc o).heap.size (wr.alloc o) W) : Below w.heap.size w W :=
  (h.alloc h.size o).trans (hb.mono (by have := h.size; simp; omega))
theorem wr_box {base g : Nat} {v : Value} {T : TypeId} {xs : List Nat} {wr W : World} {o : Obj} (h : Wr base wr T g v xs) (hb : Below (wr.alloc o).heap.size (wr.alloc o) W) : Wr base W T g v xs :=
  (h.below (below_box _ _)).below hb

set_option maxHeartbeats 1000000 in
set_option maxRecDepth 100000 in
theorem pack_is (A : Option Addr) (c n : Nat) (l : List Stp) (w : World) (hr : RdS w A l) (hn : l.length = n) (hc : n ≤ c) (hl : n * 32 ≤ 140737488351232) (ha : ∀ x ∈ l, x.Ok) (hs : stSum l ≤ 2147483647) :
    Calls Try.prog 46 #[.slice A n c] w (PackPost w l) := by
  have HN := Lib.hid hn
  have HR := Lib.hid hr
  have HA := Lib.hid ha
  have HS := Lib.hid hs
  have HW0 := Lib.hid (new_wr w.heap.size w (Nat.le_refl _))
  have HB0 := Lib.hid (below_box w (.cells #[.slice none 0 0] 50))
  clear hn hr ha hs
  go_enter Try.func46, Try.ntmps46
  go_wp2_with (go_at_call 37; refine (new_is _).mono ?_; rintro e w' ⟨rfl, rfl⟩)
  go_loopw [10] (fun i wr => ∃ (k : Nat) (v : Value), k ≤ n ∧ i = .int .i64 k ∧ Hid (Wr w.heap.size wr 50 w.heap.size v (itemsOut (l.take k))) ∧ Hid ((l.take k).all Stp.fits = true) ∧ Hid (Below w.heap.size w wr))
    (fun i _ => n - (intOf i).toNat)
  case atStart => exact ⟨0, _, Nat.zero_le _, rfl, by simpa [itemsOut] using HW0, Lib.hid (by simp), HB0⟩
  case round =>
    obtain ⟨k, v, hk, rfl, HW, HF, HB⟩ := hrel
    have hlw := HB.out.size
    by_cases hlt : k < n
    · obtain ⟨x, hx⟩ : ∃ x, l[k]? = some x := ⟨_, List.getElem?_eq_getElem (by rw [HN.out]; exact hlt)⟩
      obtain ⟨g, off, rfl, hg, hcell⟩ := HR.out (by rintro rfl; simp at hx)
      obtain ⟨d0, d1, d2⟩ := hcell k x hx
      have c0 := (HB.out.cell (p := ⟨g, off + k * 3, none⟩) hg).trans d0
      have c1 := (HB.out.cell (p := ⟨g, off + k * 3 + 1, none⟩) hg).trans d1
      have c2 := (HB.out.cell (p := ⟨g, off + k * 3 + 2, none⟩) hg).trans d2
      have hglt : g < wr.heap.size := Nat.lt_of_lt_of_le hg hlw
      have HX := Lib.hid (HA.out x (List.mem_of_getElem? hx))
      have HO := Lib.hid (itemsOut_take hx)
      have hlen : (itemsOut (l.take k)).length + 10 + x.s.size ≤ 140737488351232 := by
        have h1 := stSum_take hx
        have h2 := stSum_le l (k + 1)
        have h3 := itemsOut_len (l := l.take k) (fun y hy => HA.out y (List.mem_of_mem_take hy))
        have h4 := HS.out
        omega
      have HG := Lib.hid hx
      have PF := Lib.hid (fun W => fits_is x W)
      clear d0 d1 d2 hcell hx
      by_cases hfit : x.fits = true
      · have HK := Lib.hid (fits_take HG.out HF.out hfit)
        rw [hfit] at PF
        have hkind := fits_kind hfit
        clear hfit
        obtain ⟨xk, xn, xs⟩ := x
        simp only at hkind c0 c1 c2 PF hlen
        rcases hkind with rfl | rfl | rfl | rfl | rfl | rfl
        · have e1 := wrap_u8 xn
          go_wp2_with (first
            | (go_at_call 82; refine (PF.out _).mono ?_; rintro e wf ⟨rfl, hbf⟩; obtain ⟨e0, e1', e2⟩ := ((BxI.new wr ⟨0, xn, xs⟩).below hbf (by simp)).facts; have hgx := ((BxI.new wr ⟨0, xn, xs⟩).below hbf (by simp)).lt; simp only at e0 e1' e2; have HWF := Lib.hid (wr_box HW.out hbf); have HBF := Lib.hid (box_below _ _ _ _ HB.out hbf); clear hbf)
            | (go_at_call 62; refine (byte_is w.heap.size w.heap.size v (itemsOut (l.take k)) (xn % 256) _ HWF.out (by omega) HWF.out.hb).mono ?_; rintro e wy hw; obtain ⟨v2, rfl, hw2, hb2⟩ := hw.to HWF.out; have HWY := Lib.hid hw2; have HBY := Lib.hid (HBF.out.trans hb2); clear hw hw2 hb2))
          go_roundw
          case rel => exact ⟨k + 1, v2, by omega, by go_num, Lib.hid (by rw [HO.out]; simpa [Stp.bytes, List.append_assoc] using HWY.out), HK, HBY⟩
          case measure => simp [intOf]; omega
        · skip
          go_wp2_with (first
            | (go_at_call 82; refine (PF.out _).mono ?_; rintro e wf ⟨rfl, hbf⟩; obtain ⟨e0, e1', e2⟩ := ((BxI.new wr ⟨1, xn, xs⟩).below hbf (by simp)).facts; have hgx := ((BxI.new wr ⟨1, xn, xs⟩).below hbf (by simp)).lt; simp only at e0 e1' e2; have HWF := Lib.hid (wr_box HW.out hbf); have HBF := Lib.hid (box_below _ _ _ _ HB.out hbf); clear hbf)
            | (go_at_call 64; refine (uvarint_w w.heap.size w.heap.size v (itemsOut (l.take k)) xn _ HWF.out HX.out.2.1 (by omega) HWF.out.hb).mono ?_; rintro e wy hw; obtain ⟨v2, rfl, hw2, hb2⟩ := hw.to HWF.out; have HWY := Lib.hid hw2; have HBY := Lib.hid (HBF.out.trans hb2); clear hw hw2 hb2))
          go_roundw
          case rel => exact ⟨k + 1, v2, by omega, by go_num, Lib.hid (by rw [HO.out]; simpa [Stp.bytes, List.append_assoc] using HWY.out), HK, HBY⟩
          case measure => simp [intOf]; omega
        · skip
          go_wp2_with (first
            | (go_at_call 82; refine (PF.out _).mono ?_; rintro e wf ⟨rfl, hbf⟩; obtain ⟨e0, e1', e2⟩ := ((BxI.new wr ⟨2, xn, xs⟩).below hbf (by simp)).facts; have hgx := ((BxI.new wr ⟨2, xn, xs⟩).below hbf (by simp)).lt; simp only at e0 e1' e2; have HWF := Lib.hid (wr_box HW.out hbf); have HBF := Lib.hid (box_below _ _ _ _ HB.out hbf); clear hbf)
            | (go_at_call 64; refine (uvarint_w w.heap.size w.heap.size v (itemsOut (l.take k)) xn _ HWF.out HX.out.2.1 (by omega) HWF.out.hb).mono ?_; rintro e wy hw; obtain ⟨v2, rfl, hw2, hb2⟩ := hw.to HWF.out; have HWY := Lib.hid hw2; have HBY := Lib.hid (HBF.out.trans hb2); clear hw hw2 hb2))
          go_roundw
          case rel => exact ⟨k + 1, v2, by omega, by go_num, Lib.hid (by rw [HO.out]; simpa [Stp.bytes, List.append_assoc] using HWY.out), HK, HBY⟩
          case measure => simp [intOf]; omega
        · have e1 := wrap_u32 xn
          go_wp2_with (first
            | (go_at_call 82; refine (PF.out _).mono ?_; rintro e wf ⟨rfl, hbf⟩; obtain ⟨e0, e1', e2⟩ := ((BxI.new wr ⟨3, xn, xs⟩).below hbf (by simp)).facts; have hgx := ((BxI.new wr ⟨3, xn, xs⟩).below hbf (by simp)).lt; simp only at e0 e1' e2; have HWF := Lib.hid (wr_box HW.out hbf); have HBF := Lib.hid (box_below _ _ _ _ HB.out hbf); clear hbf)
            | (go_at_call 68; refine (u32_w w.heap.size w.heap.size v (itemsOut (l.take k)) (xn % 4294967296) _ HWF.out (by omega) (by omega) HWF.out.hb).mono ?_; rintro e wy hw; obtain ⟨v2, rfl, hw2, hb2⟩ := hw.to HWF.out; have HWY := Lib.hid hw2; have HBY := Lib.hid (HBF.out.trans hb2); clear hw hw2 hb2))
          go_roundw
          case rel => exact ⟨k + 1, v2, by omega, by go_num, Lib.hid (by rw [HO.out]; simpa [Stp.bytes, List.append_assoc] using HWY.out), HK, HBY⟩
          case measure => simp [intOf]; omega
        · skip
          go_wp2_with (first
            | (go_at_call 82; refine (PF.out _).mono ?_; rintro e wf ⟨rfl, hbf⟩; obtain ⟨e0, e1', e2⟩ := ((BxI.new wr ⟨4, xn, xs⟩).below hbf (by simp)).facts; have hgx := ((BxI.new wr ⟨4, xn, xs⟩).below hbf (by simp)).lt; simp only at e0 e1' e2; have HWF := Lib.hid (wr_box HW.out hbf); have HBF := Lib.hid (box_below _ _ _ _ HB.out hbf); clear hbf)
            | (go_at_call 70; refine (u64_w w.heap.size w.heap.size v (itemsOut (l.take k)) xn _ HWF.out HX.out.2.1 (by omega) HWF.out.hb).mono ?_; rintro e wy hw; obtain ⟨v2, rfl, hw2, hb2⟩ := hw.to HWF.out; have HWY := Lib.hid hw2; have HBY := Lib.hid (HBF.out.trans hb2); clear hw hw2 hb2))
          go_roundw
          case rel => exact ⟨k + 1, v2, by omega, by go_num, Lib.hid (by rw [HO.out]; simpa [Stp.bytes, List.append_assoc] using HWY.out), HK, HBY⟩
          case measure => simp [intOf]; omega
        · skip
          go_wp2_with (first
            | (go_at_call 82; refine (PF.out _).mono ?_; rintro e wf ⟨rfl, hbf⟩; obtain ⟨e0, e1', e2⟩ := ((BxI.new wr ⟨5, xn, xs⟩).below hbf (by simp)).facts; have hgx := ((BxI.new wr ⟨5, xn, xs⟩).below hbf (by simp)).lt; simp only at e0 e1' e2; have HWF := Lib.hid (wr_box HW.out hbf); have HBF := Lib.hid (box_below _ _ _ _ HB.out hbf); clear hbf)
            | (go_at_call 72; refine (text_w w.heap.size w.heap.size v (itemsOut (l.take k)) xs _ HWF.out (by omega) HWF.out.hb).mono ?_; rintro e wy hw; obtain ⟨v2, rfl, hw2, hb2⟩ := hw.to HWF.out; have HWY := Lib.hid hw2; have HBY := Lib.hid (HBF.out.trans hb2); clear hw hw2 hb2))
          go_roundw
          case rel => exact ⟨k + 1, v2, by omega, by go_num, Lib.hid (by rw [HO.out]; simpa [Stp.bytes, List.append_assoc] using HWY.out), HK, HBY⟩
          case measure => simp [intOf]; omega
      · have hff : x.fits = false := by simpa using hfit
        rw [hff] at PF
        have HP := Lib.hid (pk_not HG.out hff)
        clear hff hfit
        go_wp2_with (go_at_call 82; refine (PF.out _).mono ?_; rintro e wf ⟨rfl, hbf⟩; have HBF := Lib.hid (box_below _ _ _ _ HB.out hbf); clear hbf)
        go_ret2
        unfold PackPost
        rw [HP.out]
        exact ⟨none, 0, rfl, World.ownsRow_nil _ _ _ _, HBF.out⟩
    · have hkn : k = n := by omega
      subst hkn
      have hout : l.take k = l := List.take_of_length_le (by rw [HN.out]; omega)
      rw [hout] at HW HF
      have hlen : (itemsOut l).length ≤ 140737488351232 := by
        have h3 := itemsOut_len HA.out
        have h4 := HS.out
        omega
      have HP := Lib.hid (pk_all HF.out)
      clear hout
      go_wp2_with (go_at_call 40; refine (bytes_w w.heap.size w.heap.size v (itemsOut l) _ HW.out hlen).mono ?_; rintro e wb ⟨A3, c3, rfl, ho, hb⟩; have HO := Lib.hid ho; have HBB := Lib.hid (HB.out.trans (hb.mono hlw)); clear ho hb)
      go_ret2
      unfold PackPost
      rw [HP.out]
      exact ⟨A3, c3, rfl, own_weak HO.out hlw, HBB.out⟩
end Go.Proofs.Ytfgjlplfpjfnoaa
