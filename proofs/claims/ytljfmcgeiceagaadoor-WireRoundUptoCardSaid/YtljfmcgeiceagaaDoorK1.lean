/- Several texts in one: WiEnc, WiEnc2, WiDec1, WiDec2. -/
import Derived.Test.YtljfmcgeiceagaaDoorW1
import Derived.Test.YtljfmcgeiceagaaDoorX6
import Derived.Test.YtljfmcgeiceagaaDoorF5
import Derived.Test.YtljfmcgeiceagaaDoorX2
import Derived.Deep.RegionHeld3
import Derived.Deep.CutRange
import Derived.BigQuiet
/- wire.written at a response without lists (printed by gen_wienc.py). -/
namespace Go.Proofs.YtljfmcgeiceagaaDoor
open Go Go.RowKit
set_option linter.unusedVariables false
set_option linter.unusedSimpArgs false

/-- A response's box and the box of its records' bytes. -/
structure PB (W : World) (gr gl id op c : Nat) : Prop where
  lt1 : gr < W.heap.size
  lt2 : gl < W.heap.size
  c0 : W.cell? ⟨gr, 0, none⟩ = some (.int .u32 (id : Int))
  c1 : W.cell? ⟨gr, 1, none⟩ = some (.int .i64 (op : Int))
  c2 : W.cell? ⟨gr, 2, none⟩ = some (.int .i64 (c : Int))
  c3 : W.cell? ⟨gr, 3, none⟩ = some (.int .i64 0)
  c4 : W.cell? ⟨gr, 4, none⟩ = some (.int .i64 0)
  c5 : W.cell? ⟨gr, 5, none⟩ = some (.bool false)
  c6 : W.cell? ⟨gr, 6, none⟩ = some (.slice none 0 0)
  c7 : W.cell? ⟨gr, 7, none⟩ = some (.slice none 0 0)
  cl : W.cell? ⟨gl, 0, none⟩ = some (.slice none 0 0)
theorem PB.below {W W' : World} {gr gl id op c B : Nat} (h : PB W gr gl id op c) (hb : Below B W W') (h1 : gr < B) (h2 : gl < B) : PB W' gr gl id op c :=
  ⟨Nat.lt_of_lt_of_le h.lt1 hb.size, Nat.lt_of_lt_of_le h.lt2 hb.size, (hb.cell (p := ⟨gr, 0, none⟩) h1).trans h.c0, (hb.cell (p := ⟨gr, 1, none⟩) h1).trans h.c1, (hb.cell (p := ⟨gr, 2, none⟩) h1).trans h.c2, (hb.cell (p := ⟨gr, 3, none⟩) h1).trans h.c3, (hb.cell (p := ⟨gr, 4, none⟩) h1).trans h.c4, (hb.cell (p := ⟨gr, 5, none⟩) h1).trans h.c5, (hb.cell (p := ⟨gr, 6, none⟩) h1).trans h.c6, (hb.cell (p := ⟨gr, 7, none⟩) h1).trans h.c7, (hb.cell (p := ⟨gl, 0, none⟩) h2).trans h.cl⟩
set_option maxHeartbeats 4000000 in
set_option maxRecDepth 100000 in
theorem clos0_is (base g gr gl id op c : Nat) (w : World) (h : Wr base w 120 g (.slice none 0 0) []) (hb : base ≤ w.heap.size) (hp : PB w gr gl id op c) (h1 : gr < base) (h2 : gl < base) (hid : id < 128) (hop : op < 128) (hc : c < 128) :
    Calls Tryd.prog 84 #[.pointer (some ⟨g, 0, none⟩), .pointer (some ⟨gr, 0, none⟩), .pointer (some ⟨gl, 0, none⟩)] w fun e w' => e = .returned (.tuple #[]) ∧ (∃ v', Wr base w' 120 g v' [82, op, c, id, 0, 0, 0, 0, 0]) ∧ Below base w w' := by
  have V0 := Lib.hid h
  have D0 : Hid (Below base w w) := Lib.hid (Below.refl _ _)
  have HP := Lib.hid hp
  have HB := Lib.hid hb
  have hw1 : IntKind.u8.wrap (op : Int) = (op : Int) := by rw [IntKind.wrap_u8]; omega
  have hw2 : IntKind.u8.wrap (c : Int) = (c : Int) := by rw [IntKind.wrap_u8]; omega
  have hw3 : IntKind.u64.wrap (id : Int) = (id : Int) := by rw [IntKind.wrap_u64]; omega
  have hu : Hid (Uv.uv id = [id]) := Lib.hid (Uv.uv_small hid)
  have hz : Hid (Uv.uv 0 = [0]) := Lib.hid (Uv.uv_small (by omega))
  have i1 : (0 : Int) ≤ (op : Int) := by omega
  have i2 : (op : Int) < 128 := by omega
  have i3 : (0 : Int) ≤ (c : Int) := by omega
  have i4 : (c : Int) < 128 := by omega
  have i5 : (0 : Int) ≤ (id : Int) := by omega
  have i6 : (id : Int) < 128 := by omega
  clear h hb hp hid hop hc
  go_enter Tryd.func84, Tryd.ntmps84
  obtain ⟨x0, x1, x2, x3, x4, x5, x6, x7, xl⟩ : _ ∧ _ ∧ _ ∧ _ ∧ _ ∧ _ ∧ _ ∧ _ ∧ _ := (fun q : PB w gr gl id op c => ⟨q.c0, q.c1, q.c2, q.c3, q.c4, q.c5, q.c6, q.c7, q.cl⟩) (HP.out.below D0.out h1 h2)
  go_wp2_with fail
  refine (byte_is base g (.slice none 0 0) [] 82 w V0.out (by simp) (Nat.le_trans HB.out D0.out.size)).mono ?_
  intro e w1 hw
  obtain ⟨v1, rfl, h, b⟩ := hw.to' V0.out
  have V1 : Hid (Wr base w1 120 g v1 [82]) := Lib.hid (by first | exact h | (rw [hu.out] at h; exact h) | (rw [hz.out] at h; exact h) | (rw [show (Uv.zig 0).toNat = 0 from rfl, hz.out] at h; exact h))
  have D1 := Lib.hid (D0.out.trans b)
  clear hw h b x0 x1 x2 x3 x4 x5 x6 x7 xl
  obtain ⟨x0, x1, x2, x3, x4, x5, x6, x7, xl⟩ : _ ∧ _ ∧ _ ∧ _ ∧ _ ∧ _ ∧ _ ∧ _ ∧ _ := (fun q : PB w1 gr gl id op c => ⟨q.c0, q.c1, q.c2, q.c3, q.c4, q.c5, q.c6, q.c7, q.cl⟩) (HP.out.below D1.out h1 h2)
  go_wp2_with fail
  refine (byte_is base g v1 [82] op w1 V1.out (by simp) (Nat.le_trans HB.out D1.out.size)).mono ?_
  intro e w2 hw
  obtain ⟨v2, rfl, h, b⟩ := hw.to' V1.out
  have V2 : Hid (Wr base w2 120 g v2 [82, op]) := Lib.hid (by first | exact h | (rw [hu.out] at h; exact h) | (rw [hz.out] at h; exact h) | (rw [show (Uv.zig 0).toNat = 0 from rfl, hz.out] at h; exact h))
  have D2 := Lib.hid (D1.out.trans b)
  clear hw h b x0 x1 x2 x3 x4 x5 x6 x7 xl
  obtain ⟨x0, x1, x2, x3, x4, x5, x6, x7, xl⟩ : _ ∧ _ ∧ _ ∧ _ ∧ _ ∧ _ ∧ _ ∧ _ ∧ _ := (fun q : PB w2 gr gl id op c => ⟨q.c0, q.c1, q.c2, q.c3, q.c4, q.c5, q.c6, q.c7, q.cl⟩) (HP.out.below D2.out h1 h2)
  go_wp2_with fail
  refine (byte_is base g v2 [82, op] c w2 V2.out (by simp) (Nat.le_trans HB.out D2.out.size)).mono ?_
  intro e w3 hw
  obtain ⟨v3, rfl, h, b⟩ := hw.to' V2.out
  have V3 : Hid (Wr base w3 120 g v3 [82, op, c]) := Lib.hid (by first | exact h | (rw [hu.out] at h; exact h) | (rw [hz.out] at h; exact h) | (rw [show (Uv.zig 0).toNat = 0 from rfl, hz.out] at h; exact h))
  have D3 := Lib.hid (D2.out.trans b)
  clear hw h b x0 x1 x2 x3 x4 x5 x6 x7 xl
  obtain ⟨x0, x1, x2, x3, x4, x5, x6, x7, xl⟩ : _ ∧ _ ∧ _ ∧ _ ∧ _ ∧ _ ∧ _ ∧ _ ∧ _ := (fun q : PB w3 gr gl id op c => ⟨q.c0, q.c1, q.c2, q.c3, q.c4, q.c5, q.c6, q.c7, q.cl⟩) (HP.out.below D3.out h1 h2)
  go_wp2_with fail
  refine (uvarint_w base g v3 [82, op, c] id w3 V3.out (by omega) (by simp) (Nat.le_trans HB.out D3.out.size)).mono ?_
  intro e w4 hw
  obtain ⟨v4, rfl, h, b⟩ := hw.to' V3.out
  have V4 : Hid (Wr base w4 120 g v4 [82, op, c, id]) := Lib.hid (by first | exact h | (rw [hu.out] at h; exact h) | (rw [hz.out] at h; exact h) | (rw [show (Uv.zig 0).toNat = 0 from rfl, hz.out] at h; exact h))
  have D4 := Lib.hid (D3.out.trans b)
  clear hw h b x0 x1 x2 x3 x4 x5 x6 x7 xl
  obtain ⟨x0, x1, x2, x3, x4, x5, x6, x7, xl⟩ : _ ∧ _ ∧ _ ∧ _ ∧ _ ∧ _ ∧ _ ∧ _ ∧ _ := (fun q : PB w4 gr gl id op c => ⟨q.c0, q.c1, q.c2, q.c3, q.c4, q.c5, q.c6, q.c7, q.cl⟩) (HP.out.below D4.out h1 h2)
  go_wp2_with fail
  refine (varint_w base g v4 [82, op, c, id] 0 w4 V4.out (by omega) (by simp) (Nat.le_trans HB.out D4.out.size)).mono ?_
  intro e w5 hw
  obtain ⟨v5, rfl, h, b⟩ := hw.to' V4.out
  have V5 : Hid (Wr base w5 120 g v5 [82, op, c, id, 0]) := Lib.hid (by first | exact h | (rw [hu.out] at h; exact h) | (rw [hz.out] at h; exact h) | (rw [show (Uv.zig 0).toNat = 0 from rfl, hz.out] at h; exact h))
  have D5 := Lib.hid (D4.out.trans b)
  clear hw h b x0 x1 x2 x3 x4 x5 x6 x7 xl
  obtain ⟨x0, x1, x2, x3, x4, x5, x6, x7, xl⟩ : _ ∧ _ ∧ _ ∧ _ ∧ _ ∧ _ ∧ _ ∧ _ ∧ _ := (fun q : PB w5 gr gl id op c => ⟨q.c0, q.c1, q.c2, q.c3, q.c4, q.c5, q.c6, q.c7, q.cl⟩) (HP.out.below D5.out h1 h2)
  go_wp2_with fail
  refine (varint_w base g v5 [82, op, c, id, 0] 0 w5 V5.out (by omega) (by simp) (Nat.le_trans HB.out D5.out.size)).mono ?_
  intro e w6 hw
  obtain ⟨v6, rfl, h, b⟩ := hw.to' V5.out
  have V6 : Hid (Wr base w6 120 g v6 [82, op, c, id, 0, 0]) := Lib.hid (by first | exact h | (rw [hu.out] at h; exact h) | (rw [hz.out] at h; exact h) | (rw [show (Uv.zig 0).toNat = 0 from rfl, hz.out] at h; exact h))
  have D6 := Lib.hid (D5.out.trans b)
  clear hw h b x0 x1 x2 x3 x4 x5 x6 x7 xl
  obtain ⟨x0, x1, x2, x3, x4, x5, x6, x7, xl⟩ : _ ∧ _ ∧ _ ∧ _ ∧ _ ∧ _ ∧ _ ∧ _ ∧ _ := (fun q : PB w6 gr gl id op c => ⟨q.c0, q.c1, q.c2, q.c3, q.c4, q.c5, q.c6, q.c7, q.cl⟩) (HP.out.below D6.out h1 h2)
  go_wp2_with fail
  refine (byte_is base g v6 [82, op, c, id, 0, 0] 0 w6 V6.out (by simp) (Nat.le_trans HB.out D6.out.size)).mono ?_
  intro e w7 hw
  obtain ⟨v7, rfl, h, b⟩ := hw.to' V6.out
  have V7 : Hid (Wr base w7 120 g v7 [82, op, c, id, 0, 0, 0]) := Lib.hid (by first | exact h | (rw [hu.out] at h; exact h) | (rw [hz.out] at h; exact h) | (rw [show (Uv.zig 0).toNat = 0 from rfl, hz.out] at h; exact h))
  have D7 := Lib.hid (D6.out.trans b)
  clear hw h b x0 x1 x2 x3 x4 x5 x6 x7 xl
  obtain ⟨x0, x1, x2, x3, x4, x5, x6, x7, xl⟩ : _ ∧ _ ∧ _ ∧ _ ∧ _ ∧ _ ∧ _ ∧ _ ∧ _ := (fun q : PB w7 gr gl id op c => ⟨q.c0, q.c1, q.c2, q.c3, q.c4, q.c5, q.c6, q.c7, q.cl⟩) (HP.out.below D7.out h1 h2)
  go_wp2_with fail
  refine (uvarint_w base g v7 [82, op, c, id, 0, 0, 0] 0 w7 V7.out (by omega) (by simp) (Nat.le_trans HB.out D7.out.size)).mono ?_
  intro e w8 hw
  obtain ⟨v8, rfl, h, b⟩ := hw.to' V7.out
  have V8 : Hid (Wr base w8 120 g v8 [82, op, c, id, 0, 0, 0, 0]) := Lib.hid (by first | exact h | (rw [hu.out] at h; exact h) | (rw [hz.out] at h; exact h) | (rw [show (Uv.zig 0).toNat = 0 from rfl, hz.out] at h; exact h))
  have D8 := Lib.hid (D7.out.trans b)
  clear hw h b x0 x1 x2 x3 x4 x5 x6 x7 xl
  obtain ⟨x0, x1, x2, x3, x4, x5, x6, x7, xl⟩ : _ ∧ _ ∧ _ ∧ _ ∧ _ ∧ _ ∧ _ ∧ _ ∧ _ := (fun q : PB w8 gr gl id op c => ⟨q.c0, q.c1, q.c2, q.c3, q.c4, q.c5, q.c6, q.c7, q.cl⟩) (HP.out.below D8.out h1 h2)
  go_wp2_with fail
  go_loop [48] (fun i => i = .int .i64 0) (fun i => 0)
  case atStart => rfl
  case round =>
    subst hrel
    clear x0 x1 x2 x3 x4 x5 x6 x7 xl
    obtain ⟨x0, x1, x2, x3, x4, x5, x6, x7, xl⟩ : _ ∧ _ ∧ _ ∧ _ ∧ _ ∧ _ ∧ _ ∧ _ ∧ _ := (fun q : PB w8 gr gl id op c => ⟨q.c0, q.c1, q.c2, q.c3, q.c4, q.c5, q.c6, q.c7, q.cl⟩) (HP.out.below D8.out h1 h2)
    go_wp2_with fail
    refine (uvarint_w base g v8 [82, op, c, id, 0, 0, 0, 0] 0 w8 V8.out (by omega) (by simp) (Nat.le_trans HB.out D8.out.size)).mono ?_
    intro e w9 hw
    obtain ⟨v9, rfl, h, b⟩ := hw.to' V8.out
    have V9 : Hid (Wr base w9 120 g v9 [82, op, c, id, 0, 0, 0, 0, 0]) := Lib.hid (by first | exact h | (rw [hu.out] at h; exact h) | (rw [hz.out] at h; exact h) | (rw [show (Uv.zig 0).toNat = 0 from rfl, hz.out] at h; exact h))
    have D9 := Lib.hid (D8.out.trans b)
    clear hw h b x0 x1 x2 x3 x4 x5 x6 x7 xl
    obtain ⟨x0, x1, x2, x3, x4, x5, x6, x7, xl⟩ : _ ∧ _ ∧ _ ∧ _ ∧ _ ∧ _ ∧ _ ∧ _ ∧ _ := (fun q : PB w9 gr gl id op c => ⟨q.c0, q.c1, q.c2, q.c3, q.c4, q.c5, q.c6, q.c7, q.cl⟩) (HP.out.below D9.out h1 h2)
    go_wp2_with fail
    go_loop [63] (fun i => i = .int .i64 0) (fun i => 0)
    case atStart => rfl
    case round =>
      subst hrel
      clear x0 x1 x2 x3 x4 x5 x6 x7 xl
      go_wp2_with fail
      go_end0
      exact ⟨rfl, ⟨v9, V9.out⟩, D9.out⟩
end Go.Proofs.YtljfmcgeiceagaaDoor

/- wire.framed, written, EncodeResponse, CheckResponse at a response without lists. -/
namespace Go.Proofs.YtljfmcgeiceagaaDoor
open Go Go.RowKit
set_option linter.unusedVariables false
set_option linter.unusedSimpArgs false

def bts (id op c : Nat) : List Nat := [82, op, c, id, 0, 0, 0, 0, 0]
theorem bts_by {id op c : Nat} (h1 : id < 128) (h2 : op < 128) (h3 : c < 128) : By (bts id op c) := by
  intro b hb
  simp only [bts, List.mem_cons, List.not_mem_nil, or_false] at hb
  omega
theorem frm_bts (id op c : Nat) : frm (bts id op c) = (wrap 197 (bts id op c), 0) := by
  unfold frm
  rw [if_neg (by simp [bts]), if_neg (by simp [bts])]
def respV (id op c : Nat) : Value := .agg #[.int .u32 (id : Int), .int .i64 (op : Int), .int .i64 (c : Int), .int .i64 0, .int .i64 0, .bool false, .slice none 0 0, .slice none 0 0]
set_option maxHeartbeats 4000000 in
set_option maxRecDepth 100000 in
theorem framed0_is (gr gl id op c : Nat) (w : World) (hp : PB w gr gl id op c) (hid : id < 128) (hop : op < 128) (hc : c < 128) :
    Calls Tryd.prog 27 #[.func (.func 84) #[] #[.pointer (some ⟨gr, 0, none⟩), .pointer (some ⟨gl, 0, none⟩)]] w (FramePost w (wrap 197 (bts id op c), 0)) := by
  have HY := Lib.hid (bts_by hid hop hc)
  have HP := Lib.hid hp
  have hl1 := hp.lt1
  have hl2 := hp.lt2
  have PC := Lib.hid (fun g W (h : Wr w.heap.size W 120 g (.slice none 0 0) []) (hb : w.heap.size ≤ W.heap.size) (hq : PB W gr gl id op c) => clos0_is w.heap.size g gr gl id op c W h hb hq hl1 hl2 hid hop hc)
  clear hp hid hop hc
  go_enter Tryd.func27, Tryd.ntmps27
  go_wp2_with fail
  refine (new_is w).mono ?_
  rintro e w1 ⟨rfl, hw1⟩
  have V1 : Hid (Wr w.heap.size w1 120 w.heap.size (.slice none 0 0) []) := Lib.hid (by rw [hw1]; exact new_wr w.heap.size w (Nat.le_refl _))
  have B1 : Hid (Below w.heap.size w w1) := Lib.hid (by rw [hw1]; exact (Below.refl _ _).alloc (Nat.le_refl _) _)
  have HP1 := Lib.hid (HP.out.below B1.out hl1 hl2)
  clear hw1
  go_wp2_with fail
  refine (PC.out _ w1 V1.out B1.out.size HP1.out).mono ?_
  rintro e w2 ⟨rfl, ⟨v2, hv2⟩, hb2⟩
  have V2 := Lib.hid hv2
  have B2 := Lib.hid (B1.out.trans hb2)
  clear hv2 hb2 PC
  go_wp2_with fail
  refine (bytes_w w.heap.size w.heap.size v2 _ w2 V2.out (by simp)).mono ?_
  rintro e w3 ⟨A3, c3, rfl, ho3, hb3⟩
  have HO3 := Lib.hid ho3
  have B3 := Lib.hid (B2.out.trans (hb3.mono B2.out.size))
  clear ho3 hb3
  have PF := frame_is A3 9 c3 (bts id op c) w3 (rd_own HO3.out) rfl HY.out (by omega)
  rw [frm_bts] at PF
  have PFF := Lib.hid PF
  clear PF
  go_wp2_with fail
  refine PFF.out.mono ?_
  rintro e w4 ⟨A4, c4, rfl, ho4, hb4⟩
  have HO4 := Lib.hid ho4
  have B4 := Lib.hid (B3.out.trans (hb4.mono B3.out.size))
  have hs := B3.out.size
  clear ho4 hb4 PFF
  go_wp2_with fail
  go_ret2
  exact ⟨A4, c4, rfl, own_lower HO4.out hs, B4.out⟩
set_option maxRecDepth 100000 in
theorem isOp_yes (op : Nat) (w : World) (h1 : 1 ≤ op) (h2 : op < 16) : Calls Tryd.prog 41 #[.int .i64 (op : Int)] w fun e w' => e = .returned (.bool true) ∧ w = w' := by
  have i1 : (1 : Int) ≤ (op : Int) := by omega
  have i2 : (op : Int) < 16 := by omega
  have d1 : decide ((1 : Int) ≤ (op : Int)) = true := decide_eq_true i1
  have d2 : decide ((op : Int) < 16) = true := decide_eq_true i2
  clear h1 h2
  go_enter Tryd.func41, Tryd.ntmps41
  go_wp2
  go_ret
  exact ⟨rfl, rfl⟩
set_option maxHeartbeats 4000000 in
set_option maxRecDepth 100000 in
theorem written0_is (id op c : Nat) (w : World) (hid : id < 128) (hop1 : 1 ≤ op) (hop2 : op < 16) (hc : c ≤ 11) :
    Calls Tryd.prog 59 #[respV id op c] w (FramePost w (wrap 197 (bts id op c), 0)) := by
  have PI := Lib.hid (fun W => isOp_yes op W hop1 hop2)
  have PF := Lib.hid (fun gr gl W (hp : PB W gr gl id op c) => framed0_is gr gl id op c W hp hid (by omega) (by omega))
  unfold FramePost at PF ⊢
  have i1 : (0 : Int) ≤ (c : Int) := by omega
  have i2 : (c : Int) ≤ 11 := by omega
  have d1 : decide ((c : Int) < 0) = false := decide_eq_false (by omega)
  have d2 : decide ((11 : Int) < (c : Int)) = false := decide_eq_false (by omega)
  have hw3 : IntKind.u32.wrap (id : Int) = (id : Int) := by rw [IntKind.wrap_u32]; omega
  unfold respV
  clear hid hop1 hop2 hc
  go_enter Tryd.func59, Tryd.ntmps59
  go_wp2_with fail
  refine (PI.out _).mono ?_
  rintro e w1 ⟨rfl, rfl⟩
  go_wp2_with fail
  go_loop [39] (fun i => i = .int .i64 0) (fun i => 0)
  case atStart => rfl
  case round =>
    subst hrel
    go_wp2_with fail
    go_loop [50] (fun i => i = .int .i64 0) (fun i => 0)
    case atStart => rfl
    case round =>
      subst hrel
      go_wp2_with fail
      refine (PF.out _ _ _ ⟨by simp; omega, by simp, by simp, by simp, by simp, by simp, by simp, by simp, by simp, by simp, by simp⟩).mono ?_
      rintro e w2 ⟨A2, c2, rfl, ho2, hb2⟩
      have HO2 := Lib.hid (own_lower ho2 (show w.heap.size ≤ _ by simp; omega))
      have HB2 := Lib.hid ((((Below.refl w.heap.size w).alloc (Nat.le_refl _) _).alloc (by simp) _).trans (hb2.mono (by simp; omega)))
      clear ho2 hb2
      go_wp2_with fail
      go_ret2
      exact ⟨A2, c2, rfl, HO2.out, HB2.out⟩
set_option maxRecDepth 100000 in
theorem encode0_is (id op c : Nat) (w : World) (hid : id < 128) (hop1 : 1 ≤ op) (hop2 : op < 16) (hc : c ≤ 11) :
    Calls Tryd.prog 21 #[respV id op c] w (FramePost w (wrap 197 (bts id op c), 0)) := by
  have PW := Lib.hid (fun W => written0_is id op c W hid hop1 hop2 hc)
  unfold FramePost at PW ⊢
  unfold respV at PW ⊢
  clear hid hop1 hop2 hc
  go_enter Tryd.func21, Tryd.ntmps21
  go_wp2_with fail
  refine (PW.out _).mono ?_
  rintro e w2 ⟨A2, c2, rfl, ho2, hb2⟩
  have HO2 := Lib.hid (own_lower ho2 (show w.heap.size ≤ _ by simp))
  have HB2 := Lib.hid (((Below.refl w.heap.size w).alloc (Nat.le_refl _) _).trans (hb2.mono (by simp)))
  clear ho2 hb2
  go_wp2_with fail
  go_ret2
  exact ⟨A2, c2, rfl, HO2.out, HB2.out⟩
set_option maxRecDepth 100000 in
theorem checkr0_is (id op c : Nat) (w : World) (hid : id < 128) (hop1 : 1 ≤ op) (hop2 : op < 16) (hc : c ≤ 11) :
    Calls Tryd.prog 26 #[respV id op c] w fun e w' => e = .returned (.int .i64 0) ∧ Below w.heap.size w w' := by
  have PW := Lib.hid (fun W => written0_is id op c W hid hop1 hop2 hc)
  unfold FramePost at PW
  unfold respV at PW ⊢
  clear hid hop1 hop2 hc
  go_enter Tryd.func26, Tryd.ntmps26
  go_wp2_with fail
  refine (PW.out _).mono ?_
  rintro e w2 ⟨A2, c2, rfl, ho2, hb2⟩
  have HB2 := Lib.hid (((Below.refl w.heap.size w).alloc (Nat.le_refl _) _).trans (hb2.mono (by simp)))
  clear ho2 hb2
  go_wp2_with fail
  go_ret
  exact ⟨rfl, HB2.out⟩
end Go.Proofs.YtljfmcgeiceagaaDoor

/- Reading the body of a response without lists. -/
namespace Go.Proofs.YtljfmcgeiceagaaDoor
open Go Go.RowKit
set_option linter.unusedVariables false
set_option linter.unusedSimpArgs false

theorem bd_wrap {b : List Nat} (hb : By b) (h1 : 0 < b.length) (h2 : b.length ≤ 4087) : bd (wrap 197 b) = (b, 0) := by
  obtain ⟨p1, p2, p3, p4⟩ := wrap_parts 197 b
  have hl := wrap_length 197 b
  have hv : val ((List.drop 1 (wrap 197 b)).take 4) = b.length := by rw [p2, val_fx (by omega)]
  have hh : hd (wrap 197 b) = (9 + (b.length : Int), 0) := by
    unfold hd
    rw [p1, hv, if_neg (by simp), if_neg (by omega), if_neg (by omega), if_neg (by omega)]
  unfold bd
  rw [hh, if_neg (by simp only [hl]; simp; omega), p2, p3, p4, val_fx (crcOf_lt hb)]
  exact if_pos rfl
abbrev stR (id op c k : Nat) : Rs := ⟨bts id op c, k, 0, 0⟩
theorem tk1 {id op c k x : Nat} (hk : (bts id op c)[k]? = some x) : (stR id op c k).take 1 = ([x], stR id op c (k + 1)) := by
  obtain ⟨hk2, hx⟩ := List.getElem?_eq_some_iff.1 hk
  have h9 : (bts id op c).length = 9 := rfl
  have := Rs.take_ok (s := stR id op c k) rfl (k := 1) (by unfold Rs.rest; simp only; omega)
  refine this.trans ?_
  rw [List.drop_eq_getElem_cons hk2, hx]
  rfl
theorem nm1 {id op c k x : Nat} (hk : (bts id op c)[k]? = some x) (hx : x < 128) : (stR id op c k).num = (x, stR id op c (k + 1)) := by
  obtain ⟨hk2, hxx⟩ := List.getElem?_eq_some_iff.1 hk
  have e : bts id op c = (bts id op c).take k ++ (Uv.uv x ++ (bts id op c).drop (k + 1)) := by
    rw [Uv.uv_small hx, ← hxx]
    simp
  have hl : ((bts id op c).take k).length = k := by rw [List.length_take]; omega
  have := num_read (pre := (bts id op c).take k) (post := (bts id op c).drop (k + 1)) (v := x) (by omega)
  rw [← e, hl, Uv.uv_small hx] at this
  exact this
def RB8 (W : World) (b : Nat) (x0 x1 x2 x3 x4 x5 : Value) : Prop := W.heap[b]? = some (.cells #[x0, x1, x2, x3, x4, x5, .slice none 0 0, .slice none 0 0] 39 (0, 0))
section
variable {W W' : World} {b : Nat} {x0 x1 x2 x3 x4 x5 : Value}
theorem RB8.lt (h : RB8 W b x0 x1 x2 x3 x4 x5) : b < W.heap.size := lt_of_block h
theorem RB8.below (h : RB8 W b x0 x1 x2 x3 x4 x5) (hb : Below W.heap.size W W') : RB8 W' b x0 x1 x2 x3 x4 x5 := (hb.block b h.lt).trans h
theorem RB8.kept {g : Nat} (h : RB8 W b x0 x1 x2 x3 x4 x5) (hk : KeptS W W' (fun q => q = g)) (hne : b ≠ g) : RB8 W' b x0 x1 x2 x3 x4 x5 := (hk.block b h.lt hne).trans h
theorem RB8.other {b' k : Nat} {u : Value} (h : RB8 W b x0 x1 x2 x3 x4 x5) (hne : b ≠ b') : RB8 (W.setCell ⟨b', k, none⟩ u) b x0 x1 x2 x3 x4 x5 := (heap_setCell_other W ⟨b', k, none⟩ b u (by simpa using hne)).trans h
theorem RB8.set0 (h : RB8 W b x0 x1 x2 x3 x4 x5) (u : Value) : RB8 (W.setCell ⟨b, 0, none⟩ u) b u x1 x2 x3 x4 x5 := heap_setCell_same W b 0 _ _ u h
theorem RB8.set3 (h : RB8 W b x0 x1 x2 x3 x4 x5) (u : Value) : RB8 (W.setCell ⟨b, 3, none⟩ u) b x0 x1 x2 u x4 x5 := heap_setCell_same W b 3 _ _ u h
theorem RB8.set4 (h : RB8 W b x0 x1 x2 x3 x4 x5) (u : Value) : RB8 (W.setCell ⟨b, 4, none⟩ u) b x0 x1 x2 x3 u x5 := heap_setCell_same W b 4 _ _ u h
theorem RB8.set5 (h : RB8 W b x0 x1 x2 x3 x4 x5) (u : Value) : RB8 (W.setCell ⟨b, 5, none⟩ u) b x0 x1 x2 x3 x4 u := heap_setCell_same W b 5 _ _ u h
theorem RB8.facts (h : RB8 W b x0 x1 x2 x3 x4 x5) : W.cell? ⟨b, 0, none⟩ = some x0 ∧ W.cell? ⟨b, 1, none⟩ = some x1 ∧ W.cell? ⟨b, 2, none⟩ = some x2 ∧ W.cell? ⟨b, 3, none⟩ = some x3 ∧ W.cell? ⟨b, 4, none⟩ = some x4 ∧ W.cell? ⟨b, 5, none⟩ = some x5 ∧ W.cell? ⟨b, 6, none⟩ = some (.slice none 0 0) ∧ W.cell? ⟨b, 7, none⟩ = some (.slice none 0 0) :=
  ⟨cell_of_row W b 0 _ _ _ h, cell_of_row W b 1 _ _ _ h, cell_of_row W b 2 _ _ _ h, cell_of_row W b 3 _ _ _ h, cell_of_row W b 4 _ _ _ h, cell_of_row W b 5 _ _ _ h, cell_of_row W b 6 _ _ _ h, cell_of_row W b 7 _ _ _ h⟩
theorem RB8.marks (h : RB8 W b x0 x1 x2 x3 x4 x5) : W.frozen? ⟨b, 0, none⟩ = false ∧ W.frozen? ⟨b, 1, none⟩ = false ∧ W.frozen? ⟨b, 2, none⟩ = false ∧ W.frozen? ⟨b, 3, none⟩ = false ∧ W.frozen? ⟨b, 4, none⟩ = false ∧ W.frozen? ⟨b, 5, none⟩ = false ∧ W.frozen? ⟨b, 6, none⟩ = false ∧ W.frozen? ⟨b, 7, none⟩ = false :=
  ⟨frozen_of_row W b 0 _ _ h, frozen_of_row W b 1 _ _ h, frozen_of_row W b 2 _ _ h, frozen_of_row W b 3 _ _ h, frozen_of_row W b 4 _ _ h, frozen_of_row W b 5 _ _ h, frozen_of_row W b 6 _ _ h, frozen_of_row W b 7 _ _ h⟩
end
/-- wire.reader's id and count at a number of one byte. -/
def RdN (base : Nat) (w : World) (g : Nat) (v : Value) (x : Value) (s' : Rs) (e : Ending) (w' : World) : Prop := e = .returned x ∧ Turned base w 104 Rs.cells g v s' w'
set_option maxRecDepth 100000 in
theorem id0_is (base g : Nat) (v : Value) (id op c k x : Nat) (w : World) (h : Rdr base w 104 Rs.cells g v (stR id op c k)) (hk : (bts id op c)[k]? = some x) (hx : x < 128) :
    Calls Tryd.prog 42 #[.agg #[.pointer (some ⟨g, 0, none⟩)]] w (RdN base w g v (.int .u32 (x : Int)) (stR id op c (k + 1))) := by
  have PN := Lib.hid (fun W (hb : Below w.heap.size w W) => uv_r base g v (stR id op c k) W (h.below hb))
  rw [nm1 hk hx] at PN
  unfold Gave at PN
  simp only at PN
  have d1 : decide ((4294967295 : Int) < (x : Int)) = false := decide_eq_false (by omega)
  have i1 : (0 : Int) ≤ (x : Int) := by omega
  have i2 : (x : Int) < 128 := by omega
  have hw : IntKind.u32.wrap (x : Int) = (x : Int) := by rw [IntKind.wrap_u32]; omega
  clear h hk hx
  go_enter Tryd.func42, Tryd.ntmps42
  go_wp2_with fail
  refine (PN.out _ ((Below.refl _ _).alloc (Nat.le_refl _) _)).mono ?_
  rintro e w1 ⟨rfl, ht⟩
  have HT := Lib.hid (⟨ht.rd, (KeptS.of_below ((Below.refl _ _).alloc (Nat.le_refl _) _) _).trans ht.kept (fun q hq => .inl hq)⟩ : Turned base w 104 Rs.cells g v (stR id op c (k + 1)) w1)
  clear ht PN
  go_wp2_with fail
  go_ret
  exact ⟨by first | rfl | simp, HT.out⟩
set_option maxRecDepth 100000 in
theorem count0_is (base g : Nat) (v : Value) (id op c k : Nat) (most : Int) (w : World) (h : Rdr base w 104 Rs.cells g v (stR id op c k)) (hk : (bts id op c)[k]? = some 0) (hm : 0 ≤ most ∧ most < 9223372036854775808) :
    Calls Tryd.prog 54 #[.agg #[.pointer (some ⟨g, 0, none⟩)], .int .i64 most] w (RdN base w g v (.int .i64 0) (stR id op c (k + 1))) := by
  have PN := Lib.hid (fun W (hb : Below w.heap.size w W) => uv_r base g v (stR id op c k) W (h.below hb))
  rw [nm1 hk (by omega)] at PN
  unfold Gave at PN
  simp only at PN
  obtain ⟨m1, m2⟩ := hm
  have hw : IntKind.u64.wrap most = most := by rw [IntKind.wrap_u64]; omega
  have d1 : decide (most < 0) = false := decide_eq_false (by omega)
  have d2 : ¬ most < 0 := by omega
  clear h hk
  go_enter Tryd.func54, Tryd.ntmps54
  go_wp2_with fail
  refine (PN.out _ ((Below.refl _ _).alloc (Nat.le_refl _) _)).mono ?_
  rintro e w1 ⟨rfl, ht⟩
  have HT := Lib.hid (⟨ht.rd, (KeptS.of_below ((Below.refl _ _).alloc (Nat.le_refl _) _) _).trans ht.kept (fun q hq => .inl hq)⟩ : Turned base w 104 Rs.cells g v (stR id op c (k + 1)) w1)
  clear ht PN
  go_wp2_with fail
  go_ret
  exact ⟨by first | rfl | simp, HT.out⟩
end Go.Proofs.YtljfmcgeiceagaaDoor

/- wire.DecodeResponse at the frame of a response without lists. -/
namespace Go.Proofs.YtljfmcgeiceagaaDoor
open Go Go.RowKit
set_option linter.unusedVariables false
set_option linter.unusedSimpArgs false

/-- Under way: the reader at place k, its box, the result's box. -/
structure DS (w W : World) (base g : Nat) (v : Value) (gi go id op c k : Nat) : Prop where
  rd : Rdr base W 104 Rs.cells g v (stR id op c k)
  ci : W.heap[gi]? = some (.cells #[.pointer (some ⟨g, 0, none⟩)] 70 (0, 0))
  ro : RB8 W go (.int .u32 0) (.int .i64 0) (.int .i64 0) (.int .i64 0) (.int .i64 0) (.bool false)
  be : Below w.heap.size w W
  ge : w.heap.size ≤ g
  n1 : gi ≠ g
  n2 : go ≠ g
  n3 : gi ≠ go
section
variable {w W W' : World} {base g : Nat} {v : Value} {gi go id op c k k' b : Nat} {u : Value}
theorem DS.cell (h : DS w W base g v gi go id op c k) : W.cell? ⟨gi, 0, none⟩ = some (.pointer (some ⟨g, 0, none⟩)) := cell_of_row W gi 0 _ _ _ h.ci
theorem DS.gil (h : DS w W base g v gi go id op c k) : gi < W.heap.size := lt_of_block h.ci
theorem DS.step (h : DS w W base g v gi go id op c k) (ht : Turned base W 104 Rs.cells g v (stR id op c k') W') : DS w W' base g v gi go id op c k' :=
  ⟨ht.rd, (ht.kept.block gi h.gil h.n1).trans h.ci, h.ro.kept ht.kept h.n2, h.be.trans (ht.kept.below (fun q hq => hq ▸ h.ge) h.be.size), h.ge, h.n1, h.n2, h.n3⟩
theorem DS.below (h : DS w W base g v gi go id op c k) (hb : Below W.heap.size W W') : DS w W' base g v gi go id op c k :=
  ⟨h.rd.below hb, (hb.block gi h.gil).trans h.ci, h.ro.below hb, h.be.trans (hb.mono h.be.size), h.ge, h.n1, h.n2, h.n3⟩
theorem DS.stored {j : Nat} (h : DS w W base g v gi go id op c k) (hb : w.heap.size ≤ b) (h1 : b ≠ g) (h2 : b ≠ gi) (h3 : b ≠ go) (h4 : ∀ q, v.ownBlock = some q → q ≠ b) : DS w (W.setCell ⟨b, j, none⟩ u) base g v gi go id op c k :=
  ⟨h.rd.keptS (KeptS.of_grown (S := fun q => q = b) (stored_grown W b j u) (fun q hq => by injection hq with hq; exact hq.symm)) (fun e => h1 e.symm) (fun q hq e => h4 q hq e), (heap_setCell_other W ⟨b, j, none⟩ gi u (by simpa using fun e => h2 e.symm)).trans h.ci, h.ro.other (fun e => h3 e.symm), h.be.trans (below_of_grown (stored_grown W b j u) h.be.size (fun q hq => by injection hq with hq; exact hq ▸ hb)), h.ge, h.n1, h.n2, h.n3⟩
end
/-- Behind the response's variable: it lies in block g8. -/
def RelD (w : World) (base g : Nat) (v : Value) (gi go id op c : Nat) (s8 : Value) (wx : World) : Prop :=
  ∃ g8, s8 = .pointer (some ⟨g8, 0, none⟩) ∧ RB8 wx g8 (.int .u32 0) (.int .i64 (op : Int)) (.int .i64 (c : Int)) (.int .i64 0) (.int .i64 0) (.bool false) ∧ DS w wx base g v gi go id op c 3 ∧ w.heap.size ≤ g8 ∧ g8 ≠ g ∧ g8 ≠ gi ∧ g8 ≠ go ∧ (∀ q, v.ownBlock = some q → q ≠ g8)
theorem rb8_put {W : World} {b : Nat} {x0 x1 x2 x3 x4 x5 : Value} (h : RB8 W b x0 x1 x2 x3 x4 x5) (y0 y1 y2 y3 y4 y5 : Value) : RB8 ((((((((W.setCell ⟨b, 0, none⟩ y0).setCell ⟨b, 1, none⟩ y1).setCell ⟨b, 2, none⟩ y2).setCell ⟨b, 3, none⟩ y3).setCell ⟨b, 4, none⟩ y4).setCell ⟨b, 5, none⟩ y5).setCell ⟨b, 6, none⟩ (.slice none 0 0)).setCell ⟨b, 7, none⟩ (.slice none 0 0)) b y0 y1 y2 y3 y4 y5 := by
  unfold RB8 at h ⊢
  have h0 := heap_setCell_same W b 0 _ _ y0 h
  have h1 := heap_setCell_same _ b 1 _ _ y1 h0
  have h2 := heap_setCell_same _ b 2 _ _ y2 h1
  have h3 := heap_setCell_same _ b 3 _ _ y3 h2
  have h4 := heap_setCell_same _ b 4 _ _ y4 h3
  have h5 := heap_setCell_same _ b 5 _ _ y5 h4
  have h6 := heap_setCell_same _ b 6 _ _ (Value.slice none 0 0) h5
  have h7 := heap_setCell_same _ b 7 _ _ (Value.slice none 0 0) h6
  simp only [List.setIfInBounds_toArray, List.set_cons_succ, List.set_cons_zero] at h7
  exact h7
theorem rel_chain {w W : World} {base g : Nat} {v : Value} {gi go id op c b : Nat} {x0 x1 x2 x3 x4 x5 : Value} (hz : RB8 W b x0 x1 x2 x3 x4 x5) (hd : DS w W base g v gi go id op c 3) (hb : w.heap.size ≤ b) (h1 : b ≠ g) (h2 : b ≠ gi) (h3 : b ≠ go) (h4 : ∀ q, v.ownBlock = some q → q ≠ b) :
    RelD w base g v gi go id op c (.pointer (some ⟨b, 0, none⟩)) ((((((((W.setCell ⟨b, 0, none⟩ (.int .u32 0)).setCell ⟨b, 1, none⟩ (.int .i64 (op : Int))).setCell ⟨b, 2, none⟩ (.int .i64 (c : Int))).setCell ⟨b, 3, none⟩ (.int .i64 0)).setCell ⟨b, 4, none⟩ (.int .i64 0)).setCell ⟨b, 5, none⟩ (.bool false)).setCell ⟨b, 6, none⟩ (.slice none 0 0)).setCell ⟨b, 7, none⟩ (.slice none 0 0)) :=
  ⟨b, rfl, rb8_put hz _ _ _ _ _ _, (((((((hd.stored hb h1 h2 h3 h4).stored hb h1 h2 h3 h4).stored hb h1 h2 h3 h4).stored hb h1 h2 h3 h4).stored hb h1 h2 h3 h4).stored hb h1 h2 h3 h4).stored hb h1 h2 h3 h4).stored hb h1 h2 h3 h4, hb, h1, h2, h3, h4⟩
theorem rel_alloc {w W : World} {base g : Nat} {v : Value} {gi go id op c : Nat} (hd : DS w W base g v gi go id op c 3) (h4 : ∀ q, v.ownBlock = some q → q < gi) :
    RelD w base g v gi go id op c (.pointer (some ⟨W.heap.size, 0, none⟩)) (W.alloc (.cells #[.int .u32 0, .int .i64 (op : Int), .int .i64 (c : Int), .int .i64 0, .int .i64 0, .bool false, .slice none 0 0, .slice none 0 0] 39)) := by
  have a1 := hd.rd.lt
  have a2 := hd.gil
  have a3 := hd.ro.lt
  have a4 := hd.be.size
  exact ⟨W.heap.size, rfl, heap_alloc_new W _, hd.below ((Below.refl _ _).alloc (Nat.le_refl _) _), a4, by omega, by omega, by omega, fun q hq => by have := h4 q hq; omega⟩
theorem rb_nk {W' W'' : World} {g b : Nat} (hk : KeptS W' W'' (fun q => q = g)) (hn : W'.heap[b]? = some (.cells #[.int .u32 0, .int .i64 0, .int .i64 0, .int .i64 0, .int .i64 0, .bool false, .slice none 0 0, .slice none 0 0] 39 (0, 0))) (hne : b ≠ g) : RB8 W'' b (.int .u32 0) (.int .i64 0) (.int .i64 0) (.int .i64 0) (.int .i64 0) (.bool false) := RB8.kept (W := W') hn hk hne
theorem cell_drew_d2 (W : World) (a : Addr) : W.drew.cell? a = W.cell? a := rfl
theorem run_spot0 (W : World) : (Instr.field 76 (.agg #[.int .i64 0, .int .i64 0]) 0).run Tryd.prog W = .ok (.int .i64 0) W := by kernel_rfl
def GotB (w : World) (base g : Nat) (v : Value) (gi go id op c k x : Nat) (W : World) (e : Ending) (w' : World) : Prop := e = .returned (.int .u8 (x : Int)) ∧ DS w w' base g v gi go id op c k ∧ KeptS W w' (fun q => q = g)
theorem byte_ds {w W : World} {base g : Nat} {v : Value} {gi go id op c k x : Nat} (h : DS w W base g v gi go id op c k) (hk : (bts id op c)[k]? = some x) : Calls Tryd.prog 40 #[.pointer (some ⟨g, 0, none⟩)] W (GotB w base g v gi go id op c (k + 1) x W) := by
  have P := byte_r base g v (stR id op c k) W h.rd
  rw [tk1 hk] at P
  refine P.mono ?_
  rintro e w' ⟨rfl, ht⟩
  exact ⟨rfl, h.step ht, ht.kept⟩
theorem vint_ds {w W : World} {base g : Nat} {v : Value} {gi go id op c k : Nat} (h : DS w W base g v gi go id op c k) (hk : (bts id op c)[k]? = some 0) : Calls Tryd.prog 53 #[.pointer (some ⟨g, 0, none⟩)] W fun e w' => e = .returned (.int .i64 0) ∧ DS w w' base g v gi go id op c (k + 1) ∧ KeptS W w' (fun q => q = g) := by
  have P := varint_r base g v (stR id op c k) W h.rd
  rw [nm1 hk (by omega)] at P
  refine P.mono ?_
  rintro e w' ⟨he, ht⟩
  exact ⟨he.trans (by simp [Uv.zag]), h.step ht, ht.kept⟩
theorem rest_ds {w W : World} {base g : Nat} {v : Value} {gi go id op c : Nat} (h : DS w W base g v gi go id op c 9) : Calls Tryd.prog 56 #[.pointer (some ⟨g, 0, none⟩)] W fun e w' => e = .returned (.int .i64 0) ∧ DS w w' base g v gi go id op c 9 ∧ KeptS W w' (fun q => q = g) := by
  refine (rest_is base g v (stR id op c 9) W h.rd).mono ?_
  rintro e w' ⟨rfl, m, rfl⟩
  exact ⟨rfl, h.below (below_drewN (Below.refl _ _) m), KeptS.of_below (below_drewN (Below.refl _ _) m) _⟩
theorem tk0 {id op c : Nat} : (stR id op c 9).take 0 = ([], stR id op c 9) := Rs.take_ok (s := stR id op c 9) rfl (k := 0) (by unfold Rs.rest; simp)
theorem raw_ds {w W : World} {base g : Nat} {v : Value} {gi go id op c : Nat} (h : DS w W base g v gi go id op c 9) : Calls Tryd.prog 55 #[.pointer (some ⟨g, 0, none⟩), .int .i64 0] W fun e w' => (∃ A c', e = .returned (.slice A 0 c')) ∧ DS w w' base g v gi go id op c 9 ∧ KeptS W w' (fun q => q = g) := by
  have P := raw_r base g v (stR id op c 9) 0 W h.rd
  rw [tk0] at P
  refine P.mono ?_
  rintro e w' ⟨A, c', he, _, ht⟩
  exact ⟨⟨A, c', he⟩, h.step ht, ht.kept⟩
theorem end_ds {w W : World} {base g : Nat} {v : Value} {gi go id op c : Nat} (h : DS w W base g v gi go id op c 9) : Calls Tryd.prog 45 #[.pointer (some ⟨g, 0, none⟩)] W fun e w' => e = .returned (.agg #[.int .i64 0, .int .i64 0]) ∧ DS w w' base g v gi go id op c 9 ∧ Below W.heap.size W w' := by
  refine (end_r base g v (stR id op c 9) W h.rd).mono ?_
  rintro e w' ⟨he, hb⟩
  exact ⟨he, h.below hb, hb⟩
theorem be_put {w W : World} {b j : Nat} {u : Value} (h : Below w.heap.size w W) (hb : w.heap.size ≤ b) : Below w.heap.size w (W.setCell ⟨b, j, none⟩ u) := h.trans (below_of_grown (stored_grown W b j u) h.size (fun q hq => by injection hq with hq; exact hq ▸ hb))
theorem count_ds {w W : World} {base g : Nat} {v : Value} {gi go id op c k : Nat} (most : Int) (h : DS w W base g v gi go id op c k) (hk : (bts id op c)[k]? = some 0) (hm : 0 ≤ most ∧ most < 9223372036854775808) : Calls Tryd.prog 54 #[.agg #[.pointer (some ⟨g, 0, none⟩)], .int .i64 most] W fun e w' => e = .returned (.int .i64 0) ∧ DS w w' base g v gi go id op c (k + 1) ∧ KeptS W w' (fun q => q = g) := by
  refine (count0_is base g v id op c k most W h.rd hk hm).mono ?_
  rintro e w' ⟨rfl, ht⟩
  exact ⟨rfl, h.step ht, ht.kept⟩
set_option maxHeartbeats 4000000 in
set_option maxRecDepth 100000 in
theorem decode0_is (A : Option Addr) (cc id op c : Nat) (w : World) (hr : Rd w A (b8 (wrap 197 (bts id op c)))) (hcc : 18 ≤ cc) (hid : id < 128) (hop1 : 1 ≤ op) (hop2 : op < 16) (hc : c ≤ 11) :
    Calls Tryd.prog 19 #[.slice A 18 cc] w fun e w' => e = .returned (.tuple #[respV id op c, .int .i64 0]) ∧ Below w.heap.size w w' := by
  have hby := bts_by hid (by omega : op < 128) (by omega : c < 128)
  have PB := Lib.hid (fun W (hb : Below w.heap.size w W) => body_is A 18 cc (wrap 197 (bts id op c)) W (hr.below hb) (by rw [wrap_length]; rfl) hcc (wrap_by (by omega) hby) (by omega))
  rw [bd_wrap hby (by simp [bts]) (by simp [bts])] at PB
  unfold FramePost at PB
  have PN := Lib.hid (fun A c' W (h : Rd W A (b8 (bts id op c))) => newReader_is A 9 c' (bts id op c) W h rfl hby (by omega))
  unfold Newed at PN
  have HOP := Lib.hid (⟨hid, hop1, hop2, hc⟩ : _ ∧ _ ∧ _ ∧ _)
  have T0 : Hid ((stR id op c 0).take 1 = ([82], stR id op c 1)) := Lib.hid (tk1 rfl)
  have T1 : Hid ((stR id op c 1).take 1 = ([op], stR id op c 2)) := Lib.hid (tk1 rfl)
  have T2 : Hid ((stR id op c 2).take 1 = ([c], stR id op c 3)) := Lib.hid (tk1 rfl)
  clear hr hby hcc hid hop1 hop2 hc
  go_enter Tryd.func19, Tryd.ntmps19
  go_wp2_with fail
  refine (PB.out _ ((Below.refl _ _).alloc (Nat.le_refl _) _)).mono ?_
  rintro e w1 ⟨A1, c1, rfl, ho1, hb1⟩
  have HRO : Hid (RB8 w1 w.heap.size (.int .u32 0) (.int .i64 0) (.int .i64 0) (.int .i64 0) (.int .i64 0) (.bool false)) := Lib.hid ((RBx.new w (.slice none 0 0) (.slice none 0 0)).below hb1 (by simp))
  have HO1 := Lib.hid (rd_own ho1)
  have HB1 := Lib.hid (((Below.refl w.heap.size w).alloc (Nat.le_refl _) (boxObj (.slice none 0 0) (.slice none 0 0))).trans (hb1.mono (by simp)))
  have hs1 : w.heap.size < w1.heap.size := by have := hb1.size; simp at this; omega
  clear ho1 hb1 PB
  go_wp2_with fail
  refine (PN.out A1 c1 w1 HO1.out).mono ?_
  rintro e w2 ⟨g, v, rfl, hrd, hb2⟩
  have hgb := hrd.gb
  have hgl := hrd.lt
  have HRD := Lib.hid hrd
  have HRO2 := Lib.hid (HRO.out.below hb2)
  have HB2 := Lib.hid (HB1.out.trans (hb2.mono HB1.out.size))
  clear hrd hb2 PN HO1 HB1 HRO
  go_upto_region 5 with (fail)
  have hDS : DS w (w2.alloc (.cells #[.pointer (some ⟨g, 0, none⟩)] 70)) w1.heap.size g v w2.heap.size w.heap.size id op c 0 :=
    ⟨HRD.out.below ((Below.refl _ _).alloc (Nat.le_refl _) _), heap_alloc_new w2 _, HRO2.out.below ((Below.refl _ _).alloc (Nat.le_refl _) _), HB2.out.alloc HB2.out.size _, by omega, by omega, by omega, by omega⟩
  have hvb : ∀ q, v.ownBlock = some q → q < w2.heap.size := fun q hq => (HRD.out.own.lt q hq).2
  have hvb2 : ∀ q, v.ownBlock = some q → w1.heap.size ≤ q := fun q hq => (HRD.out.own.lt q hq).1
  have HVB := Lib.hid hvb
  have HVB2 := Lib.hid hvb2
  clear HRD HRO2 HB2 hvb hvb2
  generalize (w2.alloc (.cells #[.pointer (some ⟨g, 0, none⟩)] 70)) = w3 at hDS ⊢
  obtain ⟨gi, hgi⟩ : ∃ gi, gi = w2.heap.size := ⟨_, rfl⟩
  rw [← hgi] at hDS HVB hgl ⊢
  have HD3 := Lib.hid hDS
  have x0 := hDS.cell
  clear hgi hDS
  go_wp2_with fail
  have P3 := byte_r w1.heap.size g v (stR id op c 0) w3 HD3.out.rd
  rw [T0.out] at P3
  unfold Gave at P3
  simp only [List.headD_cons] at P3
  refine P3.mono ?_
  rintro e w4 ⟨rfl, ht⟩
  have HD4 := Lib.hid (HD3.out.step ht)
  clear ht P3 x0 HD3 T0
  have x0 := HD4.out.cell
  have PB1 := Lib.hid (fun W (h : DS w W w1.heap.size g v gi w.heap.size id op c 1) => byte_ds h (x := op) rfl)
  have PB2 := Lib.hid (fun W (h : DS w W w1.heap.size g v gi w.heap.size id op c 2) => byte_ds h (x := c) rfl)
  have hgl4 := HD4.out.rd.lt
  have hgi4 := HD4.out.gil
  have hsz4 := HD4.out.ro.lt
  obtain ⟨hid, hop1, hop2, hc⟩ := HOP.out
  have i1 : (0 : Int) ≤ (op : Int) := by omega
  have i2 : (op : Int) < 128 := by omega
  have i3 : (0 : Int) ≤ (c : Int) := by omega
  have i4 : (c : Int) < 128 := by omega
  unfold GotB at PB1 PB2
  clear hid hop1 hop2 hc T1 T2
  go_upto_region 6 with (fail)
  go_cut [8] from 29 to 37 (fun s8 wx => RelD w w1.heap.size g v gi w.heap.size id op c s8 wx)
  case first =>
    go_region_held3 (fun W => W.cell? ⟨gi, 0, none⟩ = some (.pointer (some ⟨g, 0, none⟩)))
      (first
        | (with_reducible assumption)
        | (with_reducible (refine (World.cell?_setCell_far _ ⟨_, _, none⟩ _ _ (by dsimp only; omega)).trans ?_); (repeat (with_reducible (refine (World.cell?_setCell_far _ ⟨_, _, none⟩ _ _ (by dsimp only; omega)).trans ?_))); with_reducible assumption)
        | (with_reducible (refine (cell_drew_d2 _ _).trans ?_); with_reducible assumption)
        | (with_reducible (refine (World.grownBy_alloc _ _ none).cell ?_ (by simp)); with_reducible assumption)
        | (with_reducible (refine (World.grownBy_alloc _ _ none).cell ?_ (by simp)); with_reducible (refine (cell_drew_d2 _ _).trans ?_); with_reducible assumption)
        | (with_reducible (refine (cell_drew_d2 _ _).trans ?_); with_reducible (refine (World.grownBy_alloc _ _ none).cell ?_ (by simp)); with_reducible assumption))
      (first
        | (go_at_call 40; refine (PB2.out _ (by exact HD5.out)).mono ?_; rintro e w6 ⟨rfl, hd6, hk6⟩; have HD6 := Lib.hid hd6; have HK6 := Lib.hid hk6; have hS6 := hd6.cell; have hz6 := Lib.hid (RB8.kept (HZ5.out) hk6 (by omega)); have hf6 := hz6.out.facts; have hm6 := hz6.out.marks; clear hd6 hk6)
        | (go_at_call 40; refine (PB2.out _ (by exact HD5.out)).mono ?_; rintro e w6 ⟨rfl, hd6, hk6⟩; have HD6 := Lib.hid hd6; have HK6 := Lib.hid hk6; have hS6 := hd6.cell; clear hd6 hk6)
        | (go_at_call 40; refine (PB2.out _ (by exact HD5.out.below ((Below.refl _ _).alloc (Nat.le_refl _) _))).mono ?_; rintro e w6 ⟨rfl, hd6, hk6⟩; have HD6 := Lib.hid hd6; have HK6 := Lib.hid hk6; have hS6 := hd6.cell; have hz6 := Lib.hid (rb_nk (b := w5.heap.size) hk6 (heap_alloc_new w5 _) (by omega)); have hf6 := hz6.out.facts; have hm6 := hz6.out.marks; clear hd6 hk6)
        | (go_at_call 40; refine (PB1.out _ (by exact HD4.out.below (Below.refl _ _).drew)).mono ?_; rintro e w5 ⟨rfl, hd5, hk5⟩; have HD5 := Lib.hid hd5; have HK5 := Lib.hid hk5; have hS5 := hd5.cell; have hgl5 := hd5.rd.lt; have hgi5 := hd5.gil; have hro5 := hd5.ro.lt; clear hd5 hk5)
        | (go_at_call 40; refine (PB1.out _ (by exact HD4.out.below ((Below.refl _ _).alloc (Nat.le_refl _) _).drew)).mono ?_; rintro e w5 ⟨rfl, hd5, hk5⟩; have HD5 := Lib.hid hd5; have HK5 := Lib.hid hk5; have hS5 := hd5.cell; have hgl5 := hd5.rd.lt; have hgi5 := hd5.gil; have hro5 := hd5.ro.lt; have HZ5 := Lib.hid (rb_nk (b := w4.heap.size) hk5 (heap_alloc_new w4 _) (by omega)); clear hd5 hk5))
    all_goals
      obtain ⟨hid, hop1, hop2, hc⟩ := HOP.out
      have wo : IntKind.i64.wrap (op : Int) = op := by rw [IntKind.wrap_i64]; omega
      have wc : IntKind.i64.wrap (c : Int) = c := by rw [IntKind.wrap_i64]; omega
      simp only [wo, wc]
      go_wp2_with fail
      go_meet
      first
        | (have r := rel_chain (b := w5.heap.size) hz6.out HD6.out (by omega) (by omega) (by omega) (by omega) (fun q hq => by have := HVB.out q hq; omega); with_reducible exact r)
        | (have r := rel_chain (b := w4.heap.size) hz6.out HD6.out (by omega) (by omega) (by omega) (by omega) (fun q hq => by have := HVB.out q hq; omega); with_reducible exact r)
        | (have r := rel_alloc HD6.out HVB.out; with_reducible exact r)
  case' rest =>
    obtain ⟨g8, rfl, hz, hds, b1, b2, b3, b4, b5⟩ := hcut
    have HZ := Lib.hid hz
    have HDS := Lib.hid hds
    have b6 : w.heap.size ≠ g8 := fun e => b4 e.symm
    have b7 : gi ≠ g8 := fun e => b3 e.symm
    have x1 := hds.cell
    clear hz hds PB1 PB2 HD4 x0 HVB hgl4 hgi4 hsz4 HVB2
    obtain ⟨hid, hop1, hop2, hc⟩ := HOP.out
    have P7 := id0_is w1.heap.size g v id op c 3 id wc HDS.out.rd rfl hid
    unfold RdN at P7
    clear hid hop1 hop2 hc
    go_wp2_with fail
    refine P7.mono ?_
    rintro e y1 ⟨rfl, ht⟩
    have HD1 := Lib.hid (HDS.out.step ht)
    have HZ1 := Lib.hid (HZ.out.kept ht.kept b2)
    clear ht P7 x1 HDS HZ
    obtain ⟨z0, z1, z2, z3, z4, z5, z6, z7⟩ := HZ1.out.facts
    obtain ⟨k0, k1, k2, k3, k4, k5, k6, k7⟩ := HZ1.out.marks
    go_upto_region 8 with (fail)
    have HZ2 := Lib.hid (HZ1.out.set0 (.int .u32 (id : Int)))
    have HD2 := Lib.hid (HD1.out.stored (j := 0) (u := .int .u32 (id : Int)) b1 b2 b3 b4 b5)
    clear z0 z1 z2 z3 z4 z5 z6 z7 k0 k1 k2 k3 k4 k5 k6 k7 HZ1 HD1
    generalize (y1.setCell ⟨g8, 0, none⟩ (.int .u32 (id : Int))) = y2 at HZ2 HD2 ⊢
    have x1 := HD2.out.cell
    go_wp2_with fail
    refine (vint_ds HD2.out rfl).mono ?_
    rintro e y3 ⟨rfl, hd, hk⟩
    have HD3 := Lib.hid hd
    have HZ3 := Lib.hid (HZ2.out.kept hk b2)
    clear hd hk x1 HD2 HZ2
    have x1 := HD3.out.cell
    obtain ⟨z0, z1, z2, z3, z4, z5, z6, z7⟩ := HZ3.out.facts
    obtain ⟨k0, k1, k2, k3, k4, k5, k6, k7⟩ := HZ3.out.marks
    go_upto_region 9 with (fail)
    have HZ4 := Lib.hid (HZ3.out.set3 (.int .i64 0))
    have HD4 := Lib.hid (HD3.out.stored (j := 3) (u := .int .i64 0) b1 b2 b3 b4 b5)
    clear z0 z1 z2 z3 z4 z5 z6 z7 k0 k1 k2 k3 k4 k5 k6 k7 x1 HZ3 HD3
    generalize (y3.setCell ⟨g8, 3, none⟩ (.int .i64 0)) = y4 at HZ4 HD4 ⊢
    have x1 := HD4.out.cell
    go_wp2_with fail
    refine (vint_ds HD4.out rfl).mono ?_
    rintro e y5 ⟨rfl, hd, hk⟩
    have HD5 := Lib.hid hd
    have HZ5 := Lib.hid (HZ4.out.kept hk b2)
    clear hd hk x1 HD4 HZ4
    have x1 := HD5.out.cell
    obtain ⟨z0, z1, z2, z3, z4, z5, z6, z7⟩ := HZ5.out.facts
    obtain ⟨k0, k1, k2, k3, k4, k5, k6, k7⟩ := HZ5.out.marks
    go_upto_region 10 with (fail)
    have HZ6 := Lib.hid (HZ5.out.set4 (.int .i64 0))
    have HD6 := Lib.hid (HD5.out.stored (j := 4) (u := .int .i64 0) b1 b2 b3 b4 b5)
    clear z0 z1 z2 z3 z4 z5 z6 z7 k0 k1 k2 k3 k4 k5 k6 k7 x1 HZ5 HD5
    generalize (y5.setCell ⟨g8, 4, none⟩ (.int .i64 0)) = y6 at HZ6 HD6 ⊢
    have x1 := HD6.out.cell
    go_wp2_with fail
    refine (byte_ds HD6.out (x := 0) rfl).mono ?_
    rintro e y7 ⟨rfl, hd, hk⟩
    have HD7 := Lib.hid hd
    have HZ7 := Lib.hid (HZ6.out.kept hk b2)
    clear hd hk x1 HD6 HZ6
    have x1 := HD7.out.cell
    obtain ⟨z0, z1, z2, z3, z4, z5, z6, z7⟩ := HZ7.out.facts
    obtain ⟨k0, k1, k2, k3, k4, k5, k6, k7⟩ := HZ7.out.marks
    go_upto_region 12 with (fail)
    have HZ8 := Lib.hid (HZ7.out.set5 (.bool false))
    have HD8 := Lib.hid (HD7.out.stored (j := 5) (u := .bool false) b1 b2 b3 b4 b5)
    clear z0 z1 z2 z3 z4 z5 z6 z7 k0 k1 k2 k3 k4 k5 k6 k7 x1 HZ7 HD7
    generalize (y7.setCell ⟨g8, 5, none⟩ (.bool false)) = y8 at HZ8 HD8 ⊢
    have x1 := HD8.out.cell
    go_wp2_with fail
    refine (count_ds 16 HD8.out rfl (by omega)).mono ?_
    rintro e y9 ⟨rfl, hd, hk⟩
    have HD9 := Lib.hid hd
    have HZ9 := Lib.hid (HZ8.out.kept hk b2)
    clear hd hk x1 HD8 HZ8
    have x1 := HD9.out.cell
    go_upto_region 16 with (fail)
    go_loop [57] (fun i => i = .int .i64 0) (fun i => 0)
    case atStart => rfl
    case round =>
      subst hrel
      have i9 : (0 : Int) ≤ ((bts id op c).length : Int) ∧ ((bts id op c).length : Int) < 9223372036854775808 := by simp [bts]
      have P16 := Lib.hid (count_ds ((bts id op c).length : Int) HD9.out rfl i9)
      have x1 := HD9.out.cell
      clear i9
      go_wp2_with fail
      refine P16.out.mono ?_
      rintro e y10 ⟨rfl, hd, hk⟩
      have HD10 := Lib.hid hd
      have HZ10 := Lib.hid (HZ9.out.kept hk b2)
      clear hd hk x1 HD9 HZ9 P16
      have x1 := HD10.out.cell
      go_upto_region 17 with (fail)
      go_region_held3 (fun W => W.cell? ⟨gi, 0, none⟩ = some (.pointer (some ⟨g, 0, none⟩)))
        (first
          | (with_reducible assumption)
          | (with_reducible (refine (cell_drew_d2 _ _).trans ?_); with_reducible assumption))
        (first
          | (go_at_call 55; refine (raw_ds (by exact HD11.out)).mono ?_; rintro e y12 ⟨⟨A2, c2, rfl⟩, hd, hk⟩; have HD12 := Lib.hid hd; have HZ12 := Lib.hid (HZ11.out.kept hk b2); have x3 := hd.cell; clear hd hk)
          | (go_at_call 56; refine (rest_ds (by exact HD10.out.below (Below.refl _ _).drew)).mono ?_; rintro e y11 ⟨rfl, hd, hk⟩; have HD11 := Lib.hid hd; have HZ11 := Lib.hid ((HZ10.out.below (Below.refl _ _).drew).kept hk b2); have x2 := hd.cell; clear hd hk))
      go_wp2_with fail
      refine (end_ds (by exact HD12.out)).mono ?_
      rintro e y13 ⟨rfl, hd, hb⟩
      have HD13 := Lib.hid hd
      have HZ13 := Lib.hid (HZ12.out.below hb)
      clear hd hb x1 x2 x3 HD10 HD11 HD12 HZ10 HZ11 HZ12
      obtain ⟨hid, hop1, hop2, hc⟩ := HOP.out
      have PC := Lib.hid (fun W => checkr0_is id op c W hid hop1 hop2 hc)
      unfold respV at PC
      clear hid hop1 hop2 hc
      have hfld := run_spot0
      go_wp2_with fail
      clear hfld
      go_loop [3, 11, 93] (fun s3 s11 i => s3 = .int .i64 0 ∧ s11 = .slice A2 0 c2 ∧ i = .int .i64 0) (fun _ _ _ => 0)
      case atStart => exact ⟨rfl, rfl, rfl⟩
      case round =>
        obtain ⟨rfl, rfl, rfl⟩ := hrel
        obtain ⟨z0, z1, z2, z3, z4, z5, z6, z7⟩ := HZ13.out.facts
        go_wp2_with fail
        refine (PC.out _).mono ?_
        rintro e y14 ⟨rfl, hb⟩
        have HB14 := Lib.hid (HD13.out.be.trans (hb.mono HD13.out.be.size))
        have HZ14 := Lib.hid (HZ13.out.below hb)
        have HR14 := Lib.hid (HD13.out.ro.below hb)
        clear hb z0 z1 z2 z3 z4 z5 z6 z7 HD13 HZ13 PC
        obtain ⟨z0, z1, z2, z3, z4, z5, z6, z7⟩ := HZ14.out.facts
        obtain ⟨r0, r1, r2, r3, r4, r5, r6, r7⟩ := HR14.out.facts
        obtain ⟨k0, k1, k2, k3, k4, k5, k6, k7⟩ := HR14.out.marks
        go_wp2_with fail
        have HFI := Lib.hid (rb8_put HR14.out (.int .u32 (id : Int)) (.int .i64 (op : Int)) (.int .i64 (c : Int)) (.int .i64 0) (.int .i64 0) (.bool false))
        have HBE := Lib.hid ((be_put (b := w.heap.size) (j := 7) (u := .slice none 0 0) (be_put (b := w.heap.size) (j := 6) (u := .slice none 0 0) (be_put (b := w.heap.size) (j := 5) (u := .bool false) (be_put (b := w.heap.size) (j := 4) (u := .int .i64 0) (be_put (b := w.heap.size) (j := 3) (u := .int .i64 0) (be_put (b := w.heap.size) (j := 2) (u := .int .i64 (c : Int)) (be_put (b := w.heap.size) (j := 1) (u := .int .i64 (op : Int)) (be_put (b := w.heap.size) (j := 0) (u := .int .u32 (id : Int)) HB14.out (Nat.le_refl _)) (Nat.le_refl _)) (Nat.le_refl _)) (Nat.le_refl _)) (Nat.le_refl _)) (Nat.le_refl _)) (Nat.le_refl _)) (Nat.le_refl _)))
        clear z0 z1 z2 z3 z4 z5 z6 z7 r0 r1 r2 r3 r4 r5 r6 r7 k0 k1 k2 k3 k4 k5 k6 k7 HR14 HZ14 HB14
        generalize ((((((((y14.setCell ⟨w.heap.size, 0, none⟩ (.int .u32 (id : Int))).setCell ⟨w.heap.size, 1, none⟩ (.int .i64 (op : Int))).setCell ⟨w.heap.size, 2, none⟩ (.int .i64 (c : Int))).setCell ⟨w.heap.size, 3, none⟩ (.int .i64 0)).setCell ⟨w.heap.size, 4, none⟩ (.int .i64 0)).setCell ⟨w.heap.size, 5, none⟩ (.bool false)).setCell ⟨w.heap.size, 6, none⟩ (.slice none 0 0)).setCell ⟨w.heap.size, 7, none⟩ (.slice none 0 0)) = W9 at HFI HBE ⊢
        obtain ⟨z0, z1, z2, z3, z4, z5, z6, z7⟩ := HFI.out.facts
        exact bodyPost_ret (v := .tuple #[.agg #[.int .u32 (id : Int), .int .i64 (op : Int), .int .i64 (c : Int), .int .i64 0, .int .i64 0, .bool false, .slice none 0 0, .slice none 0 0], .int .i64 0]) (by simp [results, Tryd.results19, go_sem, z0, z1, z2, z3, z4, z5, z6, z7]) rfl ⟨rfl, HBE.out⟩
end Go.Proofs.YtljfmcgeiceagaaDoor
