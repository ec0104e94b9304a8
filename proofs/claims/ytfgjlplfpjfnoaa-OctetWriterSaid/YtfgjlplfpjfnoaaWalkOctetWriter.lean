/- OctetWriter: the walk. -/
import Derived.Test.YtfgjlplfpjfnoaaFour
import Derived.Test.YtfgjlplfpjfnoaaWrites4
import Derived.Test.YtfgjlplfpjfnoaaOctSame
namespace Go.Proofs.Ytfgjlplfpjfnoaa
open Go Go.RowKit
set_option linter.unusedVariables false

set_option maxHeartbeats 400000 in
set_option maxRecDepth 100000 in
theorem octetWriter_beyond (A0 : Option Addr) (c0 : Nat) (b0 : List Stp) (w : World) (c0l : b0.length ≤ c0) (r0 : RdS w A0 b0) (y0 : ∀ x ∈ b0, x.Ok) (l0 : b0.length * 32 ≤ 140737488351232) (hb : 2147483647 < stSum b0) :
    Calls Try.prog 10 #[.slice A0 b0.length c0] w fun e w' => e = .returned (.bool true) ∧ Below w.heap.size w w' := by
  have P1 := Lib.hid (fun W (hw : w = W) => beyondSteps_is A0 c0 b0.length b0 W (hw ▸ r0) rfl c0l l0 y0)
  rw [show decide (2147483647 < stSum b0) = true from decide_eq_true hb] at P1
  obtain ⟨n, hn⟩ : ∃ n, n = b0.length := ⟨_, rfl⟩
  rw [← hn] at P1 ⊢
  clear hb r0 y0 hn c0l l0
  go_enter Try.func10, Try.ntmps10
  go_wp2_with (go_at_call 36; refine (P1.out _ rfl).mono ?_; rintro e w' ⟨rfl, rfl⟩)
  go_ret
  exact ⟨rfl, Below.refl _ _⟩

theorem Four.sz {w W : World} {g1 g2 g3 g4 : Nat} {v1 v2 v3 v4 : Value} {xs ys : List Nat} (h : Four w W g1 v1 g2 v2 xs g3 v3 g4 v4 ys) : w.heap.size ≤ W.heap.size := h.be.size

set_option maxHeartbeats 400000 in
set_option maxRecDepth 100000 in
theorem octetWriter_main (A0 : Option Addr) (c0 : Nat) (b0 : List Stp) (w : World) (c0l : b0.length ≤ c0) (r0 : RdS w A0 b0) (y0 : ∀ x ∈ b0, x.Ok) (l0 : b0.length * 32 ≤ 140737488351232) (hb : stSum b0 ≤ 2147483647) :
    Calls Try.prog 10 #[.slice A0 b0.length c0] w fun e w' => e = .returned (.bool true) ∧ Below w.heap.size w w' := by
  have P1 := Lib.hid (fun W (hw : w = W) => beyondSteps_is A0 c0 b0.length b0 W (hw ▸ r0) rfl c0l l0 y0)
  rw [show decide (2147483647 < stSum b0) = false from decide_eq_false (by omega)] at P1
  have HR := Lib.hid r0
  have HA := Lib.hid y0
  have HB := Lib.hid hb
  have HF0 := Lib.hid (four_new w)
  obtain ⟨n, hn⟩ : ∃ n, n = b0.length := ⟨_, rfl⟩
  rw [← hn] at P1 c0l l0 ⊢
  have HN := Lib.hid hn
  clear hb r0 y0 hn
  go_enter Try.func10, Try.ntmps10
  go_wp2_with (first
    | (go_at_call 36; refine (P1.out _ rfl).mono ?_; rintro e w' ⟨rfl, rfl⟩)
    | (go_at_call 37; refine (new_is _).mono ?_; rintro e w' ⟨rfl, rfl⟩)
    | (go_at_call 38; refine (rnew_is _).mono ?_; rintro e w' ⟨rfl, rfl⟩))
  clear P1
  go_loopw [8] (fun i wr => ∃ (k : Nat) (v1 v2 v3 v4 : Value), k ≤ n ∧ i = .int .i64 k ∧ Hid (Four w wr w.heap.size v1 (w.heap.size + 1 + 1) v2 (outs (b0.take k)) (w.heap.size + 1) v3 (w.heap.size + 1 + 1 + 1) v4 (outs (b0.take k))))
    (fun i _ => n - (intOf i).toNat)
  case atStart => exact ⟨0, _, _, _, _, Nat.zero_le _, rfl, by simpa [outs] using HF0⟩
  case round =>
    obtain ⟨k, v1, v2, v3, v4, hk, rfl, HF⟩ := hrel
    clear HF0
    have hlw := HF.out.sz
    by_cases hlt : k < n
    · obtain ⟨x, hx⟩ : ∃ x, b0[k]? = some x := ⟨_, List.getElem?_eq_getElem (by rw [← HN.out]; exact hlt)⟩
      obtain ⟨g, off, rfl, hg, hcell⟩ := HR.out (by rintro rfl; simp at hx)
      obtain ⟨d0, d1, d2⟩ := hcell k x hx
      have be := HF.out.be
      have c0 := (be.cell (p := ⟨g, off + k * 3, none⟩) hg).trans d0
      have c1 := (be.cell (p := ⟨g, off + k * 3 + 1, none⟩) hg).trans d1
      have c2 := (be.cell (p := ⟨g, off + k * 3 + 2, none⟩) hg).trans d2
      have hglt : g < wr.heap.size := Nat.lt_of_lt_of_le hg hlw
      have HX := Lib.hid (HA.out x (List.mem_of_getElem? hx))
      have HO := Lib.hid (outs_take hx)
      have hlen : (outs (b0.take k)).length + 10 + x.s.size ≤ 140737488351232 := by
        have h1 := stSum_take hx
        have h2 := stSum_le b0 (k + 1)
        have h3 := outs_len (l := b0.take k) (fun y hy => HA.out y (List.mem_of_mem_take hy))
        have h4 := HB.out
        omega
      have HL := Lib.hid hlen
      have PA := Lib.hid (fun W (hw : wr = W) => writes_two w.heap.size w.heap.size (w.heap.size + 1 + 1) v1 v2 _ x W (hw ▸ HF.out.a) HX.out HL.out)
      have PB := Lib.hid (fun W z1 z2 (h : Four w W w.heap.size z1 (w.heap.size + 1 + 1) z2 (outs (b0.take k) ++ x.out) (w.heap.size + 1) v3 (w.heap.size + 1 + 1 + 1) v4 (outs (b0.take k))) => writes_two w.heap.size (w.heap.size + 1) (w.heap.size + 1 + 1 + 1) v3 v4 _ x W h.b HX.out HL.out)
      have PC := Lib.hid (fun W => writes_none x W HX.out)
      unfold Stp.val at PA PB PC
      clear be hcell hx d0 d1 d2 hlen
      go_wp2_with fail
      refine (PA.out _ rfl).mono ?_
      rintro e wa ⟨rfl, z1, z2, hs1⟩
      obtain ⟨hf1, hb1⟩ := HF.out.left hs1
      have HF1 := Lib.hid hf1
      have HS1 := Lib.hid hb1
      have hla := HF1.out.sz
      have a0 := (hb1.cell (p := ⟨g, off + k * 3, none⟩) hg).trans c0
      have a1 := (hb1.cell (p := ⟨g, off + k * 3 + 1, none⟩) hg).trans c1
      have a2 := (hb1.cell (p := ⟨g, off + k * 3 + 2, none⟩) hg).trans c2
      have hga : g < wa.heap.size := Nat.lt_of_lt_of_le hg hla
      clear hs1 hf1 hb1
      go_wp2_with fail
      refine (PB.out _ _ _ HF1.out).mono ?_
      rintro e wb ⟨rfl, z3, z4, hs2⟩
      obtain ⟨hf2, hb2⟩ := HF1.out.right hs2
      have HF2 := Lib.hid hf2
      have hlb := HF2.out.sz
      have b0' := (hb2.cell (p := ⟨g, off + k * 3, none⟩) hg).trans a0
      have b1' := (hb2.cell (p := ⟨g, off + k * 3 + 1, none⟩) hg).trans a1
      have b2' := (hb2.cell (p := ⟨g, off + k * 3 + 2, none⟩) hg).trans a2
      have hgb : g < wb.heap.size := Nat.lt_of_lt_of_le hg hlb
      clear hs2 hf2 hb2
      go_wp2_with fail
      refine (PC.out _).mono ?_
      rintro e wc ⟨rfl, hs3⟩
      have HF3 := Lib.hid (HF2.out.below hs3)
      clear hs3
      go_wp2_with fail
      go_roundw
      case rel => exact ⟨k + 1, z1, z2, z3, z4, by omega, by go_num, by rw [HO.out]; exact HF3⟩
      case measure => simp [intOf]; omega
    · have hkn : k = n := by omega
      subst hkn
      have hout : outs (b0.take k) = outs b0 := by rw [List.take_of_length_le (by rw [← HN.out]; omega)]
      rw [hout] at HF
      have hlen : (outs b0).length ≤ 140737488351232 := by
        have h3 := outs_len HA.out
        have h4 := HB.out
        omega
      obtain ⟨ys, hys⟩ : ∃ ys, ys = outs b0 := ⟨_, rfl⟩
      rw [← hys] at HF hlen
      have hcell2 := cell_of_one HF.out.a.b.cell
      have hg2 := HF.out.a.b.lt
      obtain ⟨A2, q2, rfl, hq2, _, _⟩ := own_shape HF.out.a.b.own
      clear hout hys HN HR
      go_wp2_with fail
      refine (bytes_w w.heap.size w.heap.size _ ys _ HF.out.a.a hlen).mono ?_
      rintro e wa ⟨A3, c3, rfl, ho3, hb3⟩
      have HF1 := Lib.hid (HF.out.below hb3)
      have HO1 := Lib.hid ho3
      have hla := HF1.out.sz
      clear ho3 hb3
      go_wp2_with fail
      refine (bytes_w w.heap.size (w.heap.size + 1) _ ys _ HF1.out.b.a hlen).mono ?_
      rintro e wb ⟨A4, c4, rfl, ho4, hb4⟩
      have HF2 := Lib.hid (HF1.out.below hb4)
      have HO2 := Lib.hid ho4
      have HO3 := Lib.hid (own_below HO1.out hb4)
      have hlb := HF2.out.sz
      have hcell3 := cell_of_one HF2.out.a.b.cell
      have hg3 := HF2.out.a.b.lt
      clear ho4 hb4
      go_wp2_with fail
      refine (same_yes A3 A2 ys.length ys.length c3 q2 ys ys _ (rd_own HO3.out) (rd_own HF2.out.a.b.own) rfl rfl (by omega) (by omega) rfl).mono ?_
      rintro e w9 ⟨rfl, nn, rfl⟩
      have HF3 := Lib.hid (HF2.out.below (below_drewN (Below.refl _ _) nn))
      have HO4 := Lib.hid (own_below HO2.out (below_drewN (Below.refl _ _) nn))
      have hcell4 := cell_of_one HF3.out.a.b.cell
      have hg4 := HF3.out.a.b.lt
      go_wp2_with fail
      refine (same_yes A4 A2 ys.length ys.length c4 q2 ys ys _ (rd_own HO4.out) (rd_own HF3.out.a.b.own) rfl rfl (by omega) (by omega) rfl).mono ?_
      rintro e w9 ⟨rfl, nm, rfl⟩
      have HF4 := Lib.hid (HF3.out.below (below_drewN (Below.refl _ _) nm))
      go_wp2_with (go_at_call 41; refine (len_none _).mono ?_; rintro e w9 ⟨rfl, rfl⟩)
      go_ret
      exact ⟨by simp, below_drewN HF2.out.be (nn + nm)⟩

theorem octetWriter_walk (A0 : Option Addr) (c0 : Nat) (b0 : List Stp) (w : World) (c0l : b0.length ≤ c0) (r0 : RdS w A0 b0) (y0 : ∀ x ∈ b0, x.Ok) (l0 : b0.length * 32 ≤ 140737488351232) :
    Calls Try.prog 10 #[.slice A0 b0.length c0] w fun e w' => e = .returned (.bool true) ∧ Below w.heap.size w w' := by
  by_cases h : 2147483647 < stSum b0
  · exact octetWriter_beyond A0 c0 b0 w c0l r0 y0 l0 h
  · exact octetWriter_main A0 c0 b0 w c0l r0 y0 l0 (by omega)
end Go.Proofs.Ytfgjlplfpjfnoaa
