/- chroniclelaw4.works. -/
import Derived.Test.YtjipebedibjoiaaD2
import Derived.Test.YtjipebedibjoiaaRecRdP
namespace Go.Proofs.Ytjipebedibjoiaa
open Go Go.RowKit
set_option linter.unusedVariables false
set_option linter.unusedSimpArgs false

def wkx : Rc := ⟨1, 5, 300, 0, 0, ⟨#[107]⟩, ⟨#[118]⟩⟩
theorem wkx_may : May wkx := ⟨.inl rfl, by decide, by decide, by decide, by decide, .inl ⟨rfl, rfl⟩, by decide, by decide, by intro h; simp [wkx] at h⟩
theorem wkx_len : (bdy wkx).length = 7 := by
  have hv : sb wkx.val = [118] := rfl
  have hs : (shrt [118]).1.length = 1 := by
    unfold shrt
    rw [if_neg]
    · rfl
    rintro ⟨_, h⟩
    rw [enc_short (by simp)] at h
    have := (blk_bnd (t := [118]) (by simp)).2
    have h' : (blk [118].length (tokens [118])).length < 1 := h
    omega
  have h1 : (Uv.uv 5).length = 1 := uv1 (by omega)
  have h2 : (Uv.uv 300).length = 2 := by rw [Uv.uv_big (by omega), List.length_cons, uv1 (by omega)]
  have h3 : (Uv.uv 1).length = 1 := uv1 (by omega)
  have hn : nums wkx = [] := rfl
  unfold bdy
  rw [hn, hv]
  have e1 : wkx.o.toNat = 5 := rfl
  have e2 : wkx.t.toNat = 300 := rfl
  have e3 : wkx.key.size = 1 := rfl
  have e4 : (sb wkx.key).length = 1 := by rw [sb_length]; rfl
  rw [e1, e2, e3]
  simp only [List.length_append, List.length_cons, List.length_nil, h1, h2, h3, e4, hs]
set_option maxHeartbeats 1000000 in
set_option maxRecDepth 100000 in
theorem works_is (w : World) : Calls Try.prog 39 #[] w fun e w' => e = .returned (.bool true) ∧ Below w.heap.size w w' := by
  have PE := Lib.hid (fun W => recencode_is wkx W)
  rw [renc_ok (may_chk wkx_may)] at PE
  have hl := wrap_length 169 (bdy wkx)
  rw [wkx_len] at hl
  have PD := Lib.hid (fun A c W (hr : Rd W A (b8 (wrap 169 (bdy wkx)))) (hc : 16 ≤ c) => recdecode_is A 16 c (wrap 169 (bdy wkx)) W hr hl hc (wrap_by (by omega) (bdy_by wkx_may)) (by omega))
  have hd := rdec_wrap wkx_may []
  rw [List.append_nil, wkx_len] at hd
  rw [hd] at PD
  unfold DecPost at PD
  obtain ⟨V, hV⟩ : ∃ V, V = wrap 169 (bdy wkx) := ⟨_, rfl⟩
  rw [← hV] at PE PD hl
  unfold Rc.v wkx at PE PD
  simp only at PE PD
  clear hd hV
  go_enter Try.func39, Try.ntmps39
  have BX0 := Lib.hid (RBox.new w wkx)
  have T0 := Lib.hid ((Below.refl w.heap.size w).alloc (Nat.le_refl _) (rcObj wkx))
  go_wp2_with fail
  refine (PE.out _).mono ?_
  rintro e w1 ⟨A1, c1, rfl, ho1, hb1⟩
  simp only [hl] at ho1 ⊢
  obtain ⟨hnc, hcm⟩ := own_cap ho1
  have HO1 := Lib.hid ho1
  have BX1 := Lib.hid (BX0.out.below hb1 (by simp))
  have T1 := Lib.hid (T0.out.trans (hb1.mono (by simp)))
  have hz1 : w.heap.size + 1 ≤ w1.heap.size := by have := hb1.size; simpa using this
  clear ho1 hb1
  go_wp2_with fail
  refine (PD.out A1 c1 w1 (rd_own HO1.out) (by omega)).mono ?_
  rintro e w2 ⟨rfl, hb2⟩
  have BX2 := Lib.hid (BX1.out.below hb2 (by omega))
  have T2 := Lib.hid (T1.out.trans (hb2.mono T1.out.size))
  have hz2 : w.heap.size < w2.heap.size := by have := hb2.size; omega
  clear hb2
  obtain ⟨x0, x1, x2, x3, x4, x5, x6⟩ := BX2.out.facts
  simp only [wkx] at x0 x1 x2 x3 x4 x5 x6
  go_wp2_with fail
  go_ret
  exact ⟨rfl, T2.out.alloc T2.out.size _⟩
end Go.Proofs.Ytjipebedibjoiaa
