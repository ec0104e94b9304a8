/- The walk of WireHeads. -/
import Derived.Test.YtljfmcgeiceagaaDoorWorks
import Derived.Test.YtljfmcgeiceagaaDoorF1
namespace Go.Proofs.YtljfmcgeiceagaaDoor
open Go Go.RowKit
set_option linter.unusedVariables false
set_option linter.unusedSimpArgs false

theorem headD_take {l : List Nat} {k d : Nat} (hk : 0 < k) : (l.take k).headD d = l.headD d := by
  cases k with
  | zero => omega
  | succ k => cases l <;> rfl
theorem hd_take_lo {body : List Nat} {k : Nat} (hk : k < 5) : hd ((wrap 197 body).take k) = (0, 10) := by
  have hl : ((wrap 197 body).take k).length < 5 := by rw [List.length_take]; omega
  unfold hd
  rw [if_neg, if_pos hl]
  rintro ⟨h1, h2⟩
  have h0 : 0 < k := by rw [List.length_take] at h1; omega
  rw [headD_take h0, (wrap_parts 197 body).1] at h2
  exact h2 rfl
theorem hd_take_hi {body : List Nat} {k : Nat} (h1 : 0 < body.length) (h2 : body.length ≤ 4087) (hk : 5 ≤ k) (hk2 : k ≤ (wrap 197 body).length) : hd ((wrap 197 body).take k) = (((wrap 197 body).length : Int), 0) := by
  have hl := wrap_length 197 body
  have e1 : (((wrap 197 body).take k).drop 1).take 4 = ((wrap 197 body).drop 1).take 4 := by rw [List.drop_take, List.take_take]; congr 1; omega
  have e2 : ((wrap 197 body).take k).headD 0 = 197 := by rw [headD_take (by omega)]; exact (wrap_parts 197 body).1
  have e3 : ((wrap 197 body).take k).length = k := by rw [List.length_take]; omega
  have hv : val (((wrap 197 body).drop 1).take 4) = body.length := by rw [(wrap_parts 197 body).2.1, val_fx (by omega)]
  unfold hd
  rw [e1, e2, e3, hv, hl]
  rw [if_neg (by omega), if_neg (by omega), if_neg (by omega), if_neg (by omega)]
  congr 1
  omega
theorem frm_cases (b : List Nat) : (0 < b.length ∧ b.length ≤ 4087 ∧ frm b = (wrap 197 b, 0)) ∨ (frm b).2 ≠ 0 := by
  unfold frm
  by_cases h1 : b.length = 0
  · rw [if_pos h1]; right; simp
  · rw [if_neg h1]
    by_cases h2 : 4087 < b.length
    · rw [if_pos h2]; right; simp
    · rw [if_neg h2]; left; exact ⟨by omega, by omega, rfl⟩
theorem rd_take8 {w : World} {A : Option Addr} {b : List Nat} (h : Rd w A (b8 b)) (k : Nat) : Rd w A (b8 (b.take k)) := by
  have := h.take_ k
  unfold b8 at this ⊢
  rwa [← List.map_take] at this
set_option maxHeartbeats 2000000 in
set_option maxRecDepth 100000 in
theorem wireHeads_walk (A0 : Option Addr) (c0 : Nat) (b0 : List Nat) (w : World) (ht : Tab w) (c0l : b0.length ≤ c0) (r0 : Rd w A0 (b8 b0)) (y0 : By b0) (l0 : b0.length ≤ 140737488351232) :
    Calls Tryd.prog 6 #[.slice A0 b0.length c0] w fun e w' => e = .returned (.bool true) ∧ Below w.heap.size w w' := by
  have PF := Lib.hid (frame_is A0 b0.length c0 b0 w r0 rfl y0 l0)
  have HR0 := Lib.hid r0
  have HT := Lib.hid ht
  rcases frm_cases b0 with ⟨h1, h2, hf⟩ | hf
  · rw [hf] at PF
    have hX := wrap_length 197 b0
    have hlo := fun k (hk : k < 5) => hd_take_lo (body := b0) hk
    have hhi := fun k (hk : 5 ≤ k) (hk2 : k ≤ (wrap 197 b0).length) => hd_take_hi h1 h2 hk hk2
    have hbd := bd_wrap y0 h1 h2
    have hby : By (wrap 197 b0) := wrap_by (by omega) y0
    obtain ⟨X, hXX⟩ : ∃ X, X = wrap 197 b0 := ⟨_, rfl⟩
    rw [← hXX] at PF hX hlo hhi hbd hby
    obtain ⟨n, hn⟩ : ∃ n, X.length = n := ⟨_, rfl⟩
    have HN := Lib.hid hn
    rw [hn] at hX hhi
    obtain ⟨m, hm⟩ : ∃ m, b0.length = m := ⟨_, rfl⟩
    have HM := Lib.hid hm
    rw [hm] at hX h1 h2 l0 c0l PF ⊢
    have hn0 : 10 ≤ n := by omega
    have hn1 : n ≤ 4096 := by omega
    clear hX
    unfold FramePost at PF
    simp only [HN.out] at PF
    have PH := Lib.hid (fun A c k W (h : Rd W A (b8 X)) (hk : k ≤ n) (hc : n ≤ c) => head_is A k c (X.take k) W (rd_take8 h k) (by rw [List.length_take, HN.out]; omega) (by omega) (fun x hx => hby x (List.mem_of_mem_take hx)) (by omega))
    unfold HeadPost at PH
    have PB := Lib.hid (fun A c W (h : Rd W A (b8 X)) (hc : n ≤ c) => body_is A n c X W h hn hc hby (by omega))
    rw [hbd] at PB
    unfold FramePost at PB
    simp only [hm] at PB
    have HLO := Lib.hid hlo
    have HHI := Lib.hid hhi
    clear r0 y0 hf hXX hlo hhi hbd hby hn ht hm
    go_enter Tryd.func6, Tryd.ntmps6
    go_wp2_with fail
    refine PF.out.mono ?_
    rintro e w1 ⟨A1, c1, rfl, ho1, hb1⟩
    obtain ⟨g, rfl, hg0, hg1, hgc, _⟩ := own_pos ho1 (by omega)
    have HO1 := Lib.hid (rd_own ho1)
    have HB1 := Lib.hid hb1
    clear ho1 hb1 PF
    go_wp2_with fail
    go_loopw [5] (fun i wr => ∃ k : Nat, i = .int .i64 k ∧ k ≤ n + 1 ∧ Below w1.heap.size w1 wr) (fun i _ => n + 1 - (intOf i).toNat)
    case atStart => exact ⟨0, rfl, by omega, Below.refl _ _⟩
    case round =>
      obtain ⟨k, rfl, hk, hbel⟩ := hrel
      have HBEL := Lib.hid hbel
      clear hbel
      by_cases hkn : k ≤ n
      · have i0 : (0 : Int) ≤ (k : Int) := by omega
        have i1 : (k : Int) ≤ (n : Int) := by omega
        have i2 : (k : Int) ≤ (c1 : Int) := by omega
        have P := Lib.hid (PH.out (some ⟨g, 0, none⟩) c1 k wr (HO1.out.below HBEL.out) hkn hgc)
        by_cases h5 : k < 5
        · rw [HLO.out k h5] at P
          have d1 : decide ((k : Int) < 5) = true := decide_eq_true (by omega)
          have d2 : decide ((5 : Int) ≤ (k : Int)) = false := decide_eq_false (by omega)
          clear h5
          go_wp2_with fail
          refine P.out.mono ?_
          rintro e w2 ⟨rfl, hb2⟩
          have HB2 := Lib.hid (HBEL.out.trans (hb2.mono HBEL.out.size))
          clear hb2 P
          go_wp2_with fail
          go_roundw
          case rel => exact ⟨k + 1, by go_num, by omega, HB2.out⟩
          case measure => simp [intOf]; omega
        · rw [HHI.out k (by omega) hkn] at P
          have d1 : decide ((k : Int) < 5) = false := decide_eq_false (by omega)
          have d2 : decide ((5 : Int) ≤ (k : Int)) = true := decide_eq_true (by omega)
          clear h5
          go_wp2_with fail
          refine P.out.mono ?_
          rintro e w2 ⟨rfl, hb2⟩
          have HB2 := Lib.hid (HBEL.out.trans (hb2.mono HBEL.out.size))
          clear hb2 P
          go_wp2_with fail
          go_roundw
          case rel => exact ⟨k + 1, by go_num, by omega, HB2.out⟩
          case measure => simp [intOf]; omega
      · have hk2 : k = n + 1 := by omega
        have d1 : decide ((k : Int) ≤ (n : Int)) = false := decide_eq_false (by omega)
        have d2 : ¬ (k : Int) ≤ (n : Int) := by omega
        have d3 : (n : Int) < (k : Int) := by omega
        clear hk hk2 PH HLO HHI
        go_wp2_with fail
        refine (PB.out (some ⟨g, 0, none⟩) c1 wr (HO1.out.below HBEL.out) hgc).mono ?_
        rintro e w2 ⟨A2, c2, rfl, ho2, hb2⟩
        have HO2 := Lib.hid (rd_own ho2)
        have HB2 := Lib.hid (HB1.out.trans ((HBEL.out.trans (hb2.mono HBEL.out.size)).mono HB1.out.size))
        clear ho2 hb2 PB HBEL HO1 HB1
        go_wp2_with fail
        refine (same_yes A2 A0 m m c2 c0 b0 b0 w2 HO2.out (HR0.out.below HB2.out) HM.out HM.out (by omega) (by omega) rfl).mono ?_
        rintro e w3 ⟨rfl, k3, rfl⟩
        go_wp2_with fail
        go_ret
        exact ⟨by first | rfl | simp, below_drewN HB2.out _⟩
  · obtain ⟨⟨xs, x⟩, hx⟩ : ∃ p, p = frm b0 := ⟨_, rfl⟩
    rw [← hx] at PF hf
    simp only at hf
    have hx0 : (x != 0) = true := by rw [bne_iff_ne]; exact hf
    unfold FramePost at PF
    simp only at PF
    clear r0 y0 hf hx ht
    go_enter Tryd.func6, Tryd.ntmps6
    go_wp2_with fail
    refine PF.out.mono ?_
    rintro e w1 ⟨A1, c1, rfl, ho1, hb1⟩
    have HB1 := Lib.hid hb1
    clear ho1 hb1 PF
    go_wp2_with fail
    refine (works16_is w1 (HT.out.bel HB1.out)).mono ?_
    rintro e w2 ⟨rfl, hb2⟩
    have HB2 := Lib.hid (HB1.out.trans (hb2.mono HB1.out.size))
    clear hb2
    go_wp2_with fail
    go_ret
    exact ⟨rfl, HB2.out⟩
end Go.Proofs.YtljfmcgeiceagaaDoor
