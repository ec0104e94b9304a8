/- The walk of WireRoom. -/
import Derived.Test.YtljfmcgeiceagaaDoorWorks
import Derived.Test.YtljfmcgeiceagaaDoorRsEnc2
import Derived.Test.YtljfmcgeiceagaaDoorF5
import Derived.Deep.CutRange
namespace Go.Proofs.YtljfmcgeiceagaaDoor
open Go Go.RowKit
set_option linter.unusedVariables false
set_option linter.unusedSimpArgs false

theorem r64_lit (x : Int) (h1 : -9223372036854775808 ≤ x) (h2 : x ≤ 9223372036854775807) : r64 x := ⟨h1, h2⟩
theorem rsize_chk {x : Rc} (h : rsize x ≠ 0) : chk x = 0 := by
  by_cases h0 : chk x = 0
  · exact h0
  · exact absurd (by unfold rsize; rw [renc_bad h0]; rfl) h
theorem chk_rsize {x : Rc} (h : rsize x = 0) : chk x ≠ 0 := by
  intro h0
  unfold rsize at h
  rw [renc_ok h0] at h
  simp only [wrap_length] at h
  omega
theorem ftN_sum : ∀ (l : List Rc) (left : Nat), ((l.take (ftN l left)).flatMap encs).length ≤ left ∧ (∀ x ∈ l.take (ftN l left), chk x = 0) ∧ ftN l left ≤ left ∧ ((l.take (ftN l left)).flatMap encs).length ≤ ftN l left * 1124 ∧ (∀ x, l[ftN l left]? = some x → rsize x = 0 ∨ left < ((l.take (ftN l left)).flatMap encs).length + rsize x)
  | [], left => by simp [ftN]
  | x :: r, left => by
    unfold ftN
    by_cases h : rsize x = 0 ∨ left < rsize x
    · rw [if_pos h]
      refine ⟨by simp, by simp, Nat.zero_le _, by simp, fun y hy => ?_⟩
      simp only [List.getElem?_cons_zero, Option.some.injEq] at hy
      subst hy
      simpa using h
    · rw [if_neg h]
      obtain ⟨h1, h2, h3, h4, h5⟩ := ftN_sum r (left - rsize x)
      have hx := rsize_le x
      have he : (encs x).length = rsize x := rfl
      rw [Nat.add_comm 1, List.take_succ_cons, List.flatMap_cons, List.length_append, he]
      refine ⟨by omega, fun y hy => ?_, by omega, by omega, fun y hy => ?_⟩
      · rcases List.mem_cons.1 hy with rfl | hy
        · exact rsize_chk (fun e => h (.inl e))
        · exact h2 y hy
      · rw [List.getElem?_cons_succ] at hy
        rcases h5 y hy with h6 | h6
        · exact .inl h6
        · exact .inr (by omega)
theorem room_ok {l : List Rc} {F i id : Nat} {off num : Int} {more : Bool} (hF : F = ftN l 4051) (hi : i ≤ F) (hid : id < 4294967296) (ho : r64 off) (hu : r64 num) : (renp ⟨id, 64, 11, off, num, more, [], l.take i⟩).2 = 0 := by
  obtain ⟨h1, h2, h3, _⟩ := ftN_sum l 4051
  rw [← hF] at h1 h2 h3
  have ht : l.take i = (l.take F).take i := by rw [List.take_take, Nat.min_eq_left hi]
  have hm : MayP ⟨id, 64, 11, off, num, more, [], l.take i⟩ := ⟨⟨Or.inr rfl, by show (0 : Int) ≤ 11; omega, by show (11 : Int) ≤ 11; omega, by simp⟩, by simp, fun r hr => h2 r (by simp only at hr; rw [ht] at hr; exact List.mem_of_mem_take hr)⟩
  rw [renp_yes hm]
  have hk : Rp.Nm ⟨id, 64, 11, off, num, more, [], l.take i⟩ := ⟨hid, r64_lit 64 (by omega) (by omega), r64_lit 11 (by omega) (by omega), ho, hu⟩
  have hh := headp_len hk (by simp)
  have hf := flat_take_le (f := encs) (l.take F) i
  rw [← ht] at hf
  have hn : (l.take i).length ≤ 4051 := by rw [List.length_take]; omega
  have hv : (Uv.uv (l.take i).length).length ≤ 2 := Uv.uv_len_pow 1 _ (by omega)
  have hlen : (bdyp ⟨id, 64, 11, off, num, more, [], l.take i⟩).length ≤ 4087 := by
    unfold bdyp
    simp only [List.length_append, List.flatMap_nil, List.length_nil]
    omega
  have hpos : 0 < (bdyp ⟨id, 64, 11, off, num, more, [], l.take i⟩).length := by
    unfold bdyp headp
    simp only [List.length_append, List.length_cons]
    omega
  unfold frm
  rw [if_neg (by omega), if_neg (by omega)]
theorem room_last {l : List Rc} {F : Nat} {x : Rc} (hF : F = ftN l 4051) (h3 : F < 3) (hx : l[F]? = some x) : (renp ⟨0, 64, 0, 0, 0, false, [], [x]⟩).2 = 162 := by
  obtain ⟨_, _, _, h4, h5⟩ := ftN_sum l 4051
  rw [← hF] at h4 h5
  have hs := rsize_le x
  have h0 : rsize x = 0 := by
    rcases h5 x hx with h | h
    · exact h
    · omega
  rw [renp_no (fun h => chk_rsize h0 (h.recs x (by simp)))]
theorem Rd.rec1 {w : World} {g off : Nat} {l : List Rc} (h : Rd w (some ⟨g, off, none⟩) (rcCells l)) {k : Nat} {x : Rc} (hk : l[k]? = some x) : Rd w (some ⟨g, off + k * 7, none⟩) (rcCells [x]) := by
  obtain ⟨g', off', e, hg, z0, z1, z2, z3, z4, z5, z6⟩ := h.rec hk
  simp only [Option.some.injEq, Addr.mk.injEq, and_true] at e
  obtain ⟨rfl, rfl⟩ := e
  refine fun _ => ⟨g, off + k * 7, rfl, hg, fun j u hj => ?_⟩
  have hj7 : j < 7 := by have := (List.getElem?_eq_some_iff.1 hj).1; simpa [rcCells, Rc.cells] using this
  match j, hj7 with
  | 0, _ => simp [rcCells, Rc.cells] at hj; subst hj; exact z0
  | 1, _ => simp [rcCells, Rc.cells] at hj; subst hj; exact z1
  | 2, _ => simp [rcCells, Rc.cells] at hj; subst hj; exact z2
  | 3, _ => simp [rcCells, Rc.cells] at hj; subst hj; exact z3
  | 4, _ => simp [rcCells, Rc.cells] at hj; subst hj; exact z4
  | 5, _ => simp [rcCells, Rc.cells] at hj; subst hj; exact z5
  | 6, _ => simp [rcCells, Rc.cells] at hj; subst hj; exact z6
set_option maxHeartbeats 4000000 in
set_option maxRecDepth 100000 in
theorem wireRoom_walk (A0 : Option Addr) (c0 : Nat) (b0 : List Rc) (a1 : Nat) (a2 : Int) (a3 : Int) (a4 : Bool) (w : World) (ht : Tab w) (c0l : b0.length ≤ c0) (r0 : Rd w A0 (rcCells b0)) (y0 : ∀ x ∈ b0, x.Ok) (l0 : b0.length * 72 ≤ 140737488351232) (w1 : a1 < 4294967296) (w2 : -9223372036854775808 ≤ a2 ∧ a2 ≤ 9223372036854775807) (w3 : -9223372036854775808 ≤ a3 ∧ a3 ≤ 9223372036854775807) :
    Calls Tryd.prog 7 #[.slice A0 b0.length c0, .int .u32 (a1 : Int), .int .i64 a2, .int .i64 a3, .bool a4] w fun e w' => e = .returned (.bool true) ∧ Below w.heap.size w w' := by
  obtain ⟨n, hn⟩ : ∃ n, b0.length = n := ⟨_, rfl⟩
  have PFT := Lib.hid (fits_is A0 b0.length c0 b0 w r0 rfl (by omega))
  obtain ⟨F, hF⟩ : ∃ F, F = ftN b0 4051 := ⟨_, rfl⟩
  rw [← hF] at PFT
  have hFn : F ≤ n := by rw [hF, ← hn]; exact ftN_le _ _
  have hF4 : F ≤ 4051 := by rw [hF]; exact (ftN_sum b0 4051).2.2.1
  have htot : ∀ i, i ≤ F → ((b0.take i).flatMap encs).length ≤ 4051 := fun i hi => by
    have h1 := (ftN_sum b0 4051).1
    rw [← hF] at h1
    have h2 := flat_take_le (f := encs) (b0.take F) i
    rw [List.take_take, Nat.min_eq_left hi] at h2
    omega
  have PEN := Lib.hid (fun i W (hi : i ≤ F) (hb : Below w.heap.size w W) => encodep_is ⟨a1, 64, 11, a2, a3, a4, [], b0.take i⟩ none A0 0 i 0 c0 W (Rd.nil_ _ _) rfl (by rw [rcCells_take]; exact (r0.below hb).take_ _) (by simp only [List.length_take]; omega) ⟨w1, r64_lit 64 (by omega) (by omega), r64_lit 11 (by omega) (by omega), w2, w3⟩ (by omega) (by omega) (Nat.le_trans (htot i hi) (by omega)))
  have HOK := Lib.hid (fun i (hi : i ≤ F) => room_ok (more := a4) hF hi w1 w2 w3)
  have PLA := Lib.hid (fun g off x W (hx : b0[F]? = some x) (hb : Below w.heap.size w W) (hA : A0 = some ⟨g, off, none⟩) => checkp_is ⟨0, 64, 0, 0, 0, false, [], [x]⟩ none (some ⟨g, off + F * 7, none⟩) 0 1 0 (c0 - F) W (Rd.nil_ _ _) rfl ((hA ▸ r0.below hb).rec1 hx) rfl ⟨by show 0 < 4294967296; omega, r64_lit 64 (by omega) (by omega), r64_lit 0 (by omega) (by omega), r64_lit 0 (by omega) (by omega), r64_lit 0 (by omega) (by omega)⟩ (by omega) (by omega) (by have := rsize_le x; unfold rsize at this; simp only [List.flatMap_cons, List.flatMap_nil, List.append_nil, encs]; omega))
  have HLA := Lib.hid (fun x (h3 : F < 3) (hx : b0[F]? = some x) => room_last hF h3 hx)
  have HGET : Hid (∀ (h : F < n), ∃ x g off, b0[F]? = some x ∧ A0 = some ⟨g, off, none⟩) := Lib.hid (fun h => by
    obtain ⟨x, hx⟩ : ∃ x, b0[F]? = some x := ⟨_, List.getElem?_eq_getElem (by rw [hn]; exact h)⟩
    obtain ⟨g, off, e, _⟩ := r0.rec hx
    exact ⟨x, g, off, hx, e⟩)
  unfold FramePost at PEN
  unfold Rp.V at PEN PLA
  have HT := Lib.hid ht
  rw [hn] at c0l PFT ⊢
  clear hF htot r0 y0 l0 w1 w2 w3 ht hn
  go_enter Tryd.func7, Tryd.ntmps7
  go_wp2_with fail
  refine PFT.out.mono ?_
  rintro e w1 ⟨rfl, hb1⟩
  have B1 := Lib.hid hb1
  clear hb1 PFT
  go_wp2_with fail
  refine (works16_is w1 (HT.out.bel B1.out)).mono ?_
  rintro e w2 ⟨rfl, hb2⟩
  have B2 := Lib.hid (B1.out.trans (hb2.mono B1.out.size))
  clear hb2 B1
  have i0 : decide ((F : Int) < 0) = false := decide_eq_false (by omega)
  have i1 : decide (n < F) = false := decide_eq_false (by omega)
  go_wp2_with fail
  go_loopw [12] (fun i wr => ∃ j : Nat, j ≤ F + 1 ∧ i = .int .i64 j ∧ Below w.heap.size w wr) (fun i _ => F + 1 - (intOf i).toNat)
  case atStart => exact ⟨0, Nat.zero_le _, rfl, B2.out⟩
  case round =>
    obtain ⟨j, hj, rfl, hb⟩ := hrel
    have BW := Lib.hid hb
    clear hb B2
    by_cases hlt : j ≤ F
    · have e0 : (0 : Int) ≤ (j : Int) := by omega
      have e1 : (j : Int) ≤ (F : Int) := by omega
      have e2 : (j : Int) ≤ (c0 : Int) := by omega
      have PE := PEN.out j wr hlt BW.out
      rw [HOK.out j hlt] at PE
      go_wp2_with fail
      refine PE.mono ?_
      rintro e w3 ⟨A3, c3, rfl, ho3, hb3⟩
      have B3 := Lib.hid (BW.out.trans (hb3.mono BW.out.size))
      clear ho3 hb3 PE
      go_wp2_with fail
      go_roundw
      case rel => exact ⟨j + 1, by omega, by go_num, B3.out⟩
      case measure => simp [intOf]; omega
    · have e1 : ¬ (j : Int) ≤ (F : Int) := by omega
      clear hlt hj
      by_cases hFn2 : F < n
      · have e2 : (F : Int) < (n : Int) := by omega
        by_cases h3 : F < 3
        · have e3 : (F : Int) < 3 := by omega
          obtain ⟨x, g, off, hx, rfl⟩ := HGET.out hFn2
          have PL := PLA.out g off x wr hx BW.out rfl
          rw [HLA.out x h3 hx] at PL
          have e4 : (0 : Int) ≤ (F : Int) := by omega
          have e5 : (F : Int) + 1 ≤ (c0 : Int) := by omega
          have e6 : (F : Int) ≤ (F : Int) + 1 := by omega
          have PLH := Lib.hid PL
          clear PL hx
          go_wp2_with fail
          refine PLH.out.mono ?_
          rintro e w3 ⟨rfl, hb3⟩
          have B3 := Lib.hid (BW.out.trans (hb3.mono BW.out.size))
          clear hb3 PLH
          go_wp2_with fail
          go_ret
          exact ⟨rfl, B3.out⟩
        · have e3 : ¬ (F : Int) < 3 := by omega
          go_wp2_with fail
          go_ret
          exact ⟨rfl, BW.out⟩
      · have e2 : ¬ (F : Int) < (n : Int) := by omega
        go_wp2_with fail
        go_ret
        exact ⟨rfl, BW.out⟩
end Go.Proofs.YtljfmcgeiceagaaDoor
