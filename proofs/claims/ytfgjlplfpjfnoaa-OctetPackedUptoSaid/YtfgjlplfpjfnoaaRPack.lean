/- Pack, the document's; sameItems. -/
import Derived.Test.YtfgjlplfpjfnoaaPut
namespace Go.Proofs.Ytfgjlplfpjfnoaa
open Go Go.RowKit
set_option linter.unusedVariables false
set_option linter.unusedSimpArgs false

set_option maxHeartbeats 400000 in
set_option maxRecDepth 100000 in
theorem rpack_is (A : Option Addr) (c n : Nat) (l : List Stp) (w : World) (hr : RdS w A l) (hn : l.length = n) (hc : n ≤ c) (hl : n * 32 ≤ 140737488351232) (ha : ∀ x ∈ l, x.Ok) (hs : stSum l ≤ 2147483647) :
    Calls Try.prog 47 #[.slice A n c] w (PackPost w l) := by
  have HN := Lib.hid hn
  have HR := Lib.hid hr
  have HA := Lib.hid ha
  have HS := Lib.hid hs
  clear hn hr ha hs
  go_enter Try.func47, Try.ntmps47
  go_wp2
  go_loopw [4, 5] (fun b i wr => ∃ (k : Nat) (v : Value), k ≤ n ∧ i = .int .i64 k ∧ b = v ∧ Hid (wr.ownsRow w.heap.size 5 1 v (itemsOut (l.take k)).length (b8 (itemsOut (l.take k)))) ∧ Hid ((l.take k).all Stp.fits = true) ∧ Hid (Below w.heap.size w wr))
    (fun _ i _ => n - (intOf i).toNat)
  case atStart => exact ⟨0, _, Nat.zero_le _, rfl, rfl, Lib.hid (World.ownsRow_nil _ _ _ _), Lib.hid (by simp), Lib.hid (Below.refl _ _)⟩
  case round =>
    obtain ⟨k, v, hk, rfl, rfl, HW, HF, HB⟩ := hrel
    have hlw := HB.out.size
    by_cases hlt : k < n
    · obtain ⟨x, hx⟩ : ∃ x, l[k]? = some x := ⟨_, List.getElem?_eq_getElem (by rw [HN.out]; exact hlt)⟩
      obtain ⟨g, off, rfl, hg, hcell⟩ := HR.out (by rintro rfl; simp at hx)
      obtain ⟨d0, d1, d2⟩ := hcell k x hx
      have c0 := (HB.out.cell (p := ⟨g, off + k * 3, none⟩) hg).trans d0
      have c1 := (HB.out.cell (p := ⟨g, off + k * 3 + 1, none⟩) hg).trans d1
      have c2 := (HB.out.cell (p := ⟨g, off + k * 3 + 2, none⟩) hg).trans d2
      have hglt : g < wr.heap.size := Nat.lt_of_lt_of_le hg hlw
      have HX := Lib.hid (HA.out x (List.mem_of_getElem? hx))
      have HO := Lib.hid (itemsOut_take hx)
      have hlen : (itemsOut (l.take k)).length + 10 + x.s.size ≤ 140737488351232 := by
        have h1 := stSum_take hx
        have h2 := stSum_le l (k + 1)
        have h3 := itemsOut_len (l := l.take k) (fun y hy => HA.out y (List.mem_of_mem_take hy))
        have h4 := HS.out
        omega
      have HG := Lib.hid hx
      have PF := Lib.hid (fun W (hW : wr = W) => put_is w.heap.size _ _ x W (hW ▸ HW.out) (hW ▸ hlw) HX.out hlen)
      clear d0 d1 d2 hcell hx
      unfold PutPost at PF
      by_cases hfit : x.fits = true
      · have HK := Lib.hid (fits_take HG.out HF.out hfit)
        rw [hfit] at PF
        go_wp2_with (go_at_call 83; refine (PF.out _ rfl).mono ?_; rintro e wf ⟨v2, rfl, hbf, hof⟩; have HBF := Lib.hid (HB.out.trans hbf); have HWF := Lib.hid (hof rfl); clear hbf hof)
        go_roundw
        case rel => exact ⟨k + 1, v2, by omega, by go_num, rfl, Lib.hid (by rw [HO.out]; exact HWF.out), HK, HBF⟩
        case measure => simp [intOf]; omega
      · have hff : x.fits = false := by simpa using hfit
        rw [hff] at PF
        have HP := Lib.hid (pk_not HG.out hff)
        clear hff hfit
        go_wp2_with (go_at_call 83; refine (PF.out _ rfl).mono ?_; rintro e wf ⟨v2, rfl, hbf, _⟩; have HBF := Lib.hid (HB.out.trans hbf); clear hbf)
        go_ret2
        unfold PackPost
        rw [HP.out]
        exact ⟨none, 0, rfl, World.ownsRow_nil _ _ _ _, HBF.out⟩
    · have hkn : k = n := by omega
      subst hkn
      have hout : l.take k = l := List.take_of_length_le (by rw [HN.out]; omega)
      rw [hout] at HW HF
      have HP := Lib.hid (pk_all HF.out)
      clear hout
      go_wp2
      go_ret2
      unfold PackPost
      rw [HP.out]
      obtain ⟨A3, c3, rfl, _⟩ := own_shape HW.out
      exact ⟨A3, c3, rfl, HW.out, HB.out⟩

set_option maxHeartbeats 400000 in
set_option maxRecDepth 100000 in
/-- The same items, both read. -/
theorem sameItems_yes (A B : Option Addr) (c d n : Nat) (l : List Stp) (w : World) (hr : RdS w A l) (hs : RdS w B l) (hn : l.length = n) (hc : n ≤ c) (hd : n ≤ d) (hl : n * 32 ≤ 140737488351232) :
    Calls Try.prog 48 #[.slice A n c, .slice B n d] w fun e w' => e = .returned (.bool true) ∧ ∃ m, w' = w.drewN m := by
  have HN := Lib.hid hn
  have HR := Lib.hid hr
  have HS := Lib.hid hs
  clear hn hr hs
  go_enter Try.func48, Try.ntmps48
  go_wp2
  go_loopw [5] (fun i wr => ∃ k m : Nat, k ≤ n ∧ i = .int .i64 k ∧ wr = w.drewN m) (fun i _ => n - (intOf i).toNat)
  case atStart => exact ⟨0, 0, Nat.zero_le _, rfl, rfl⟩
  case round =>
    obtain ⟨k, m, hk, rfl, rfl⟩ := hrel
    by_cases hlt : k < n
    · obtain ⟨x, hx⟩ : ∃ x, l[k]? = some x := ⟨_, List.getElem?_eq_getElem (by rw [HN.out]; exact hlt)⟩
      obtain ⟨g, off, rfl, hg, hcell⟩ := HR.out (by rintro rfl; simp at hx)
      obtain ⟨c0, c1, c2⟩ := hcell k x hx
      obtain ⟨g', off', rfl, hg', hcell'⟩ := HS.out (by rintro rfl; simp at hx)
      obtain ⟨d0, d1, d2⟩ := hcell' k x hx
      have i0 : (0 : Int) ≤ (k : Int) := by omega
      have i1 : (k : Int) < (n : Int) := by omega
      clear hcell hcell' hx
      go_wp2
      go_quiet (fail)
      go_wp2
      go_roundw
      case rel => exact ⟨k + 1, _, by omega, by go_num, rfl⟩
      case measure => simp [intOf]; omega
    · go_wp2
      go_ret
      exact ⟨rfl, m, rfl⟩
end Go.Proofs.Ytfgjlplfpjfnoaa
