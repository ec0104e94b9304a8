/- Write, the document's. -/
import Derived.Test.YtmdpncjffikmiaaSqWr
namespace Go.Proofs.Ytmdpncjffikmiaa
open Go Go.RowKit
set_option linter.unusedVariables false
set_option linter.unusedSimpArgs false

/-- A row that is younger than another one's block. -/
theorem rd_young {w w1 w2 : World} {base : Nat} {A : Option Addr} {n c m : Nat} {xs : List Value} {v : Value} {e e2 : TypeId} {ys : List Value} (hv : w.ownsRow base e 1 v m ys) (h : w1.ownsRow w.heap.size e2 1 (.slice A n c) n xs) (hg : w1.grownBy w2 v.ownBlock) : Rd w2 A xs := by
  refine (rd_own h).grown hg (fun a ha e => ?_)
  obtain ⟨A', c', he, _, _, hb⟩ := own_shape h
  injection he with hA
  have h1 := (hb a (hA.symm.trans ha)).1
  have h2 := (hv.lt _ e.symm).2
  omega

section
variable (A : Option Addr) (n c : Nat) (l : List TkV) (w : World) (hr : Rd w A (tkCells l)) (hn : l.length = n) (hok : ∀ x ∈ l, x.Ok w) (hl : n ≤ 4000000000000)
include hr hn hok hl

set_option maxHeartbeats 2000000 in
set_option maxRecDepth 100000 in
theorem rwrite_is : Calls Try.prog 23 #[.slice A n c] w (Ans8 w (wr (toks l))) := by
  have PE := Lib.hid (rexpand_is A n c l w hr hn hok hl)
  have HC := Lib.hid (exp_code (toks l) [])
  have HL := Lib.hid (exp_len (toks l) [] (by simp))
  obtain ⟨q, hq⟩ : ∃ q, q = exp [] (toks l) := ⟨_, rfl⟩
  have HQ := Lib.hid hq.symm
  rw [← hq] at PE HC HL
  obtain ⟨T, z⟩ := q
  simp only at HC HL
  clear hq
  by_cases hz : z = 0
  · subst hz
    have HW := Lib.hid (wr_ok HQ.out)
    have hf := fine_of_exp HQ.out
    have hT : T.length ≤ 4096 := HL.out
    have hn4 : n ≤ 4096 := by have h := hf.2; simp only [toks, List.length_map, List.length_nil] at h; omega
    have HF : Hid (∀ x ∈ l, Fine x.tk) := Lib.hid (fun x hx => hf.1 _ (List.mem_map.2 ⟨x, hx, rfl⟩))
    have HN := Lib.hid hn
    have HR := Lib.hid hr
    have HOK := Lib.hid hok
    have HU : Hid ((Uv.uv T.length).length ≤ 10) := Lib.hid (Uv.uv_len_64 T.length (by omega))
    have HS0 : Hid (blk T.length (toks l) = Uv.uv T.length ++ ((toks l).drop 0).flatMap bt) := Lib.hid (by rw [List.drop_zero]; rfl)
    obtain ⟨q, hq⟩ : ∃ q, q = blk T.length (toks l) := ⟨_, rfl⟩
    rw [← hq] at HS0 HW
    clear hq hr hn hok hf
    go_enter Try.func23, Try.ntmps23
    go_wp2_with (first
      | (go_at_call 16; refine PE.out.mono ?_; rintro e w1 ⟨A1, c1, rfl, ho1, hb1⟩; have HB1 := Lib.hid hb1; clear ho1 hb1)
      | (go_at_call 50; refine (number_any T.length _ (by omega)).mono ?_; rintro e w2 ⟨A2, c2, rfl, ho2, hb2⟩; have HO2 := Lib.hid (own_mono ho2 HB1.out.size); have HB2 := Lib.hid (HB1.out.trans (hb2.mono HB1.out.size)); clear ho2 hb2))
    go_loopw [6, 7] (fun v i wr => ∃ (k N : Nat) (Y : List Nat), k ≤ n ∧ i = .int .i64 k ∧ Hid (N = Y.length) ∧ N ≤ 10 + k * 4116 ∧ Hid (wr.ownsRow w.heap.size 5 1 v N (b8 Y)) ∧ Hid (q = Y ++ ((toks l).drop k).flatMap bt) ∧ Hid (Below w.heap.size w wr)) (fun _ i _ => n - (intOf i).toNat)
    case atStart => exact ⟨0, _, Uv.uv T.length, Nat.zero_le _, rfl, Lib.hid rfl, by have := HU.out; omega, HO2, HS0, HB2⟩
    case round =>
      clear HO2 HB2 HB1
      obtain ⟨k, N, Y, hk, rfl, HY, hN, HO, HQ2, HB⟩ := hrel
      have hsz := HB.out.size
      by_cases hlt : k < n
      · obtain ⟨x, hx⟩ : ∃ x, l[k]? = some x := ⟨_, List.getElem?_eq_getElem (by rw [HN.out]; exact hlt)⟩
        have HXO := Lib.hid (HOK.out x (List.mem_of_getElem? hx))
        have HXF := Lib.hid (HF.out x (List.mem_of_getElem? hx))
        obtain ⟨g, off, rfl, hg, hc0, hc1, hc2⟩ := HR.out.tok hx
        have HST : Hid (Y ++ ((toks l).drop k).flatMap bt = (Y ++ bt x.tk) ++ ((toks l).drop (k + 1)).flatMap bt) := Lib.hid (blk_drop hx Y)
        have HCC : Hid (∀ W, Below w.heap.size w W → W.cell? ⟨g, off + k * 3, none⟩ = some (.slice x.A x.lit.length x.c) ∧ W.cell? ⟨g, off + k * 3 + 1, none⟩ = some (.int .i64 x.d) ∧ W.cell? ⟨g, off + k * 3 + 2, none⟩ = some (.int .i64 x.l)) :=
          Lib.hid (fun W h => ⟨(h.cell (p := ⟨g, off + k * 3, none⟩) hg).trans hc0, (h.cell (p := ⟨g, off + k * 3 + 1, none⟩) hg).trans hc1, (h.cell (p := ⟨g, off + k * 3 + 2, none⟩) hg).trans hc2⟩)
        clear hc0 hc1 hc2
        have hd64 := HXO.out.d64
        have hl64 := HXO.out.l64
        have HLB := Lib.hid (bt_len HXF.out)
        have HCS := Lib.hid HXF.out.cases
        have HL4 := Lib.hid HXF.out.2
        have hcap := HXO.out.cap
        obtain ⟨xA, xc, lit, d, ll⟩ := x
        simp only at HCC hd64 hl64 hcap
        obtain ⟨hc0, hc1, hc2⟩ := HCC.out _ HB.out
        clear hx
        by_cases h0 : 0 < lit.length
        · have hl4 : lit.length ≤ 4096 := HL4.out
          have HBT : Hid (bt (TkV.tk ⟨xA, xc, lit, d, ll⟩) = Uv.uv (2 * lit.length) ++ lit) := Lib.hid (bt_lit h0)
          obtain ⟨us, hus⟩ : ∃ us, us = Uv.uv (2 * lit.length) := ⟨_, rfl⟩
          have hul : us.length ≤ 10 := by rw [hus]; exact Uv.uv_len_64 _ (by omega)
          have PU := Lib.hid (fun W => number_any (2 * lit.length) W (by omega))
          rw [← hus] at PU HBT
          rw [show ((2 * lit.length : Nat) : Int) = 2 * (lit.length : Int) by omega] at PU
          have HLN : Hid (N + us.length + lit.length ≤ 10 + (k + 1) * 4116) := Lib.hid (by have h1 := HLB.out; rw [HBT.out, List.length_append] at h1; omega)
          clear hus
          go_wp2_with (first
            | (go_at_call 50; go_loud (refine (PU.out _).mono ?_; rintro e w3 ⟨A3, c3, rfl, ho3, hb3⟩; have HO3 := Lib.hid ho3; have HB3 := Lib.hid (HB.out.trans (hb3.mono hsz)); have HOY := Lib.hid (own_below HO.out hb3); have hs3 := hb3.size; obtain ⟨b0, b1, b2⟩ := HCC.out _ HB3.out; clear ho3 hb3))
            | (at_builtin; (refine app8 w3 rfl (.tmp 43) (.tmp 44) (by rfl) w.heap.size _ N Y (by rfl) HOY.out A3 us.length c3 us (by rfl) rfl (rd_own HO3.out) (by omega) (by omega) ?_); intro v4 w4 hown4 hg4 hn4; have HO4 := Lib.hid hown4; have hs4 := hg4.size; have HB4 := Lib.hid (HB3.out.trans (below_of_grown hg4 (by omega) (fun k hk => (HOY.out.lt k hk).1))); obtain ⟨d0, d1, d2⟩ := HCC.out _ HB4.out; clear hown4 hg4 hn4)
            | (at_builtin; (refine app8 w4 rfl (.tmp 46) (.tmp 51) (by rfl) w.heap.size _ (N + us.length) (Y ++ us) (by rfl) HO4.out xA lit.length xc lit (by rfl) rfl (HXO.out.rd.below HB4.out) (by omega) (by omega) ?_); intro v5 w5 hown5 hg5 hn5; have HO5 := Lib.hid hown5; have HB5 := Lib.hid (HB4.out.trans (below_of_grown hg5 (by omega) (fun k hk => (HO4.out.lt k hk).1))); clear hown5 hg5 hn5))
          go_roundw
          case rel => exact ⟨k + 1, _, (Y ++ us) ++ lit, by omega, by go_num, Lib.hid (by have := HY.out; simp; omega), HLN.out, HO5, Lib.hid (by rw [List.append_assoc Y, ← HBT.out]; exact HQ2.out.trans HST.out), HB5⟩
          case measure => simp [intOf]; omega
        · have hdl : 0 ≤ d ∧ d ≤ 2048 ∧ 0 ≤ ll ∧ ll ≤ 258 := by
            rcases HCS.out with h | h
            · exact absurd h.1 h0
            · have h1 : 5 ≤ ll ∧ ll ≤ 258 ∧ 1 ≤ d ∧ d ≤ 2048 := h.2
              omega
          have HBT : Hid (bt (TkV.tk ⟨xA, xc, lit, d, ll⟩) = Uv.uv (2 * ll.toNat + 1) ++ Uv.uv d.toNat) := Lib.hid (bt_match h0)
          obtain ⟨us, hus⟩ : ∃ us, us = Uv.uv (2 * ll.toNat + 1) := ⟨_, rfl⟩
          have hul : us.length ≤ 10 := by rw [hus]; exact Uv.uv_len_64 _ (by omega)
          have PU := Lib.hid (fun W => number_any (2 * ll.toNat + 1) W (by omega))
          rw [← hus] at PU HBT
          rw [show ((2 * ll.toNat + 1 : Nat) : Int) = 2 * ll + 1 by omega] at PU
          obtain ⟨ds, hds⟩ : ∃ ds, ds = Uv.uv d.toNat := ⟨_, rfl⟩
          have hdlen : ds.length ≤ 10 := by rw [hds]; exact Uv.uv_len_64 _ (by omega)
          have PD := Lib.hid (fun W => number_any d.toNat W (by omega))
          rw [← hds] at PD HBT
          rw [show ((d.toNat : Nat) : Int) = d by omega] at PD
          have HLN : Hid (N + us.length + ds.length ≤ 10 + (k + 1) * 4116) := Lib.hid (by have h1 := HLB.out; rw [HBT.out, List.length_append] at h1; omega)
          clear hus hds
          go_wp2_with fail
          with_reducible refine (PU.out _).mono ?_
          rintro e w3 ⟨A3, c3, rfl, ho3, hb3⟩
          have HO3 := Lib.hid ho3
          have HB3 := Lib.hid (HB.out.trans (hb3.mono hsz))
          have HOY := Lib.hid (own_below HO.out hb3)
          have hs3 := hb3.size
          clear hc0 hc1 hc2 ho3 hb3
          obtain ⟨hc0, hc1, hc2⟩ := HCC.out _ HB3.out
          go_wp2_with fail
          with_reducible refine (PD.out _).mono ?_
          rintro e w6 ⟨A6, c6, rfl, ho6, hb6⟩
          have HO6 := Lib.hid ho6
          have HB6 := Lib.hid (HB3.out.trans (hb6.mono (by omega)))
          have HOZ := Lib.hid (own_below HOY.out hb6)
          have HOU := Lib.hid (own_below HO3.out hb6)
          have hs6 := hb6.size
          clear hc0 hc1 hc2 ho6 hb6
          go_wp2_with (first
            | (at_builtin; (refine app8 w6 rfl (.tmp 67) (.tmp 68) (by rfl) w.heap.size _ N Y (by rfl) HOZ.out A3 us.length c3 us (by rfl) rfl (rd_own HOU.out) (by omega) (by omega) ?_); intro v4 w4 hown4 hg4 hn4; have HO4 := Lib.hid hown4; have HR4 := Lib.hid (rd_young HOY.out HO6.out hg4); have hs4 := hg4.size; have HB4 := Lib.hid (HB6.out.trans (below_of_grown hg4 (by omega) (fun k hk => (HOZ.out.lt k hk).1))); clear hown4 hg4 hn4)
            | (at_builtin; (refine app8 w4 rfl (.tmp 70) (.tmp 71) (by rfl) w.heap.size _ (N + us.length) (Y ++ us) (by rfl) HO4.out A6 ds.length c6 ds (by rfl) rfl HR4.out (by omega) (by omega) ?_); intro v5 w5 hown5 hg5 hn5; have HO5 := Lib.hid hown5; have HB5 := Lib.hid (HB4.out.trans (below_of_grown hg5 (by omega) (fun k hk => (HO4.out.lt k hk).1))); clear hown5 hg5 hn5))
          go_roundw
          case rel => exact ⟨k + 1, _, (Y ++ us) ++ ds, by omega, by go_num, Lib.hid (by have := HY.out; simp; omega), HLN.out, HO5, Lib.hid (by rw [List.append_assoc Y, ← HBT.out]; exact HQ2.out.trans HST.out), HB5⟩
          case measure => simp [intOf]; omega
      · have HQF : Hid (Y = q) := Lib.hid (by rw [HQ2.out, List.drop_of_length_le (by simp [toks, HN.out]; omega)]; simp)
        have HNQ : Hid (N = q.length) := Lib.hid (by rw [← HQF.out]; exact HY.out)
        have HOQ : Hid (wr.ownsRow w.heap.size 5 1 u6 N (b8 q)) := Lib.hid (by rw [← HQF.out]; exact HO.out)
        go_wp2_with fail
        go_ret2
        exact ans8_some _ _ _ q _ N _ HW.out HNQ.out HOQ.out HB.out
  · have HW := Lib.hid (wr_bad HQ.out hz)
    clear hr hn hok
    go_enter Try.func23, Try.ntmps23
    go_wp2_with (first
      | (go_at_call 16; refine PE.out.mono ?_; rintro e w1 ⟨A1, c1, rfl, ho1, hb1⟩; have HB1 := Lib.hid hb1; clear ho1 hb1))
    go_ret2
    exact ans8_none _ _ _ _ HW.out HB1.out
end
end Go.Proofs.Ytmdpncjffikmiaa
