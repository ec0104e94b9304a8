/- Scan: the program (printed by gen_rcscan.py). -/
import Derived.Test.YtjipebedibjoiaaRecRow
import Derived.Test.YtjipebedibjoiaaRecScP
import Derived.BigQuiet
namespace Go.Proofs.Ytjipebedibjoiaa
open Go Go.RowKit
set_option linter.unusedVariables false
set_option linter.unusedSimpArgs false

def ScanPost (w : World) (q : List Rc × Nat × Nat) (e : Ending) (w' : World) : Prop :=
  ∃ A c, e = .returned (.tuple #[.slice A q.1.length c, .int .i64 (q.2.1 : Int), .int .i64 (q.2.2 : Int)]) ∧ w'.ownsRow w.heap.size 31 7 (.slice A q.1.length c) q.1.length (rcCells q.1) ∧ Below w.heap.size w w'
theorem scanpost_mk {w W : World} {q : List Rc × Nat × Nat} {acc : List Rc} {p z : Nat} {A : Option Addr} {c n : Nat} (hq : q = (acc, p, z)) (hn : n = acc.length) (ho : W.ownsRow w.heap.size 31 7 (.slice A n c) n (rcCells acc)) (hb : Below w.heap.size w W) : ScanPost w q (.returned (.tuple #[.slice A n c, .int .i64 (p : Int), .int .i64 (z : Int)])) W := by
  subst hq hn
  exact ⟨A, c, rfl, ho, hb⟩
/-- The last one of a row of the call's own. -/
theorem last_cell {W : World} {base n c : Nat} {A : Option Addr} {acc : List Rc} (h : W.ownsRow base 31 7 (.slice A n c) n (rcCells acc)) (hn : acc.length = n) (hp : 0 < n) : ∃ g, A = some ⟨g, 0, none⟩ ∧ W.cell? ⟨g, (n - 1) * 7 + 1, none⟩ = some (.int .i64 (lo acc)) := by
  obtain ⟨x, hx⟩ : ∃ x, acc[n - 1]? = some x := ⟨_, List.getElem?_eq_getElem (by omega)⟩
  obtain ⟨g, hA, _⟩ := own_pos h hp
  subst hA
  obtain ⟨g', off, e, _, _, h1, _⟩ := (rd_own h).rec hx
  injection e with e
  injection e with e1 e2
  subst e1 e2
  refine ⟨g, rfl, ?_⟩
  rw [lo_get (by rw [hn]; exact hx)]
  simpa using h1
set_option maxHeartbeats 4000000 in
set_option maxRecDepth 100000 in
theorem scan_is (A : Option Addr) (n c : Nat) (b : List Nat) (w : World) (hr : Rd w A (b8 b)) (hn : b.length = n) (hnc : n ≤ c) (hby : By b) (hl : n ≤ 140737488355328) :
    Calls Try.prog 35 #[.slice A n c] w (ScanPost w (scanW b 0 [])) := by
  have HR := Lib.hid hr
  have HN := Lib.hid hn
  have PD := Lib.hid (fun g off p W (hA : A = some ⟨g, off, none⟩) (hp : p ≤ n) (hW : Below w.heap.size w W) => recdecode_is (some ⟨g, off + p, none⟩) (n - p) (c - p) (b.drop p) W (rd_rest (p := p) (hA ▸ hr.below hW)) (by rw [List.length_drop, hn]) (by omega) (hby.drop p) (by omega))
  unfold DecPost at PD
  have HC := Lib.hid (rdec_cases)
  obtain ⟨q, hq⟩ : ∃ q, q = scanW b 0 [] := ⟨_, rfl⟩
  rw [← hq]
  have HQ := Lib.hid hq
  clear hr hn hby hq
  go_enter Try.func35, Try.ntmps35
  go_wp2
  go_loopw [5, 6] (fun l i wr => ∃ (p : Nat) (acc : List Rc), p ≤ n ∧ i = .int .i64 p ∧ wr.ownsRow w.heap.size 31 7 l acc.length (rcCells acc) ∧ Below w.heap.size w wr ∧ Hid (q = scanW b p acc) ∧ Hid (Few acc)) (fun _ i _ => n - (intOf i).toNat)
  case atStart => exact ⟨0, [], Nat.zero_le _, rfl, World.ownsRow_nil _ _ _ _, Below.refl _ _, HQ, Lib.hid Few.nil⟩
  case round =>
    obtain ⟨p, acc, hp, rfl, hown, hbel, HS, HFW⟩ := hrel
    obtain ⟨A5, c5, rfl, hc5a, hc5b, hA5⟩ := own_shape hown
    have HO := Lib.hid hown
    have HB := Lib.hid hbel
    have hfew := HFW.out.most
    have hwz := hbel.size
    clear hown hbel hA5 HQ
    by_cases hlt : p < n
    · have hpb : p < b.length := by rw [HN.out]; exact hlt
      obtain ⟨g, off, hA, hg, _⟩ := HR.out.some_ (by omega)
      have P1 := Lib.hid (PD.out g off p wr hA (by omega) HB.out)
      subst hA
      obtain ⟨⟨⟨k, o, t, pp, s, key, vl⟩, n1, z⟩, hqd⟩ : ∃ r, r = rdec (b.drop p) := ⟨_, rfl⟩
      have hcs := HC.out (b.drop p)
      rw [← hqd] at P1 hcs
      have HD := Lib.hid hqd.symm
      unfold Rc.v at P1
      simp only at P1
      have i0 : (0 : Int) ≤ (p : Int) := by omega
      have i1 : (p : Int) ≤ (n : Int) := by omega
      have i2 : ¬ c = p := by omega
      obtain ⟨N, hN⟩ : ∃ N, N = acc.length := ⟨_, rfl⟩
      rw [← hN] at HO ⊢
      have HNN := Lib.hid hN
      have hN40 : N ≤ 1099511627776 := by omega
      clear hqd hN hfew
      by_cases hz : z = 0
      · subst hz
        obtain ⟨x', n', e, hm, h14, h1124, hnb, -⟩ | e | e := hcs
        rotate_left
        · simp at e
        · simp at e
        obtain ⟨rfl, rfl, _⟩ := (by simpa using e : (⟨k, o, t, pp, s, key, vl⟩ : Rc) = x' ∧ n1 = n' ∧ True)
        have HM := Lib.hid hm
        have hn1 : p + n1 ≤ n := by rw [List.length_drop, HN.out] at hnb; omega
        have ho : 0 ≤ o := hm.o.1
        clear e hm hnb
        by_cases hN0 : N = 0
        · have hacc : lo acc < o := by have : acc = [] := List.eq_nil_of_length_eq_zero (HNN.out.symm.trans hN0); rw [this, lo_nil]; omega
          have HST := Lib.hid (HS.out.trans (scan_step hpb HD.out (by omega) hacc))
          have HFS := Lib.hid (HFW.out.step HM.out hacc)
          clear hacc HS HFW HD HM
          subst hN0
          go_wp2_with fail
          refine P1.out.mono ?_
          rintro e w1 ⟨rfl, hb1⟩
          have HO1 := Lib.hid (own_below HO.out hb1)
          have HB1 := Lib.hid (HB.out.trans (hb1.mono hwz))
          have hs1 := hb1.size
          clear hb1 HO HB P1
          go_wp2_with fail
          go_quiet (fail)
          go_wp2_with (at_builtin; (refine pushR _ rfl (.tmp 46) (.tmp 48) rfl w.heap.size _ 0 (rcCells acc) rfl (own_below HO1.out (below_drewN ((Below.refl _ _).alloc (Nat.le_refl _) (rcObj ⟨k, o, t, pp, s, key, vl⟩)) _)) ⟨k, o, t, pp, s, key, vl⟩ _ (by simp) rfl (by omega) (by simp; omega) ?_); intro v2 w2 hown2 hg2 hn2; have HO2 := Lib.hid hown2; have HB2 := Lib.hid ((below_drewN (HB1.out.alloc HB1.out.size (rcObj ⟨k, o, t, pp, s, key, vl⟩)) _).trans (below_of_grown hg2 (by simp; omega) (fun q hq => (HO1.out.lt q hq).1))); clear hown2 hg2 hn2)
          go_roundw
          case rel => exact ⟨p + n1, acc ++ [⟨k, o, t, pp, s, key, vl⟩], hn1, by go_num, by rw [rcCells_append, List.length_append, ← HNN.out]; simpa [rcCells, Rc.cells] using HO2.out, HB2.out, HST, HFS⟩
          case measure => simp [intOf]; omega
        · obtain ⟨g5, hA5', hcell⟩ := last_cell HO.out HNN.out.symm (by omega)
          subst hA5'
          have HCELL := Lib.hid hcell
          have hgl5 : g5 < wr.heap.size := (HO.out.lt g5 rfl).2
          obtain ⟨M, rfl⟩ : ∃ M, N = M + 1 := ⟨N - 1, by omega⟩
          rw [show M + 1 - 1 = M by omega] at HCELL
          have hM1 : IntKind.i64.wrap (M : Int) = (M : Int) := by rw [IntKind.wrap_i64]; omega
          have hM2 : (0 : Int) ≤ (M : Int) := by omega
          have hM3 : (M : Int) < (M : Int) + 1 := by omega
          clear hN0
          obtain ⟨L, hL⟩ : ∃ L, L = lo acc := ⟨_, rfl⟩
          rw [← hL] at HCELL
          by_cases hle : o ≤ L
          · have HLOW := Lib.hid (HS.out.trans (scan_low hpb HD.out (by rw [← hL]; exact hle)))
            have hd : decide (o ≤ L) = true := decide_eq_true hle
            clear HS HFW HD HM hL hcell
            go_wp2_with fail
            refine P1.out.mono ?_
            rintro e w1 ⟨rfl, hb1⟩
            have HO1 := Lib.hid (own_below HO.out hb1)
            have HB1 := Lib.hid (HB.out.trans (hb1.mono hwz))
            have hs1 := hb1.size
            have HC1 := (hb1.cell (p := ⟨g5, M * 7 + 1, none⟩) hgl5).trans HCELL.out
            have hgl51 : g5 < w1.heap.size := by omega
            clear hb1 HO HB P1
            go_wp2_with fail
            go_quiet (fail)
            go_wp2_with fail
            refine bodyPost_ret (v := .tuple #[.slice (some ⟨g5, 0, none⟩) (M + 1) c5, .int .i64 (p : Int), .int .i64 41]) (by simp [results, Try.results35, go_sem]) rfl (scanpost_mk (z := 41) HLOW.out HNN.out (own_below HO1.out (by first | exact ((Below.refl _ _).alloc (Nat.le_refl _) _).drew | exact below_drewN ((Below.refl _ _).alloc (Nat.le_refl _) _) _)) ?_)
            first | exact (HB1.out.alloc HB1.out.size _).drew | exact below_drewN (HB1.out.alloc HB1.out.size _) _
          · have hacc : lo acc < o := by rw [← hL]; omega
            have HST := Lib.hid (HS.out.trans (scan_step hpb HD.out (by omega) hacc))
            have HFS := Lib.hid (HFW.out.step HM.out hacc)
            have hd : decide (o ≤ L) = false := decide_eq_false hle
            clear hacc HS HFW HD HM hL hcell
            go_wp2_with fail
            refine P1.out.mono ?_
            rintro e w1 ⟨rfl, hb1⟩
            have HO1 := Lib.hid (own_below HO.out hb1)
            have HB1 := Lib.hid (HB.out.trans (hb1.mono hwz))
            have hs1 := hb1.size
            have HC1 := (hb1.cell (p := ⟨g5, M * 7 + 1, none⟩) hgl5).trans HCELL.out
            have hgl51 : g5 < w1.heap.size := by omega
            clear hb1 HO HB P1
            go_wp2_with fail
            go_quiet (fail)
            go_wp2_with (at_builtin; (refine pushR _ rfl (.tmp 46) (.tmp 48) rfl w.heap.size _ (M + 1) (rcCells acc) rfl (own_below HO1.out (below_drewN ((Below.refl _ _).alloc (Nat.le_refl _) (rcObj ⟨k, o, t, pp, s, key, vl⟩)) _)) ⟨k, o, t, pp, s, key, vl⟩ _ (by simp) rfl (by omega) (by simp; omega) ?_); intro v2 w2 hown2 hg2 hn2; have HO2 := Lib.hid hown2; have HB2 := Lib.hid ((below_drewN (HB1.out.alloc HB1.out.size (rcObj ⟨k, o, t, pp, s, key, vl⟩)) _).trans (below_of_grown hg2 (by simp; omega) (fun q hq => (HO1.out.lt q hq).1))); clear hown2 hg2 hn2)
            go_roundw
            case rel => exact ⟨p + n1, acc ++ [⟨k, o, t, pp, s, key, vl⟩], hn1, by go_num, by rw [rcCells_append, List.length_append, ← HNN.out]; simpa [rcCells, Rc.cells] using HO2.out, HB2.out, HST, HFS⟩
            case measure => simp [intOf]; omega
      · have HER := Lib.hid (HS.out.trans (scan_err hpb (by rw [HD.out]) hz))
        have hz' : ((z : Int) == 0) = false := by rw [beq_eq_false_iff_ne]; omega
        have hz'' : ((z : Int) != 0) = true := by rw [bne_iff_ne]; omega
        clear HS HD hcs
        go_wp2_with fail
        refine P1.out.mono ?_
        rintro e w1 ⟨rfl, hb1⟩
        have HO1 := Lib.hid (own_below HO.out hb1)
        have HB1 := Lib.hid (HB.out.trans (hb1.mono hwz))
        have hs1 := hb1.size
        clear hb1 HO HB P1
        go_wp2_with fail
        go_quiet (fail)
        go_wp2_with fail
        refine bodyPost_ret (v := .tuple #[.slice A5 N c5, .int .i64 (p : Int), .int .i64 (z : Int)]) (by simp [results, Try.results35, go_sem]) rfl (scanpost_mk HER.out HNN.out (own_below HO1.out (by first | exact ((Below.refl _ _).alloc (Nat.le_refl _) _).drew | exact below_drewN ((Below.refl _ _).alloc (Nat.le_refl _) _) _)) ?_)
        first | exact (HB1.out.alloc HB1.out.size _).drew | exact below_drewN (HB1.out.alloc HB1.out.size _) _
    · have HEN := Lib.hid (HS.out.trans (scan_end (by rw [HN.out]; exact hlt)))
      clear HS PD HC
      go_wp2
      refine bodyPost_ret (v := .tuple #[.slice A5 acc.length c5, .int .i64 (p : Int), .int .i64 0]) (by simp [results, Try.results35, go_sem]) rfl (scanpost_mk (z := 0) HEN.out rfl HO.out HB.out)
end Go.Proofs.Ytjipebedibjoiaa
