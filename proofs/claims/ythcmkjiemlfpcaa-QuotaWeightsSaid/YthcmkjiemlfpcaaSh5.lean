/- The reference's Shares: what it returns. -/
import Derived.Test.YthcmkjiemlfpcaaSh4
namespace Go.Proofs.Ythcmkjiemlfpcaa
open Go Go.RowKit
set_option linter.unusedVariables false

set_option maxHeartbeats 1000000 in
theorem rshares_bad (A : Option Addr) (c n : Nat) (l : List Int) (total : Int) (w : World) (hr : Rd w A (i64s l)) (hn : l.length = n) (hc : n ≤ c) (hs : ¬ shOk total l) :
    Calls Try.prog 26 #[.int .i64 total, .slice A n c] w fun e w' => e = .returned (.tuple #[.slice none 0 0, .int .i64 131]) ∧ w = w' := by
  have HS := Lib.hid hs
  have HN := Lib.hid hn
  have HR := Lib.hid hr
  clear hs hn hr
  by_cases h1 : 64 < n
  · clear HS HN HR
    go_enter Try.func26, Try.ntmps26
    go_wp2
    go_ret2
    exact ⟨rfl, rfl⟩
  · by_cases h2 : 0 ≤ total ∧ total ≤ 1099511627776
    · have hi := inside_yes h2.1 h2.2
      have ha : ¬ Asks l := fun ha => HS.out ⟨by rw [HN.out]; omega, h2, ha⟩
      have HA := Lib.hid ha
      clear h2 ha HS
      go_enter Try.func26, Try.ntmps26
      go_wp2_with (go_at_call 31; refine (rwithin_is total 0 1099511627776 true _ hi).mono ?_; rintro e w' ⟨rfl, rfl⟩)
      go_loop [6] (fun i => ∃ k : Nat, k ≤ n ∧ i = .int .i64 k ∧ Hid (Asks (l.take k))) (fun i => n - (intOf i).toNat)
      case atStart => exact ⟨0, Nat.zero_le _, rfl, fun x hx => by simp at hx⟩
      case round =>
        obtain ⟨k, hk, rfl, HK⟩ := hrel
        by_cases hlt : k < n
        · obtain ⟨x, hx⟩ : ∃ x, l[k]? = some x := ⟨_, List.getElem?_eq_getElem (by rw [HN.out]; exact hlt)⟩
          obtain ⟨g, off, rfl, hg, hcell⟩ := HR.out.i64 hx
          have HX := Lib.hid hx
          clear hx
          by_cases hxa : 0 ≤ x ∧ x ≤ 1099511627776
          · have hi2 := inside_yes hxa.1 hxa.2
            go_wp2_with (go_at_call 31; refine (rwithin_is x 0 1099511627776 true _ hi2).mono ?_; rintro e w' ⟨rfl, rfl⟩)
            go_round
            case rel => exact ⟨k + 1, by omega, by go_num, fun y hy => by
              rw [take_snoc' HX.out] at hy
              rcases List.mem_append.1 hy with hy | hy
              · exact HK.out y hy
              · rw [List.mem_singleton.1 hy]
                exact hxa⟩
            case measure => simp [intOf]; omega
          · have hi2 := inside_no (v := x) (lo := 0) (hi := 1099511627776) hxa
            clear hxa
            go_wp2_with (go_at_call 31; refine (rwithin_is x 0 1099511627776 false _ hi2).mono ?_; rintro e w' ⟨rfl, rfl⟩)
            go_ret2
            exact ⟨rfl, rfl⟩
        · exfalso
          have : k = n := by omega
          subst this
          have h := HK.out
          rw [List.take_of_length_le (by rw [HN.out]; omega)] at h
          exact HA.out h
    · have hi := inside_no (v := total) (lo := 0) (hi := 1099511627776) h2
      clear h2 HS HN HR
      go_enter Try.func26, Try.ntmps26
      go_wp2_with (go_at_call 31; refine (rwithin_is total 0 1099511627776 false _ hi).mono ?_; rintro e w' ⟨rfl, rfl⟩)
      go_ret2
      exact ⟨rfl, rfl⟩

set_option maxHeartbeats 2000000 in
set_option maxRecDepth 100000 in
theorem rshares_ok (A : Option Addr) (c n : Nat) (l : List Int) (total v : Int) (w : World) (hr : Rd w A (i64s l)) (hn : l.length = n) (hc : n ≤ c) (hl : n ≤ 64) (ht : 0 ≤ total) (ht' : total ≤ 1099511627776) (ha : Asks l) (hv : IsLev total l v) :
    Calls Try.prog 26 #[.int .i64 total, .slice A n c] w (Shared w (dist l v (total - capSum l v))) := by
  have hi := inside_yes ht ht'
  have PS := Lib.hid (fun u (h0 : 0 ≤ u) (h1 : u ≤ 1099511627777) => rsum_is A c n l u w hr hn hc hl ha h0 h1)
  have HZ := Lib.hid (show capSum l 0 ≤ total by rw [capSum_zero ha]; exact ht)
  have hv0 := hv.lo
  have hv1 := hv.hi
  have hvle := hv.le
  have hc0 := (capSum_bd ha hv0).1
  have HN := Lib.hid hn
  have HA := Lib.hid ha
  have HR := Lib.hid hr
  have HV := Lib.hid hv
  clear hn ha hr hv
  go_enter Try.func26, Try.ntmps26
  go_wp2_with (go_at_call 31; refine (rwithin_is total 0 1099511627776 true _ hi).mono ?_; rintro e w' ⟨rfl, rfl⟩)
  go_loop [6] (fun i => ∃ k : Nat, k ≤ n ∧ i = .int .i64 k) (fun i => n - (intOf i).toNat)
  case atStart => exact ⟨0, Nat.zero_le _, rfl⟩
  case round =>
    obtain ⟨k, hk, rfl⟩ := hrel
    by_cases hlt : k < n
    · obtain ⟨x, hx⟩ : ∃ x, l[k]? = some x := ⟨_, List.getElem?_eq_getElem (by rw [HN.out]; exact hlt)⟩
      obtain ⟨g, off, rfl, hg, hcell⟩ := HR.out.i64 hx
      have hxa := asks_at HA.out hx
      have hi2 := inside_yes hxa.1 hxa.2
      clear hx hxa
      go_wp2_with (go_at_call 31; refine (rwithin_is x 0 1099511627776 true _ hi2).mono ?_; rintro e w' ⟨rfl, rfl⟩)
      go_round
      case rel => exact ⟨k + 1, by omega, by go_num⟩
      case measure => simp [intOf]; omega
    · go_wp2_with fail
      go_loop [7, 8] (fun i j => ∃ (x y : Int), 0 ≤ x ∧ x < y ∧ y ≤ 1099511627777 ∧ i = .int .i64 x ∧ j = .int .i64 y ∧ Hid (capSum l x ≤ total) ∧ Hid (y = 1099511627777 ∨ total < capSum l y))
        (fun i j => (intOf j - intOf i).toNat)
      case atStart => exact ⟨0, 1099511627777, by omega, by omega, by omega, rfl, rfl, HZ.out, .inl rfl⟩
      case round =>
        obtain ⟨x, y, hx, hxy, hy, rfl, rfl, H1, H2⟩ := hrel
        by_cases hlt2 : 1 < y - x
        · have hm : 0 ≤ (x + y) / 2 ∧ (x + y) / 2 ≤ 1099511627777 ∧ x < (x + y) / 2 ∧ (x + y) / 2 < y := by omega
          have Q1 := Lib.hid (PS.out ((x + y) / 2) hm.1 hm.2.1)
          obtain ⟨s, hs⟩ : ∃ s, s = capSum l ((x + y) / 2) := ⟨_, rfl⟩
          rw [← hs] at Q1
          have HS := Lib.hid hs
          clear hs
          by_cases hb : s ≤ total
          · go_wp2_with (go_at_call 41; refine Q1.out.mono ?_; rintro e w2 ⟨rfl, rfl⟩)
            go_round
            case rel => exact ⟨(x + y) / 2, y, by omega, by omega, by omega, rfl, rfl, (by show capSum l ((x + y) / 2) ≤ total; rw [← HS.out]; exact hb), H2.out⟩
            case measure => simp [intOf]; omega
          · go_wp2_with (go_at_call 41; refine Q1.out.mono ?_; rintro e w2 ⟨rfl, rfl⟩)
            go_round
            case rel => exact ⟨x, (x + y) / 2, by omega, by omega, by omega, rfl, rfl, H1.out, .inr (by rw [← HS.out]; omega)⟩
            case measure => simp [intOf]; omega
        · have hyx : y = x + 1 := by omega
          have hvx : v = x := HV.out.unique ⟨hx, by omega, H1.out, by
            rcases H2.out with h | h
            · exact .inl (by omega)
            · exact .inr (by rw [← hyx]; exact h)⟩
          subst hvx
          have Q1 := Lib.hid (PS.out v (by omega) (by omega))
          obtain ⟨q, hq⟩ : ∃ q, q = capSum l v := ⟨_, rfl⟩
          rw [← hq] at Q1 hvle hc0 ⊢
          have HQ := Lib.hid hq
          clear hq H1 H2 HV HZ PS
          go_wp2_with (go_at_call 41; refine Q1.out.mono ?_; rintro e w2 ⟨rfl, rfl⟩)
          obtain ⟨L, hL⟩ : ∃ L, L = total - q := ⟨_, rfl⟩
          rw [← hL]
          have hL0 : 0 ≤ L ∧ L ≤ 1099511627776 := by omega
          have HLQ := Lib.hid hL
          clear hL Q1 hvle hc0 hlt hlt2 hxy hy hyx hk
          go_loopw [12, 10, 11] (fun i lf o wr => ∃ k : Nat, k ≤ n ∧ i = .int .i64 k ∧ lf = .int .i64 (lft (l.take k) v L) ∧ wr.ownsRow w.heap.size 2 1 o k (i64s (dist (l.take k) v L)) ∧ Below w.heap.size w wr)
            (fun i _ _ _ => n - (intOf i).toNat)
          case atStart => exact ⟨0, Nat.zero_le _, rfl, rfl, World.ownsRow_nil _ _ _ _, Below.refl _ _⟩
          case round =>
            obtain ⟨k, hk, rfl, rfl, hown, hbel⟩ := hrel
            have hsz := hbel.size
            by_cases hlt : k < n
            · obtain ⟨x, hx⟩ : ∃ x, l[k]? = some x := ⟨_, List.getElem?_eq_getElem (by rw [HN.out]; exact hlt)⟩
              have hxa := asks_at HA.out hx
              obtain ⟨g, off, rfl, hg, hcell0⟩ := HR.out.i64 hx
              have hcell := (hbel.cell (p := ⟨g, off + k, none⟩) hg).trans hcell0
              have hlf := lft_bd (l.take k) v L hL0.1
              have hlfs := lft_snoc (l.take k) x v L
              have hds := dist_snoc (l.take k) x v L
              rw [← take_snoc' hx] at hlfs hds
              obtain ⟨lf, hlf0⟩ : ∃ lf, lf = lft (l.take k) v L := ⟨_, rfl⟩
              rw [← hlf0] at hlf hlfs hds ⊢
              have HLF := Lib.hid hlfs
              have HDS := Lib.hid hds
              have HO := Lib.hid hown
              have HBL := Lib.hid hbel
              clear hx hcell0 hlfs hds hlf0 hown hbel
              by_cases hxv : v < x ∧ 0 < lf
              · have hif1 : Hid (lft (l.take (k + 1)) v L = lf - 1) := HLF.out.trans (if_pos hxv)
                have hif2 : Hid (dist (l.take (k + 1)) v L = dist (l.take k) v L ++ [v + 1]) := HDS.out.trans (by rw [if_pos hxv])
                obtain ⟨hx1, hx2⟩ := hxv
                clear HLF HDS
                go_wp2_with (at_builtin; (refine push64 wr rfl (.tmp 80) (.tmp 82) rfl w.heap.size u11 k (dist (l.take k) v L) rfl HO.out (v + 1) rfl (by omega) hsz ?_); intro v1 W1 ho1 hg1 _; have HO1 := Lib.hid ho1; have HB1 := Lib.hid (HBL.out.trans (below_of_grown hg1 hsz (fun q hq => (own_block_lt HO.out hq).1))); clear ho1 hg1)
                go_roundw
                case rel => exact ⟨k + 1, by omega, by go_num, by rw [hif1.out], by rw [hif2.out]; exact HO1.out, HB1.out⟩
                case measure => simp [intOf]; omega
              · have hif1 : Hid (lft (l.take (k + 1)) v L = lf) := HLF.out.trans (if_neg hxv)
                have hif2 : Hid (dist (l.take (k + 1)) v L = dist (l.take k) v L ++ [min x v]) := HDS.out.trans (by rw [if_neg hxv])
                clear HLF HDS
                by_cases hx1 : v < x
                · have hx2 : ¬ 0 < lf := fun h => hxv ⟨hx1, h⟩
                  have HM := Lib.hid (show min x v = v by omega)
                  clear hxv
                  go_wp2_with (at_builtin; (refine push64 wr rfl (.tmp 80) (.tmp 82) rfl w.heap.size u11 k (dist (l.take k) v L) rfl HO.out v rfl (by omega) hsz ?_); intro v1 W1 ho1 hg1 _; have HO1 := Lib.hid ho1; have HB1 := Lib.hid (HBL.out.trans (below_of_grown hg1 hsz (fun q hq => (own_block_lt HO.out hq).1))); clear ho1 hg1)
                  go_roundw
                  case rel => exact ⟨k + 1, by omega, by go_num, by rw [hif1.out], by rw [hif2.out, HM.out]; exact HO1.out, HB1.out⟩
                  case measure => simp [intOf]; omega
                · have HM := Lib.hid (show min x v = x by omega)
                  clear hxv
                  go_wp2_with (at_builtin; (refine push64 wr rfl (.tmp 80) (.tmp 82) rfl w.heap.size u11 k (dist (l.take k) v L) rfl HO.out x rfl (by omega) hsz ?_); intro v1 W1 ho1 hg1 _; have HO1 := Lib.hid ho1; have HB1 := Lib.hid (HBL.out.trans (below_of_grown hg1 hsz (fun q hq => (own_block_lt HO.out hq).1))); clear ho1 hg1)
                  go_roundw
                  case rel => exact ⟨k + 1, by omega, by go_num, by rw [hif1.out], by rw [hif2.out, HM.out]; exact HO1.out, HB1.out⟩
                  case measure => simp [intOf]; omega
            · have hLq := HLQ.out
              subst hLq
              have hkn : k = n := by omega
              have e1 : l.take k = l := List.take_of_length_le (by rw [HN.out]; omega)
              have e3 : (dist l v (total - q)).length = n := by rw [dist_length, HN.out]
              rw [e1, hkn] at hown
              obtain ⟨A9, c9, hv9, _⟩ := own_shape hown
              have E3 := Lib.hid e3
              have HV9 := Lib.hid hv9
              clear hkn e1 e3 hv9
              go_wp2
              go_ret2
              exact ⟨A9, c9, by rw [← HQ.out, E3.out, ← HV9.out]; rfl, by rw [← HQ.out, E3.out, ← HV9.out]; exact hown, hbel⟩
end Go.Proofs.Ythcmkjiemlfpcaa
