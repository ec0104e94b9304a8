/- Decode, the program's and the document's (printed by gen_sqenc.py). -/
import Derived.Test.YtljfmcgeiceagaaSqEnc
import Derived.Test.YtljfmcgeiceagaaSqRRead
import Derived.Test.YtljfmcgeiceagaaSqRead
import Derived.Test.YtljfmcgeiceagaaSqRdLen
namespace Go.Proofs.Ytljfmcgeiceagaa
open Go Go.RowKit
set_option linter.unusedVariables false
set_option linter.unusedSimpArgs false

/-- The text of a block, or that it is none. -/
def dec (b : List Nat) : List Nat × Int := if (rd b).2 = 0 then (if (enc (exp [] (rd b).1).1).1 = b then ((exp [] (rd b).1).1, 0) else ([], 20)) else ([], 20)
theorem dec_bad {b : List Nat} (h : rd b = ([], 20)) : dec b = ([], 20) := by unfold dec; rw [h]; rfl
theorem dec_some {b T : List Nat} {ts : List Tk} (h : rd b = (ts, 0)) (hx : exp [] ts = (T, 0)) : dec b = if blk T.length (tokens T) = b then (T, 0) else ([], 20) := by
  have hT : T.length ≤ 4096 := by have h2 := exp_len ts [] (by simp); rw [hx] at h2; exact h2
  unfold dec
  rw [h]
  simp only [if_true]
  rw [hx]
  simp only
  rw [enc_short (by omega)]
theorem dec_len {b : List Nat} (hb : By b) (hl : b.length ≤ 140737488351232) : (dec b).1.length ≤ 100000000 := by
  have := exp_len (rd b).1 [] (by simp)
  unfold dec
  split
  · split
    · simp only; omega
    · simp
  · simp
theorem own_cap {w : World} {base n c : Nat} {e : TypeId} {A : Option Addr} {xs : List Value} (h : w.ownsRow base e 1 (.slice A n c) n xs) : n ≤ c ∧ c ≤ 9223372036854775807 := by
  obtain ⟨A', c', hv, h1, h2, _⟩ := own_shape h
  injection hv with _ _ h3
  subst h3
  exact ⟨h1, h2⟩
theorem by_copy {T : List Nat} (h : By T) (d : Nat) : ∀ k, By (copyN T d k)
  | 0 => h
  | k + 1 => by
    have ih := by_copy h d k
    rw [copyN, addOne]
    refine By.append ih ?_
    intro b hb
    rw [List.mem_singleton] at hb
    subst hb
    rw [List.getD_eq_getElem?_getD]
    cases e : (copyN T d k)[(copyN T d k).length - d]? with
    | none => simp
    | some x => simp only [Option.getD_some]; exact ih x (List.mem_of_getElem? e)
theorem by_exp0 : ∀ {ts : List Tk} {T Z : List Nat}, exp T ts = (Z, 0) → By T → (∀ t ∈ ts, By t.lit) → By Z
  | [], T, Z, h, hT, _ => by simp only [exp, Prod.mk.injEq, and_true] at h; subst h; exact hT
  | t :: r, T, Z, h, hT, hl => by
    unfold exp at h
    split at h
    · split at h
      · simp at h
      · refine by_exp0 h ?_ (fun x hx => hl x (List.mem_cons_of_mem _ hx))
        unfold addTk
        exact by_copy (By.append hT (hl t (List.mem_cons_self ..))) _ _
    · simp at h
theorem by_exp {ts : List Tk} {T : List Nat} (h : exp [] ts = (T, 0)) (hl : ∀ t ∈ ts, By t.lit) : By T := by_exp0 h (fun b hb => by cases hb) hl
theorem by_bt {t : Tk} (h : By t.lit) : By (bt t) := by
  unfold bt
  split
  · exact By.append (Uv.uv_lt _) h
  · exact By.append (Uv.uv_lt _) (Uv.uv_lt _)
theorem by_flat {ts : List Tk} (h : ∀ t ∈ ts, By t.lit) : By (ts.flatMap bt) := by
  intro b hb
  obtain ⟨t, ht, hb⟩ := List.mem_flatMap.1 hb
  exact by_bt (h t ht) b hb
theorem by_flush {lit : List Nat} (h : By lit) : ∀ t ∈ flush lit, By t.lit := by
  unfold flush
  split
  · intro t ht; cases ht
  · intro t ht; rw [List.mem_singleton] at ht; subst ht; exact h
theorem by_tok {t : List Nat} (h : By t) : ∀ f i lit, By lit → ∀ x ∈ tok t f i lit, By x.lit
  | 0, i, lit, hl => by_flush hl
  | f + 1, i, lit, hl => by
    unfold tok
    split
    · rename_i hi
      split
      · refine by_tok h f _ _ (By.append hl ?_)
        intro b hb
        rw [List.mem_singleton] at hb
        subst hb
        rw [List.getD_eq_getElem?_getD, List.getElem?_eq_getElem hi]
        exact h _ (List.getElem_mem hi)
      · intro x hx
        rcases List.mem_append.1 hx with hx | hx
        · exact by_flush hl x hx
        · rcases List.mem_cons.1 hx with rfl | hx
          · intro b hb; cases hb
          · exact by_tok h f _ _ (fun b hb => by cases hb) x hx
    · exact by_flush hl
theorem by_blk {T : List Nat} (h : By T) : By (blk T.length (tokens T)) := By.append (Uv.uv_lt _) (by_flat (by_tok h _ _ _ (fun b hb => by cases hb)))
theorem rdLoop_by (n : Nat) : ∀ (f : Nat) (s : Rs) (z : Nat) (ts : List Tk), s.Ok → (∀ t ∈ ts, By t.lit) → ∀ t ∈ (rdLoop n f s z ts).1, By t.lit
  | 0, s, z, ts, hs, h => by intro t ht; simp [rdLoop] at ht
  | f + 1, s, z, ts, hs, h => by
    unfold rdLoop
    split
    · split
      · exact h
      · intro t ht; simp at ht
    · split
      · intro t ht; simp at ht
      · split
        · split
          · intro t ht; simp at ht
          · refine rdLoop_by n f _ _ _ (rdTok_ok hs) ?_
            intro t ht
            rcases List.mem_append.1 ht with ht | ht
            · exact h t ht
            · rw [List.mem_singleton] at ht
              subst ht
              exact rdTok_by hs
        · intro t ht; simp at ht
theorem rd_by {b : List Nat} (hb : By b) {ts : List Tk} (h : rd b = (ts, 0)) (hl : b.length ≤ 140737488351232 := by omega) : ∀ t ∈ ts, By t.lit := by
  have h1 : ts = (rd b).1 := by rw [h]
  subst h1
  unfold rd
  split
  · intro t ht; simp at ht
  · exact rdLoop_by _ _ _ _ _ (ok0 hb hl).num.1 (fun t ht => by cases ht)

theorem run_str8 (w : World) (A : Option Addr) (n c : Nat) (bs : List Nat) (hr : Rd w A (b8 bs)) (hn : bs.length = n) (hby : By bs) : (convert 25 9 (.slice A n c)).run Try.prog w = .ok (.string (strOf bs)) w := by
  subst hn
  by_cases h0 : bs = []
  · subst h0
    rcases A with _ | g
    · rw [run_convert_bytes_string w 25 9 5 none _ c Try.underlying25 Try.underlying5 Try.underlying9]
      simp [Conv.bytesToString, strOf]
      rfl
    · exact run_convert_bytes_back w 25 9 5 g c [] Try.underlying25 Try.underlying5 Try.underlying9 (fun j hj => absurd hj (by simp))
  · obtain ⟨g, off, rfl, _, hc⟩ := hr (by simpa [b8] using h0)
    have hl : bs.length = (bs.map UInt8.ofNat).length := by simp
    rw [hl]
    refine run_convert_bytes_back w 25 9 5 ⟨g, off, none⟩ c (bs.map UInt8.ofNat) Try.underlying25 Try.underlying5 Try.underlying9 (fun j hj => ?_)
    rw [add_zero_off]
    have hj' : j < bs.length := by simpa using hj
    have := hc j (.int .u8 (bs[j] : Int)) (by rw [b8_get, List.getElem?_eq_getElem hj']; rfl)
    rw [this]
    have hb := hby _ (List.getElem_mem hj')
    simp only [List.getElem_map]
    rw [u8_nat hb]
theorem strOf_eq {xs ys : List Nat} (hx : By xs) (hy : By ys) : ((strOf xs).toList == (strOf ys).toList) = sameB xs ys := by
  unfold sameB
  rw [Bool.eq_iff_iff, beq_iff_eq, decide_eq_true_eq]
  constructor
  · intro h
    have h2 : (strOf xs).data.toList = (strOf ys).data.toList := by rw [← Lib.toList_data, ← Lib.toList_data, h]
    rw [← sb_strOf hx, ← sb_strOf hy]
    unfold sb
    rw [h2]
  · intro h
    rw [h]
set_option maxHeartbeats 400000 in
set_option maxRecDepth 100000 in
theorem bytes_equal_is (A B : Option Addr) (n m c d : Nat) (xs ys : List Nat) (w : World) (ha : Rd w A (b8 xs)) (hb : Rd w B (b8 ys)) (hn : xs.length = n) (hm : ys.length = m) (hx : By xs) (hy : By ys) :
    Calls Try.prog 98 #[.slice A n c, .slice B m d] w fun e w' => Looks w w' e (.bool (sameB xs ys)) := by
  have h1 := run_str8 w A n c xs ha hn hx
  have h2 := run_str8 w B m d ys hb hm hy
  have HE := Lib.hid (strOf_eq hx hy)
  obtain ⟨s, hs⟩ : ∃ s, s = strOf xs := ⟨_, rfl⟩
  obtain ⟨t, ht⟩ : ∃ t, t = strOf ys := ⟨_, rfl⟩
  rw [← hs, ← ht] at HE
  rw [← hs] at h1
  rw [← ht] at h2
  clear hs ht ha hb hn hm
  go_enter Try.func98, Try.ntmps98
  go_wp2
  go_ret
  exact ⟨by rw [← HE.out]; rfl, 0, rfl⟩

set_option maxHeartbeats 2000000 in
set_option maxRecDepth 100000 in
theorem decode_is (A : Option Addr) (n c : Nat) (bs : List Nat) (w : World) (hr : Rd w A (b8 bs)) (hn : bs.length = n) (hby : By bs) (hl : n ≤ 140737488351232) :
    Calls Try.prog 87 #[.slice A n c] w (Ans8 w (dec bs)) := by
  have PT := Lib.hid (read_is A n c bs w hr hn hby hl)
  have HR := Lib.hid hr
  have HN := Lib.hid hn
  have HY := Lib.hid hby
  rcases rd_code bs with hrd | ⟨ts, hrd⟩
  · have HE : Hid (dec bs = ([], 20)) := Lib.hid (dec_bad hrd)
    rw [hrd] at PT
    obtain ⟨q, hq⟩ : ∃ q, q = dec bs := ⟨_, rfl⟩
    rw [← hq] at HE ⊢
    clear hr hn hby hq hrd
    go_enter Try.func87, Try.ntmps87
    go_wp2_with fail
    refine PT.out.mono ?_
    rintro e w1 ⟨A1, c1, N1, l1, rfl, hq1, ht1, hb1⟩
    have HB1 := Lib.hid hb1
    clear hq1 ht1 hb1
    go_wp2_with fail
    go_ret2
    exact ans8_none _ _ _ _ HE.out HB1.out
  · obtain ⟨T, hx, hT4, hbs⟩ := wr_cases (wr_of_rd hby (by omega) hrd)
    have HTS := Lib.hid (dec_some hrd hx)
    have HX := Lib.hid hx
    have HC := Lib.hid (fine_count hx)
    have HTB : Hid (By T) := Lib.hid (by_exp hx (rd_by hby hrd))
    have HEN := Lib.hid (enc_short (t := T) (by omega))
    have HYB : Hid (By (blk T.length (tokens T))) := Lib.hid (by_blk HTB.out)
    have hYL : (blk T.length (tokens T)).length ≤ 100000000 := blk_len (by omega)
    rw [hrd] at PT
    obtain ⟨Y, hY⟩ : ∃ Y, Y = blk T.length (tokens T) := ⟨_, rfl⟩
    rw [← hY] at HTS HEN HYB hYL
    obtain ⟨q, hq⟩ : ∃ q, q = dec bs := ⟨_, rfl⟩
    rw [← hq] at HTS ⊢
    clear hr hn hby hq hrd hx hbs hY
    go_enter Try.func87, Try.ntmps87
    go_wp2_with fail
    refine PT.out.mono ?_
    rintro e w1 ⟨A1, c1, N1, l1, rfl, hq1, ht1, hb1⟩
    have HB1 := Lib.hid hb1
    have HT1 := Lib.hid ht1
    have HQ1 : Hid (toks l1 = ts) := Lib.hid hq1
    have hN1 : N1 ≤ 4096 := by have h := HC.out; rw [← HQ1.out, toks_len, HT1.out.len] at h; exact h
    have hs1 := hb1.size
    clear hq1 ht1 hb1 PT
    have P2 := Lib.hid (expand_is A1 N1 c1 l1 w1 HT1.out.rd HT1.out.len HT1.out.ok (by omega))
    rw [HQ1.out, HX.out] at P2
    go_wp2_with fail
    refine P2.out.mono ?_
    rintro e w3 ⟨A3, c3, rfl, ho3, hb3⟩
    simp only at ho3
    have HO3 := Lib.hid ho3
    have HB3 := Lib.hid (HB1.out.trans (hb3.mono hs1))
    obtain ⟨hnc, hcm⟩ := own_cap ho3
    have hs3 := HB3.out.size
    clear ho3 hb3 P2
    have P4 := Lib.hid (encode_is A3 T.length c3 T w3 (rd_own HO3.out) rfl HTB.out (by omega) hnc)
    rw [HEN.out] at P4
    go_wp2_with fail
    refine P4.out.mono ?_
    rintro e w4 ⟨A4, c4, rfl, ho4, hb4⟩
    simp only at ho4
    have HO4 := Lib.hid ho4
    have HB4 := Lib.hid (HB3.out.trans (hb4.mono hs3))
    have HO34 := Lib.hid (own_below HO3.out hb4)
    clear ho4 hb4 P4
    have P5 := Lib.hid (bytes_equal_is A4 A Y.length n c4 c Y bs w4 (rd_own HO4.out) (HR.out.below HB4.out) rfl HN.out HYB.out HY.out)
    by_cases hyb : Y = bs
    · have HE : Hid (q = (T, 0)) := Lib.hid (by rw [HTS.out, if_pos hyb])
      rw [show sameB Y bs = true from by simp [sameB, hyb]] at P5
      clear hyb
      go_wp2_with fail
      refine P5.out.mono ?_
      rintro e w5 ⟨rfl, d5, rfl⟩
      go_wp2_with fail
      go_ret2
      exact ans8_some _ _ _ T _ _ _ HE.out rfl (own_below (own_mono HO34.out (by omega)) (below_drewN (Below.refl _ _) d5)) (below_drewN HB4.out d5)
    · have HE : Hid (q = ([], 20)) := Lib.hid (by rw [HTS.out, if_neg hyb])
      rw [show sameB Y bs = false from by simp [sameB, hyb]] at P5
      clear hyb
      go_wp2_with fail
      refine P5.out.mono ?_
      rintro e w5 ⟨rfl, d5, rfl⟩
      go_wp2_with fail
      go_ret2
      exact ans8_none _ _ _ _ HE.out (below_drewN HB4.out d5)

end Go.Proofs.Ytljfmcgeiceagaa
