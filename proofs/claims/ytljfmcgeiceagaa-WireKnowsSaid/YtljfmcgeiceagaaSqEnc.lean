/- Encode, the program's and the document's (printed by gen_sqenc.py). -/
import Derived.Test.YtljfmcgeiceagaaSqTokens
import Derived.Test.YtljfmcgeiceagaaSqRTokens
namespace Go.Proofs.Ytljfmcgeiceagaa
open Go Go.RowKit
set_option linter.unusedVariables false
set_option linter.unusedSimpArgs false

/-- The block of a text, or that it is too long. -/
def enc (t : List Nat) : List Nat × Int := if 4096 < t.length then ([], 2) else (blk t.length (tokens t), 0)
theorem enc_long {t : List Nat} (h : 4096 < t.length) : enc t = ([], 2) := if_pos h
theorem enc_short {t : List Nat} (h : ¬ 4096 < t.length) : enc t = (blk t.length (tokens t), 0) := if_neg h
theorem blk_len {t : List Nat} (h : ¬ 4096 < t.length) : (blk t.length (tokens t)).length ≤ 100000000 := by
  have hx := exp_tokens (t := t) (by omega)
  have h1 := flat_len (tokens t) (fine_of_exp hx).1
  have h2 := fine_count hx
  have h3 := Uv.uv_len_64 t.length (by omega)
  unfold blk
  rw [List.length_append]
  omega
theorem enc_len {t : List Nat} (hb : By t) (hl : t.length ≤ 140737488351232) : (enc t).1.length ≤ 100000000 := by
  unfold enc
  split
  · simp
  · rename_i h; exact blk_len h

set_option maxHeartbeats 2000000 in
set_option maxRecDepth 100000 in
theorem encode_is (A : Option Addr) (n c : Nat) (bs : List Nat) (w : World) (hr : Rd w A (b8 bs)) (hn : bs.length = n) (hby : By bs) (hl : n ≤ 140737488351232) (hc : n ≤ c) :
    Calls Try.prog 97 #[.slice A n c] w (Ans8 w (enc bs)) := by
  have PT := Lib.hid (tokens_is A n c bs w hr hn hby hl hc)
  by_cases hlong : 4096 < n
  · have HE : Hid (enc bs = ([], 2)) := Lib.hid (enc_long (by rw [hn]; exact hlong))
    have HT : Hid (tks bs = ([], 2)) := Lib.hid (tks_long (by rw [hn]; exact hlong))
    rw [HT.out] at PT
    obtain ⟨q, hq⟩ : ∃ q, q = enc bs := ⟨_, rfl⟩
    rw [← hq] at HE ⊢
    clear hr hn hby hq
    go_enter Try.func97, Try.ntmps97
    go_wp2_with fail
    refine PT.out.mono ?_
    rintro e w1 ⟨A1, c1, N1, l1, rfl, hq1, ht1, hb1⟩
    have HB1 := Lib.hid hb1
    clear hq1 ht1 hb1
    go_wp2_with fail
    go_ret2
    exact ans8_none _ _ _ _ HE.out HB1.out
  · have HE : Hid (enc bs = (blk n (tokens bs), 0)) := Lib.hid (by rw [← hn]; exact enc_short (by rw [hn]; exact hlong))
    have HT : Hid (tks bs = (tokens bs, 0)) := Lib.hid (tks_short (by rw [hn]; exact hlong))
    have hx := exp_tokens (t := bs) (by omega)
    have HF := Lib.hid (fine_of_exp hx).1
    have HC := Lib.hid (fine_count hx)
    have HW := Lib.hid (wr_ok hx)
    rw [hn] at HW
    rw [HT.out] at PT
    have hn4 : n ≤ 4096 := by omega
    obtain ⟨q, hq⟩ : ∃ q, q = enc bs := ⟨_, rfl⟩
    rw [← hq] at HE ⊢
    obtain ⟨T, hT⟩ : ∃ T, T = tokens bs := ⟨_, rfl⟩
    rw [← hT] at PT HE HF HC HW
    clear hr hn hby hq hT hx HT hlong
    go_enter Try.func97, Try.ntmps97
    go_wp2_with fail
    refine PT.out.mono ?_
    rintro e w1 ⟨A1, c1, N1, l1, rfl, hq1, ht1, hb1⟩
    have HB1 := Lib.hid hb1
    have HT1 := Lib.hid ht1
    have HQ1 : Hid (toks l1 = T) := Lib.hid hq1
    have hN1 : N1 ≤ 4096 := by have h := HC.out; rw [← HQ1.out, toks_len, HT1.out.len] at h; exact h
    clear hq1 ht1 hb1 PT
    have P2 := Lib.hid (block_is n A1 N1 c1 l1 w1 hn4 HT1.out.rd HT1.out.len HT1.out.ok (fun x hx => HF.out _ (by rw [← HQ1.out]; exact List.mem_map.2 ⟨x, hx, rfl⟩)) hN1)
    rw [HQ1.out] at P2
    go_wp2_with fail
    refine P2.out.mono ?_
    rintro e w2 ⟨A2, c2, rfl, ho2, hb2⟩
    have HO2 := Lib.hid (own_mono ho2 HB1.out.size)
    have HB2 := Lib.hid (HB1.out.trans (hb2.mono HB1.out.size))
    clear ho2 hb2 P2
    go_wp2_with fail
    go_ret2
    exact ans8_some _ _ _ (blk n T) _ _ _ HE.out rfl HO2.out HB2.out

set_option maxHeartbeats 2000000 in
set_option maxRecDepth 100000 in
theorem rencode_is (A : Option Addr) (n c : Nat) (bs : List Nat) (w : World) (hr : Rd w A (b8 bs)) (hn : bs.length = n) (hby : By bs) (hl : n ≤ 140737488351232) :
    Calls Try.prog 92 #[.slice A n c] w (Ans8 w (enc bs)) := by
  have PT := Lib.hid (rtokens_is A n c bs w hr hn hby hl)
  by_cases hlong : 4096 < n
  · have HE : Hid (enc bs = ([], 2)) := Lib.hid (enc_long (by rw [hn]; exact hlong))
    have HT : Hid (tks bs = ([], 2)) := Lib.hid (tks_long (by rw [hn]; exact hlong))
    rw [HT.out] at PT
    obtain ⟨q, hq⟩ : ∃ q, q = enc bs := ⟨_, rfl⟩
    rw [← hq] at HE ⊢
    clear hr hn hby hq
    go_enter Try.func92, Try.ntmps92
    go_wp2_with fail
    refine PT.out.mono ?_
    rintro e w1 ⟨A1, c1, N1, l1, rfl, hq1, ht1, hb1⟩
    have HB1 := Lib.hid hb1
    clear hq1 ht1 hb1
    go_wp2_with fail
    go_ret2
    exact ans8_none _ _ _ _ HE.out HB1.out
  · have HE : Hid (enc bs = (blk n (tokens bs), 0)) := Lib.hid (by rw [← hn]; exact enc_short (by rw [hn]; exact hlong))
    have HT : Hid (tks bs = (tokens bs, 0)) := Lib.hid (tks_short (by rw [hn]; exact hlong))
    have hx := exp_tokens (t := bs) (by omega)
    have HF := Lib.hid (fine_of_exp hx).1
    have HC := Lib.hid (fine_count hx)
    have HW := Lib.hid (wr_ok hx)
    rw [hn] at HW
    rw [HT.out] at PT
    have hn4 : n ≤ 4096 := by omega
    obtain ⟨q, hq⟩ : ∃ q, q = enc bs := ⟨_, rfl⟩
    rw [← hq] at HE ⊢
    obtain ⟨T, hT⟩ : ∃ T, T = tokens bs := ⟨_, rfl⟩
    rw [← hT] at PT HE HF HC HW
    clear hr hn hby hq hT hx HT hlong
    go_enter Try.func92, Try.ntmps92
    go_wp2_with fail
    refine PT.out.mono ?_
    rintro e w1 ⟨A1, c1, N1, l1, rfl, hq1, ht1, hb1⟩
    have HB1 := Lib.hid hb1
    have HT1 := Lib.hid ht1
    have HQ1 : Hid (toks l1 = T) := Lib.hid hq1
    have hN1 : N1 ≤ 4096 := by have h := HC.out; rw [← HQ1.out, toks_len, HT1.out.len] at h; exact h
    clear hq1 ht1 hb1 PT
    have P2 := Lib.hid (rwrite_is A1 N1 c1 l1 w1 HT1.out.rd HT1.out.len HT1.out.ok (by omega))
    rw [HQ1.out, HW.out] at P2
    go_wp2_with fail
    refine P2.out.mono ?_
    rintro e w2 ⟨A2, c2, rfl, ho2, hb2⟩
    have HO2 := Lib.hid (own_mono ho2 HB1.out.size)
    have HB2 := Lib.hid (HB1.out.trans (hb2.mono HB1.out.size))
    clear ho2 hb2 P2
    go_wp2_with fail
    go_ret2
    exact ans8_some _ _ _ (blk n T) _ _ _ HE.out rfl HO2.out HB2.out
end Go.Proofs.Ytljfmcgeiceagaa
