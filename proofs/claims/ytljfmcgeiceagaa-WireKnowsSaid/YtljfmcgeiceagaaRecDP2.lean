/- What the program reads as a record has just these bytes: in plain words. -/
import Derived.Test.YtljfmcgeiceagaaRecDP
namespace Go.Proofs.Ytljfmcgeiceagaa
open Go Go.RowKit
set_option linter.unusedVariables false
set_option linter.unusedSimpArgs false

/-- Where a reader stands, no error behind it. -/
structure At (bs : List Nat) (s : Rs) (pre : List Nat) : Prop where
  ok : s.Ok
  err : s.err = 0
  same : s.bs = bs
  pre : bs.take s.p = pre
theorem take_join {bs : List Nat} {p k : Nat} : bs.take (p + k) = bs.take p ++ (bs.drop p).take k := List.take_add
theorem take_err {s : Rs} {n : Int} (h : (s.take n).2.err = 0) : s.err = 0 := by
  apply Classical.byContradiction
  intro h0
  unfold Rs.take at h
  rw [if_pos h0] at h
  exact h0 h
theorem text_err {s : Rs} {n : Int} (hs : s.Ok) (h : (s.text n).2.err = 0) : s.num.2.err = 0 := by
  apply Classical.byContradiction
  intro h0
  rw [Rs.text_bad n h0] at h
  exact h0 h
theorem At.take {bs pre : List Nat} {s : Rs} (h : At bs s pre) {n : Nat} (he : (s.take n).2.err = 0) : At bs (s.take n).2 (pre ++ (s.take n).1) ∧ (s.take n).1.length = n := by
  obtain ⟨hr, ht⟩ := take_back h.err he
  have hok := h.ok.take n
  rw [ht] at hok ⊢
  refine ⟨⟨hok, h.err, h.same, ?_⟩, ?_⟩
  · simp only [Rs.go]
    rw [take_join, h.pre, h.same]
  · simp only [List.length_take, List.length_drop]
    unfold Rs.rest at hr
    omega
theorem At.num {bs pre : List Nat} {s : Rs} (h : At bs s pre) (he : s.num.2.err = 0) : At bs s.num.2 (pre ++ Uv.uv s.num.1) := by
  obtain ⟨h1, h2, h3, h4⟩ := num_back h.ok h.err he
  have hok := h.ok.num.1
  rw [h3] at hok
  refine ⟨by rw [h3]; exact hok, he, by rw [h3]; exact h.same, ?_⟩
  rw [h3]
  simp only [Rs.go]
  rw [take_join, h.pre]
  rw [h.same] at h4
  rw [h4]
theorem n63_back {s : Rs} (hok : s.Ok) (he : (n63 s).2.err = 0) : s.num.2.err = 0 ∧ s.num.1 < 9223372036854775808 ∧ (n63 s).2 = s.num.2 ∧ (n63 s).1 = (s.num.1 : Int) := by
  unfold n63 at he ⊢
  simp only at he ⊢
  by_cases h : 9223372036854775808 ≤ s.num.1
  · rw [if_pos h] at he
    by_cases h0 : s.num.2.err = 0
    · rw [Rs.fail, Rs.failAt_yes _ h0 (by decide)] at he
      simp at he
    · rw [Rs.fail, Rs.failAt_bad _ h0] at he
      exact absurd he h0
  · rw [if_neg h] at he ⊢
    exact ⟨he, by omega, rfl, sg_small (by omega)⟩
theorem n63_ok {s : Rs} (hok : s.Ok) : (n63 s).2.Ok := by
  unfold n63
  simp only
  split
  · exact hok.num.1.fail (by omega)
  · exact hok.num.1
theorem pst_ok {pr : Prop} [Decidable pr] {s : Rs} (hok : s.Ok) : (pst pr s).2.Ok := by
  unfold pst
  split
  · exact n63_ok hok
  · exact hok
theorem n63_err {s : Rs} (hok : s.Ok) (he : (n63 s).2.err = 0) : s.err = 0 := Rs.num_ok hok (n63_back hok he).1
theorem pst_err {pr : Prop} [Decidable pr] {s : Rs} (hok : s.Ok) (he : (pst pr s).2.err = 0) : s.err = 0 := by
  unfold pst at he
  split at he
  · exact n63_err hok he
  · exact he
theorem At.n63 {bs pre : List Nat} {s : Rs} (h : At bs s pre) (he : (n63 s).2.err = 0) : ∃ v : Nat, (Go.Proofs.Ytljfmcgeiceagaa.n63 s).1 = (v : Int) ∧ v < 9223372036854775808 ∧ At bs (Go.Proofs.Ytljfmcgeiceagaa.n63 s).2 (pre ++ Uv.uv v) := by
  obtain ⟨h1, h2, h3, h4⟩ := n63_back h.ok he
  refine ⟨s.num.1, h4, h2, ?_⟩
  rw [h3]
  exact h.num h1
theorem At.text {bs pre : List Nat} {s : Rs} (h : At bs s pre) (he : (s.text 64).2.err = 0) : At bs (s.text 64).2 (pre ++ (Uv.uv (s.text 64).1.length ++ (s.text 64).1)) := by
  have hn := text_err h.ok he
  have ha := h.num hn
  by_cases hm : max 64 0 < (s.num.1 : Int)
  · rw [Rs.text_long h.ok 64 hn hm, Rs.failAt_yes _ hn (by decide)] at he
    simp at he
  · by_cases hr : s.num.2.rest < s.num.1
    · rw [Rs.text_short h.ok 64 hn (by omega) hr, Rs.failAt_yes _ hn (by decide)] at he
      simp at he
    · have hy := Rs.text_yes h.ok 64 hn (by omega) (by omega)
      have hok := (h.ok.text 64).1
      rw [hy] at hok ⊢
      have hl : ((s.bs.drop s.num.2.p).take s.num.1).length = s.num.1 := by
        unfold Rs.rest at hr
        have := ha.same
        rw [List.length_take, List.length_drop]
        rw [this] at hr
        rw [h.same]
        omega
      refine ⟨hok, hn, ha.same, ?_⟩
      rw [hl]
      simp only [Rs.go]
      rw [take_join, ha.pre, h.same, List.append_assoc]
theorem fin_zero {s : Rs} (h : s.fin.1 = 0) : s.err = 0 ∧ s.bs.length ≤ s.p := by
  unfold Rs.fin at h
  split at h
  · rename_i h0; exact absurd h h0
  · rename_i h0
    split at h
    · simp at h
    · exact ⟨by simpa using h0, by omega⟩
theorem headD_one {l : List Nat} (h : l.length = 1) : l = [l.headD 0] := by
  match l, h with
  | [a], _ => rfl
/-- What is told of a value. -/
theorem pfin_back {f : Nat} {o t p s : Int} {k v : List Nat} {x : Rc} (hv : By v) (hvl : v.length ≤ 1115) (h : pfin f o t p s k v = some x) :
    ∃ u, By u ∧ x = ⟨if f % 2 = 1 then 2 else 1, o, t, p, s, strOf k, strOf u⟩ ∧ chk x = 0 ∧ shrt u = (v, decide (f / 2 % 2 = 1)) := by
  unfold pfin at h
  by_cases hf : f / 2 % 2 = 1
  · rw [if_pos hf] at h
    rcases dec_cases hv (by omega) with hd | ⟨u, hd, he, hu4, hu⟩
    · rw [hd] at h
      simp at h
    · rw [hd] at h
      simp only [ne_eq, not_true_eq_false, if_false] at h
      rw [decide_eq_true hf] at h ⊢
      by_cases hs : (shrt u).2 = true
      · rw [hs] at h
        simp only [not_true_eq_false, if_false] at h
        by_cases hc : chk ⟨if f % 2 = 1 then 2 else 1, o, t, p, s, strOf k, strOf u⟩ = 0
        · rw [if_pos hc] at h
          injection h with h
          refine ⟨u, hu, h.symm, by rw [← h]; exact hc, ?_⟩
          unfold shrt at hs ⊢
          split at hs
          · rename_i h2; rw [if_pos h2, he]
          · simp at hs
        · rw [if_neg hc] at h; cases h
      · rw [if_pos (by simpa using hs)] at h; cases h
  · rw [if_neg hf] at h
    simp only [ne_eq, not_true_eq_false, if_false] at h
    rw [decide_eq_false hf] at h ⊢
    by_cases hs : (shrt v).2 = false
    · rw [if_neg (by simpa using hs)] at h
      by_cases hc : chk ⟨if f % 2 = 1 then 2 else 1, o, t, p, s, strOf k, strOf v⟩ = 0
      · rw [if_pos hc] at h
        injection h with h
        exact ⟨v, hv, h.symm, by rw [← h]; exact hc, Prod.ext (shrt_same (by simp [hs])) hs⟩
      · rw [if_neg hc] at h; cases h
    · rw [if_pos (by simpa using hs)] at h; cases h
theorem prd_back {bs : List Nat} {x : Rc} (hby : By bs) (hl : bs.length ≤ 1115) (h : prd bs = some x) : May x ∧ bdy x = bs := by
  have hok0 : (⟨bs, 0, 0, 0⟩ : Rs).Ok := ⟨by simp, hby, by simp only; omega, fun _ => rfl, fun h => absurd rfl h, by simp, by simp⟩
  have at0 : At bs ⟨bs, 0, 0, 0⟩ [] := ⟨hok0, rfl, rfl, by simp⟩
  have okz := hok0.take 1
  unfold prd at h
  obtain ⟨f, hf⟩ : ∃ f, f = ((⟨bs, 0, 0, 0⟩ : Rs).take 1).1.headD 0 := ⟨_, rfl⟩
  obtain ⟨z, hz⟩ : ∃ z, z = ((⟨bs, 0, 0, 0⟩ : Rs).take 1).2 := ⟨_, rfl⟩
  rw [← hf, ← hz] at h
  rw [← hz] at okz
  unfold prd1 at h
  simp only at h
  obtain ⟨a, ha⟩ : ∃ a, a = n63 z := ⟨_, rfl⟩
  rw [← ha] at h
  have oka : a.2.Ok := by rw [ha]; exact n63_ok okz
  obtain ⟨b, hb⟩ : ∃ b, b = n63 a.2 := ⟨_, rfl⟩
  rw [← hb] at h
  have okb : b.2.Ok := by rw [hb]; exact n63_ok oka
  obtain ⟨c, hc⟩ : ∃ c, c = pst (f / 4 % 2 = 1) b.2 := ⟨_, rfl⟩
  rw [← hc] at h
  have okc : c.2.Ok := by rw [hc]; exact pst_ok okb
  obtain ⟨d, hd⟩ : ∃ d, d = pst (f / 4 % 2 = 1) c.2 := ⟨_, rfl⟩
  rw [← hd] at h
  have okd : d.2.Ok := by rw [hd]; exact pst_ok okc
  obtain ⟨k, hk⟩ : ∃ k, k = d.2.text 64 := ⟨_, rfl⟩
  rw [← hk] at h
  have okk : k.2.Ok ∧ By k.1 := by rw [hk]; exact okd.text 64
  obtain ⟨v, hv⟩ : ∃ v, v = k.2.take (k.2.rest : Nat) := ⟨_, rfl⟩
  rw [← hv] at h
  have okv : v.2.Ok ∧ By v.1 := by rw [hv]; exact ⟨okk.1.take _, k.2.take_by okk.1 _⟩
  by_cases hcond : 8 ≤ f ∨ v.2.fin.1 ≠ 0 ∨ (f / 4 % 2 = 1 ∧ c.1 = 0)
  · rw [if_pos hcond] at h; cases h
  rw [if_neg hcond] at h
  have hf8 : f < 8 := by omega
  have hfin : v.2.fin.1 = 0 := Classical.byContradiction fun e => hcond (.inr (.inl e))
  obtain ⟨ev, hvp⟩ := fin_zero hfin
  have ek : k.2.err = 0 := take_err (by rw [← hv]; exact ev)
  have ed : d.2.err = 0 := Rs.num_ok okd (text_err okd (by rw [← hk]; exact ek))
  have ec : c.2.err = 0 := pst_err okc (by rw [← hd]; exact ed)
  have eb : b.2.err = 0 := pst_err okb (by rw [← hc]; exact ec)
  have ea : a.2.err = 0 := n63_err oka (by rw [← hb]; exact eb)
  have ez : z.err = 0 := n63_err okz (by rw [← ha]; exact ea)
  obtain ⟨atz, lz⟩ := at0.take (n := 1) (by have := ez; rw [hz] at this; exact this)
  have hz1 := headD_one lz
  have atz2 : At bs z [f] := by
    rw [hz, hf]
    have := atz
    rw [hz1] at this
    exact this
  obtain ⟨o, eo, lo, ata⟩ := atz2.n63 (by rw [← ha]; exact ea)
  rw [← ha] at eo ata
  obtain ⟨t, et, lt, atb⟩ := ata.n63 (by rw [← hb]; exact eb)
  rw [← hb] at et atb
  obtain ⟨N, hN⟩ : ∃ N, N = (if f / 4 % 2 = 1 then Uv.uv c.1.toNat ++ Uv.uv d.1.toNat else []) := ⟨_, rfl⟩
  have atd : At bs d.2 ([f] ++ Uv.uv o ++ Uv.uv t ++ N) ∧ 0 ≤ c.1 ∧ 0 ≤ d.1 ∧ (¬ f / 4 % 2 = 1 → c.1 = 0 ∧ d.1 = 0) := by
    by_cases h4 : f / 4 % 2 = 1
    · rw [if_pos h4] at hN
      rw [pst_yes h4] at hc
      rw [pst_yes h4] at hd
      obtain ⟨p, ep, lp, atc⟩ := atb.n63 (by rw [← hc]; exact ec)
      rw [← hc] at ep atc
      obtain ⟨q, eq, lq, atd⟩ := atc.n63 (by rw [← hd]; exact ed)
      rw [← hd] at eq atd
      rw [ep, eq] at hN
      simp only [Int.toNat_natCast] at hN
      refine ⟨?_, by omega, by omega, fun e => absurd h4 e⟩
      rw [hN, ← List.append_assoc]
      exact atd
    · rw [if_neg h4] at hN
      rw [pst_no h4] at hc
      rw [pst_no h4] at hd
      rw [hd, hc, hN, List.append_nil]
      exact ⟨atb, by simp, by simp, fun _ => ⟨rfl, rfl⟩⟩
  obtain ⟨atd, hc0, hd0, hcz⟩ := atd
  have atk := atd.text (by rw [← hk]; exact ek)
  rw [← hk] at atk
  obtain ⟨atv, lv⟩ := atk.take (n := k.2.rest) (by rw [← hv]; exact ev)
  rw [← hv] at atv lv
  have hall := atv.pre
  have hvp2 : bs.length ≤ v.2.p := by have := atv.same; rw [this] at hvp; exact hvp
  rw [List.take_of_length_le hvp2] at hall
  have hvl : v.1.length ≤ 1115 := by
    rw [lv]
    unfold Rs.rest
    have := atk.same
    rw [this]
    omega
  obtain ⟨u, hu, hx, hck, hsh⟩ := pfin_back okv.2 hvl h
  have hm := chk_may hck
  refine ⟨hm, ?_⟩
  rw [hall]
  have hval : sb x.val = u := by rw [hx]; exact sb_strOf hu
  have hkey : sb x.key = k.1 := by rw [hx]; exact sb_strOf okk.2
  have hks : x.key.size = k.1.length := by rw [← hkey, sb_length]
  have hxo : x.o.toNat = o := by rw [hx]; simp only; omega
  have hxt : x.t.toNat = t := by rw [hx]; simp only; omega
  have hxp : x.p = c.1 := by rw [hx]
  have hxs : x.s = d.1 := by rw [hx]
  have hxk : x.k = if f % 2 = 1 then 2 else 1 := by rw [hx]
  have hp4 : 0 < x.p ↔ f / 4 % 2 = 1 := by
    rw [hxp]
    constructor
    · intro h0
      apply Classical.byContradiction
      intro e
      have := (hcz e).1
      omega
    · intro e
      have : c.1 ≠ 0 := fun e0 => hcond (.inr (.inr ⟨e, e0⟩))
      omega
  have hfl : flg x = f := by
    unfold flg
    rw [hval, hsh, hxk]
    simp only [decide_eq_true_eq]
    by_cases h1 : f % 2 = 1 <;> by_cases h2 : f / 2 % 2 = 1 <;> by_cases h3 : f / 4 % 2 = 1 <;> simp only [h1, h2, h3, hp4, if_true, if_false, if_pos, if_neg, not_false_eq_true] <;> simp <;> omega
  have hnm : nums x = N := by
    unfold nums
    rw [hN, hxp, hxs]
    by_cases h3 : f / 4 % 2 = 1
    · rw [if_pos h3, if_pos (by rw [← hxp]; exact hp4.2 h3)]
    · rw [if_neg h3, if_neg (by rw [← hxp]; exact fun e => h3 (hp4.1 e))]
  unfold bdy
  rw [hfl, hxo, hxt, hnm, hks, hkey, hval, hsh]
  simp only [List.append_assoc]
/-- The program's Decode: the same. -/
theorem wrap_take {b : List Nat} (hb : By b) {n : Nat} (h169 : b.headD 0 = 169) (hn : val ((b.drop 1).take 4) = n) (hl : 9 + n ≤ b.length) (B : List Nat) (hB : By B) :
    wrap 169 B = b.take (9 + n) ↔ B = (b.drop 9).take n ∧ val ((b.drop 5).take 4) = Crc.ext (Crc.ext 0 ((b.drop 1).take 4)) ((b.drop 9).take n) := by
  have hb1 : By ((b.drop 1).take 4) := (hb.drop 1).take 4
  have hb5 : By ((b.drop 5).take 4) := (hb.drop 5).take 4
  have l1 : ((b.drop 1).take 4).length = 4 := by simp only [List.length_take, List.length_drop]; omega
  have l5 : ((b.drop 5).take 4).length = 4 := by simp only [List.length_take, List.length_drop]; omega
  have l9 : ((b.drop 9).take n).length = n := by simp only [List.length_take, List.length_drop]; omega
  have f1 : fx n 4 = (b.drop 1).take 4 := by rw [← hn]; exact fx_val hb1 l1
  constructor
  · intro h
    have hlen : B.length = n := by
      have := congrArg List.length h
      rw [wrap_length, List.length_take] at this
      omega
    obtain ⟨p0, p1, p2, p3⟩ := wrap_parts 169 B
    have e9 : B = (b.drop 9).take n := by
      rw [← p3, h, List.drop_take]
      congr 1
      omega
    refine ⟨e9, ?_⟩
    have e5 : fx (crcOf B) 4 = (b.drop 5).take 4 := by
      rw [← p2, h, List.drop_take, List.take_take]
      congr 1
      omega
    rw [← e5, val_fx (crcOf_lt hB)]
    unfold crcOf
    rw [hlen, f1, e9]
  · rintro ⟨rfl, h⟩
    have e5 : fx (crcOf ((b.drop 9).take n)) 4 = (b.drop 5).take 4 := by
      unfold crcOf
      rw [l9, f1, ← h]
      exact fx_val hb5 l5
    have hs := split9 (b := b.take (9 + n)) (by rw [List.length_take]; omega)
    rw [hs]
    unfold wrap
    rw [l9, f1, e5]
    have a1 : (b.take (9 + n)).headD 0 = 169 := by
      rw [← h169]
      cases b with
      | nil => simp at hl
      | cons x r => rw [show 9 + n = (8 + n) + 1 by omega, List.take_succ_cons]; rfl
    have a2 : ((b.take (9 + n)).drop 1).take 4 = (b.drop 1).take 4 := by
      rw [List.drop_take, List.take_take]; congr 1; omega
    have a3 : ((b.take (9 + n)).drop 5).take 4 = (b.drop 5).take 4 := by
      rw [List.drop_take, List.take_take]; congr 1; omega
    have a4 : (b.take (9 + n)).drop 9 = (b.drop 9).take n := by
      rw [List.drop_take]; congr 1; omega
    rw [a1, a2, a3, a4]
theorem prd_iff {bs : List Nat} (hby : By bs) (hl : bs.length ≤ 1115) (x : Rc) : prd bs = some x ↔ (x = rdm bs ∧ chk (rdm bs) = 0 ∧ bdy (rdm bs) = bs) := by
  constructor
  · intro h
    obtain ⟨hm, hb⟩ := prd_back hby hl h
    have hr : rdm bs = x := by rw [← hb]; exact rdm_bdy hm
    rw [hr]
    exact ⟨rfl, may_chk hm, hb⟩
  · rintro ⟨rfl, hc, hb⟩
    have := prd_bdy (chk_may hc)
    rw [hb] at this
    exact this
/-- By the program's steps. -/
theorem rdec_prog {b : List Nat} (hb : By b) {n : Nat} (h0 : ¬ b.length = 0) (h169 : b.headD 0 = 169) (h5 : ¬ b.length < 5) (hn : val ((b.drop 1).take 4) = n) (hr : ¬ (n < 5 ∨ 1115 < n)) (hl : ¬ b.length < 9 + n) :
    rdec b = if val ((b.drop 5).take 4) = Crc.ext (Crc.ext 0 ((b.drop 1).take 4)) ((b.drop 9).take n) then (match prd ((b.drop 9).take n) with | some x => (x, 9 + n, 0) | none => (rc0, 0, 41)) else (rc0, 0, 41) := by
  unfold rdec
  rw [if_neg h0, if_neg (by simpa using h169), if_neg h5, hn, if_neg hr, if_neg hl]
  have hb9 : By ((b.drop 9).take n) := (hb.drop 9).take n
  have l9 : ((b.drop 9).take n).length = n := by simp only [List.length_take, List.length_drop]; omega
  have hi := fun x => prd_iff hb9 (by omega) x
  by_cases hs : val ((b.drop 5).take 4) = Crc.ext (Crc.ext 0 ((b.drop 1).take 4)) ((b.drop 9).take n)
  · rw [if_pos hs]
    cases hp : prd ((b.drop 9).take n) with
    | some x =>
      obtain ⟨e, hc, hB⟩ := (hi x).1 hp
      simp only
      rw [if_pos ⟨hc, (wrap_take hb h169 hn (by omega) _ (by rw [hB]; exact hb9)).2 ⟨hB, hs⟩⟩, e]
    | none =>
      simp only
      rw [if_neg]
      rintro ⟨hc, hw⟩
      have := (wrap_take hb h169 hn (by omega) _ (bdy_by (chk_may hc))).1 hw
      have h2 := (hi _).2 ⟨rfl, hc, this.1⟩
      rw [hp] at h2
      cases h2
  · rw [if_neg hs, if_neg]
    rintro ⟨hc, hw⟩
    exact hs ((wrap_take hb h169 hn (by omega) _ (bdy_by (chk_may hc))).1 hw).2
end Go.Proofs.Ytljfmcgeiceagaa
