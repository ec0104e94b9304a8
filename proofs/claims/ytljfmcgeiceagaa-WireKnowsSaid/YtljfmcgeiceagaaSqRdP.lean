/- Read: the tokens that bytes tell; in plain words. -/
import Derived.Test.YtljfmcgeiceagaaS1
import Derived.Test.YtljfmcgeiceagaaF4
namespace Go.Proofs.Ytljfmcgeiceagaa
open Go Go.RowKit
set_option linter.unusedVariables false
set_option linter.unusedSimpArgs false

theorem exp_append : ∀ (a r : List Tk) (text : List Nat), (exp text a).2 = 0 → exp text (a ++ r) = exp (exp text a).1 r
  | [], r, text, h => rfl
  | t :: a, r, text, h => by
    unfold exp at h
    split at h
    · rename_i h1
      split at h
      · simp at h
      · rename_i h2
        have ih := exp_append a r _ h
        rw [List.cons_append, exp, if_pos h1, if_neg h2, ih]
        rw [exp, if_pos h1, if_neg h2]
    · simp at h
theorem exp_snoc {ts : List Tk} {t : Tk} {T : List Nat} (h : exp [] ts = (T, 0)) (hr : rt t T.length = true) (hl : T.length + t.lit.length + t.l.toNat ≤ 4096) : exp [] (ts ++ [t]) = (addTk T t, 0) := by
  rw [exp_append ts [t] [] (by rw [h]), h]
  simp only
  rw [exp, if_pos hr, if_neg (by omega)]
  rfl
theorem exp_grows {T Z : List Nat} {r : List Tk} (h : exp T r = (Z, 0)) : T.length ≤ Z.length := by
  have := (fine_of_exp h).2
  omega

theorem num_uv {s : Rs} (h0 : s.err = 0) {v : Nat} (hv : v < 18446744073709551616) {t : List Nat} (hb : s.bs.drop s.p = Uv.uv v ++ t) : s.num = (v, s.go (Uv.uv v).length) := by
  have h1 := Uv.ru_uv t v 0 0 (by simpa using hv) (by omega) (by omega)
  unfold Rs.num
  rw [if_neg (by simp [h0]), hb, h1]
  simp
theorem go_drop {s : Rs} {xs t : List Nat} (hb : s.bs.drop s.p = xs ++ t) : (s.go xs.length).bs.drop (s.go xs.length).p = t := by
  unfold Rs.go
  simp only
  rw [← List.drop_drop, hb]
  simp
theorem take_at {s : Rs} (h0 : s.err = 0) {xs t : List Nat} (hb : s.bs.drop s.p = xs ++ t) : s.take (xs.length : Nat) = (xs, s.go xs.length) := by
  have hl := congrArg List.length hb
  rw [List.length_drop, List.length_append] at hl
  unfold Rs.take
  rw [if_neg (by simp [h0]), if_neg (by omega), if_neg (by unfold Rs.rest; omega), hb]
  simp
theorem num_got {s : Rs} (h : s.Ok) (h1 : s.num.2.err = 0) : ∃ t, s.bs.drop s.p = Uv.uv s.num.1 ++ t ∧ s.num.2 = s.go (Uv.uv s.num.1).length ∧ s.num.1 < 18446744073709551616 := by
  have h0 := Rs.num_ok h h1
  obtain ⟨v, k, x, hr, hv, h2 | h2⟩ := Rs.num_cases h h0
  · rw [h2.2.2]
    obtain ⟨v', e1, e2, e3, e4, _, _⟩ := Uv.ru_taken (s.bs.drop s.p) 0 0 (by_drop h.by_ s.p) (by omega) (by omega) (by rw [hr]; exact h2.1)
    rw [hr] at e1 e2
    simp only [Nat.zero_add, Nat.pow_zero, Nat.mul_one] at e1 e2
    subst e1 e2
    refine ⟨(s.bs.drop s.p).drop (Uv.uv v).length, ?_, rfl, hv⟩
    simp only
    conv => lhs; rw [← List.take_append_drop (Uv.uv v).length (s.bs.drop s.p), e4]
  · rw [h2.2.2] at h1
    simp only at h1
    omega
theorem num_zero {s : Rs} (h : s.Ok) (h1 : s.num.2.err ≠ 0) : s.num.1 = 0 := by
  by_cases h0 : s.err = 0
  · obtain ⟨v, k, x, hr, hv, h2 | h2⟩ := Rs.num_cases h h0
    · rw [h2.2.2] at h1
      exact absurd h0 h1
    · rw [h2.2.2]
  · rw [Rs.num_bad h0]
theorem take_got {s : Rs} {n : Nat} (h1 : 0 < (s.take (n : Nat)).1.length) : s.err = 0 ∧ (s.take (n : Nat)).1.length = n ∧ (∃ t, s.bs.drop s.p = (s.take (n : Nat)).1 ++ t) ∧ (s.take (n : Nat)).2 = s.go n := by
  unfold Rs.take at h1 ⊢
  split at h1
  · simp at h1
  rename_i a1
  rw [if_neg a1]
  split at h1
  · simp at h1
  rename_i a2
  rw [if_neg a2]
  split at h1
  · simp at h1
  rename_i a3
  rw [if_neg a3]
  simp only [Int.toNat_natCast]
  refine ⟨by simpa using a1, ?_, ⟨(s.bs.drop s.p).drop n, by rw [List.take_append_drop]⟩, trivial⟩
  unfold Rs.rest at a3
  rw [List.length_take, List.length_drop]
  omega
theorem go_go (s : Rs) (a b : Nat) : (s.go a).go b = s.go (a + b) := by unfold Rs.go; simp [Nat.add_assoc]

/-- One token, read. -/
def rdTok (s : Rs) : Tk × Rs :=
  if s.num.1 % 2 = 0 then (⟨(s.num.2.take (s.num.1 / 2 : Nat)).1, 0, 0⟩, (s.num.2.take (s.num.1 / 2 : Nat)).2)
  else if s.num.2.num.1 ≤ 2048 then (⟨[], (s.num.2.num.1 : Nat), (s.num.1 / 2 : Nat)⟩, s.num.2.num.2) else (⟨[], 0, 0⟩, s.num.2.num.2)
def rdLoop (n : Nat) : Nat → Rs → Nat → List Tk → List Tk × Int
  | 0, _, _, _ => ([], 20)
  | f + 1, s, z, ts =>
    if s.rest = 0 then (if s.err = 0 ∧ z = n then (ts, 0) else ([], 20))
    else if 4096 < s.num.1 / 2 then ([], 20)
    else if rt (rdTok s).1 z = true then
      (if n < z + (rdTok s).1.lit.length + (rdTok s).1.l.toNat then ([], 20) else rdLoop n f (rdTok s).2 (z + (rdTok s).1.lit.length + (rdTok s).1.l.toNat) (ts ++ [(rdTok s).1]))
    else ([], 20)
def rd0 (b : List Nat) : Rs := ⟨b, 0, 0, 0⟩
def rd (b : List Nat) : List Tk × Int := if 4096 < (rd0 b).num.1 then ([], 20) else rdLoop (rd0 b).num.1 (b.length + 1) (rd0 b).num.2 0 []

theorem rt_none (z : Nat) : rt ⟨[], 0, 0⟩ z = false := by
  cases h : rt ⟨[], 0, 0⟩ z with
  | false => rfl
  | true =>
    rcases rt_cases h with h1 | h1
    · simp at h1
    · simp at h1
theorem rdTok_ok {s : Rs} (h : s.Ok) : (rdTok s).2.Ok := by
  unfold rdTok
  split
  · exact h.num.1.take _
  split
  · exact h.num.1.num.1
  · exact h.num.1.num.1
theorem rdTok_by {s : Rs} (h : s.Ok) : By (rdTok s).1.lit := by
  unfold rdTok
  split
  · exact Rs.take_by h.num.1 _
  split
  · intro b hb; cases hb
  · intro b hb; cases hb
/-- What is right has been there. -/
theorem rdTok_sound {s : Rs} (h : s.Ok) {z : Nat} (hr : rt (rdTok s).1 z = true) : ∃ t, s.err = 0 ∧ s.bs.drop s.p = bt (rdTok s).1 ++ t ∧ (rdTok s).2 = s.go (bt (rdTok s).1).length := by
  unfold rdTok at hr ⊢
  split at hr
  · rename_i he
    rw [if_pos he]
    rcases rt_cases hr with h1 | h1
    · have h2 := h1.1
      simp only at h2
      obtain ⟨e0, e1, ⟨t, e2⟩, e3⟩ := take_got h2
      obtain ⟨t', n1, n2, n3⟩ := num_got h e0
      simp only
      rw [bt_lit h2]
      simp only
      rw [e1, show 2 * (s.num.1 / 2) = s.num.1 by omega]
      rw [n2] at e2 e3 ⊢
      rw [go_drop n1] at e2
      refine ⟨t, Rs.num_ok h e0, ?_, ?_⟩
      · rw [n1, e2, List.append_assoc]
      · rw [e3, go_go, List.length_append]
        rw [n2] at e1
        rw [e1]
    · have h2 := h1.2.1
      simp only at h2
      omega
  · rename_i he
    rw [if_neg he]
    split at hr
    · rename_i hd
      rw [if_pos hd]
      rcases rt_cases hr with h1 | h1
      · simp at h1
      · obtain ⟨_, h2, h3, h4, h5, _⟩ := h1
        simp only at h2 h3 h4 h5
        have e1 : s.num.2.num.2.err = 0 := by
          apply Classical.byContradiction
          intro hn
          have := num_zero h.num.1 hn
          omega
        have e0 := Rs.num_ok h.num.1 e1
        obtain ⟨t, n1, n2, n3⟩ := num_got h e0
        obtain ⟨t', m1, m2, m3⟩ := num_got h.num.1 e1
        simp only
        rw [bt_match (by simp)]
        simp only [Int.toNat_natCast]
        rw [show 2 * (s.num.1 / 2) + 1 = s.num.1 by omega]
        refine ⟨t', Rs.num_ok h e0, ?_, ?_⟩
        · rw [n2, go_drop n1] at m1
          conv => lhs; rw [n1, m1]
          rw [n2, List.append_assoc]
        · rw [m2]
          conv => lhs; rw [n2]
          rw [go_go, List.length_append, n2]
    · rename_i hd
      rw [rt_none] at hr
      exact absurd hr (by simp)
/-- What has been written is read. -/
theorem rdTok_complete {s : Rs} (h0 : s.err = 0) {t : Tk} (ht : Fine t) {u : List Nat} (hb : s.bs.drop s.p = bt t ++ u) : rdTok s = (t, s.go (bt t).length) ∧ s.num.1 / 2 ≤ 4096 := by
  have hl := ht.2
  rcases ht.cases with h1 | h1
  · rw [bt_lit h1.1, List.append_assoc] at hb
    have hn := num_uv h0 (by omega) hb
    have hd := go_drop hb
    have ht := take_at (s := s.go (Uv.uv (2 * t.lit.length)).length) h0 hd
    unfold rdTok
    rw [hn]
    simp only
    rw [if_pos (by omega), show 2 * t.lit.length / 2 = t.lit.length by omega, ht, go_go, bt_lit h1.1, List.length_append]
    refine ⟨?_, hl⟩
    obtain ⟨lit, d, l⟩ := t
    simp only at h1
    obtain ⟨_, rfl, rfl⟩ := h1
    rfl
  · have hn0 : ¬ 0 < t.lit.length := by rw [h1.1]; simp
    rw [bt_match hn0, List.append_assoc] at hb
    have hn := num_uv h0 (by omega) hb
    have hd := go_drop hb
    have hm := num_uv (s := s.go (Uv.uv (2 * t.l.toNat + 1)).length) h0 (by omega) hd
    unfold rdTok
    rw [hn]
    simp only
    rw [if_neg (by omega), hm]
    simp only
    rw [if_pos (by omega), go_go, bt_match hn0, List.length_append]
    refine ⟨?_, by omega⟩
    obtain ⟨lit, d, l⟩ := t
    simp only at h1 ⊢
    rw [h1.1, show (2 * l.toNat + 1) / 2 = l.toNat by omega, show ((d.toNat : Nat) : Int) = d by omega, show ((l.toNat : Nat) : Int) = l by omega]

theorem bt_pos (t : Tk) : 0 < (bt t).length := by
  unfold bt
  split
  · rw [List.length_append]; have := Uv.uv_pos (2 * t.lit.length); omega
  · rw [List.length_append]; have := Uv.uv_pos (2 * t.l.toNat + 1); omega
theorem go_ok {s : Rs} (h : s.Ok) (h0 : s.err = 0) {xs t : List Nat} (hb : s.bs.drop s.p = xs ++ t) : s.p + xs.length ≤ s.bs.length := by
  have hl := congrArg List.length hb
  rw [List.length_drop, List.length_append] at hl
  have := h.le
  omega

theorem rdLoop_sound (n : Nat) (hn : n ≤ 4096) : ∀ (f : Nat) (s : Rs) (z : Nat) (ts ts' : List Tk) (T : List Nat), rdLoop n f s z ts = (ts', 0) → s.Ok → exp [] ts = (T, 0) → T.length = z →
    ∃ r T', s.err = 0 ∧ ts' = ts ++ r ∧ s.bs.drop s.p = r.flatMap bt ∧ exp [] ts' = (T', 0) ∧ T'.length = n
  | 0, s, z, ts, ts', T, h, _, _, _ => by simp [rdLoop] at h
  | f + 1, s, z, ts, ts', T, h, hs, he, hT => by
    unfold rdLoop at h
    split at h
    · rename_i h1
      split at h
      · rename_i h2
        injection h with h3 _
        subst h3
        refine ⟨[], T, h2.1, by simp, ?_, he, hT.trans h2.2⟩
        unfold Rs.rest at h1
        rw [List.drop_of_length_le (by omega)]
        rfl
      · simp at h
    · split at h
      · simp at h
      · split at h
        · rename_i h1
          split at h
          · simp at h
          · rename_i h2
            obtain ⟨t, e0, e1, e2⟩ := rdTok_sound hs h1
            rw [← hT] at h1
            have hx := exp_snoc he h1 (by omega)
            obtain ⟨r, T', r0, r1, r2, r3, r4⟩ := rdLoop_sound n hn f _ _ _ _ _ h (rdTok_ok hs) hx (by rw [addTk_length]; omega)
            refine ⟨(rdTok s).1 :: r, T', e0, by rw [r1]; simp, ?_, r3, r4⟩
            rw [e2, go_drop e1] at r2
            rw [e1, r2]
            simp
        · simp at h
theorem rdLoop_complete (n : Nat) : ∀ (r : List Tk) (f : Nat) (s : Rs) (ts : List Tk) (T Z : List Nat), s.err = 0 → s.Ok → s.bs.drop s.p = r.flatMap bt → exp T r = (Z, 0) → Z.length = n → s.rest < f →
    rdLoop n f s T.length ts = (ts ++ r, 0)
  | [], 0, s, ts, T, Z, h0, hs, hb, he, hZ, hf => by omega
  | [], f + 1, s, ts, T, Z, h0, hs, hb, he, hZ, hf => by
    have hl := congrArg List.length hb
    simp only [List.length_drop, List.flatMap_nil, List.length_nil] at hl
    simp only [exp, Prod.mk.injEq, and_true] at he
    subst he
    have hr0 : s.rest = 0 := hl
    rw [rdLoop, if_pos hr0, if_pos ⟨h0, hZ⟩, List.append_nil]
  | t :: r, 0, s, ts, T, Z, h0, hs, hb, he, hZ, hf => by omega
  | t :: r, f + 1, s, ts, T, Z, h0, hs, hb, he, hZ, hf => by
    have hfine := (fine_of_exp he).1 t (List.mem_cons_self ..)
    have hb' : s.bs.drop s.p = bt t ++ r.flatMap bt := by rw [hb]; simp
    obtain ⟨e1, e2⟩ := rdTok_complete h0 hfine hb'
    have hp := bt_pos t
    have hok := go_ok hs h0 hb'
    have hrest : ¬ s.rest = 0 := by unfold Rs.rest; omega
    have he2 := he
    unfold exp at he2
    split at he2
    · rename_i h1
      split at he2
      · simp at he2
      · rename_i h2
        have hg := exp_grows he2
        rw [addTk_length, hZ] at hg
        have ih := rdLoop_complete n r f (s.go (bt t).length) (ts ++ [t]) (addTk T t) Z h0 (hs.go h0 hok) (go_drop hb') he2 hZ (by unfold Rs.rest Rs.go at *; simp only; omega)
        rw [rdLoop, if_neg hrest, if_neg (by omega), e1]
        simp only
        rw [if_pos h1, if_neg (by omega), ← addTk_length, ih]
        simp
    · simp at he2
theorem ok0 {b : List Nat} (hb : By b) (hl : b.length ≤ 140737488351232) : (rd0 b).Ok := ok_new hb hl
theorem wr_cases {ts : List Tk} {b : List Nat} (h : wr ts = (b, 0)) : ∃ T, exp [] ts = (T, 0) ∧ T.length ≤ 4096 ∧ b = blk T.length ts := by
  unfold wr at h
  split at h
  · rename_i h0
    injection h with h1 _
    exact ⟨(exp [] ts).1, by rw [← h0], exp_len ts [] (by simp), h1.symm⟩
  · rename_i h0
    injection h with _ h2
    exact absurd h2 h0
theorem rd_of_wr {b : List Nat} {ts : List Tk} (hb : By b) (hl : b.length ≤ 140737488351232) (h : wr ts = (b, 0)) : rd b = (ts, 0) := by
  obtain ⟨T, h1, h2, rfl⟩ := wr_cases h
  have hn := num_uv (s := rd0 (blk T.length ts)) rfl (v := T.length) (by omega) (t := ts.flatMap bt) rfl
  have hok := ok0 hb hl
  have hd := go_drop (s := rd0 (blk T.length ts)) (xs := Uv.uv T.length) (t := ts.flatMap bt) rfl
  have hg := go_ok hok rfl (xs := Uv.uv T.length) (t := ts.flatMap bt) rfl
  unfold rd
  rw [hn]
  simp only
  rw [if_neg (by omega)]
  have := rdLoop_complete T.length ts ((blk T.length ts).length + 1) ((rd0 (blk T.length ts)).go (Uv.uv T.length).length) [] [] T rfl (hok.go rfl hg) hd h1 rfl (by unfold Rs.rest Rs.go rd0; simp only; omega)
  simpa using this
theorem wr_of_rd {b : List Nat} {ts : List Tk} (hb : By b) (hl : b.length ≤ 140737488351232) (h : rd b = (ts, 0)) : wr ts = (b, 0) := by
  unfold rd at h
  split at h
  · simp at h
  · rename_i hn
    have hok := ok0 hb hl
    obtain ⟨r, T', h0, h1, h2, h3, h4⟩ := rdLoop_sound (rd0 b).num.1 (by omega) _ _ _ _ _ [] h hok.num.1 rfl rfl
    obtain ⟨t, n1, n2, n3⟩ := num_got hok h0
    rw [List.nil_append] at h1
    subst h1
    rw [n2, go_drop n1] at h2
    unfold wr
    rw [h3]
    simp only [if_true]
    rw [h4]
    unfold blk
    rw [← h2, ← n1]
    rfl
theorem rdLoop_code (n : Nat) : ∀ (f : Nat) (s : Rs) (z : Nat) (ts : List Tk), rdLoop n f s z ts = ([], 20) ∨ (rdLoop n f s z ts).2 = 0
  | 0, _, _, _ => .inl rfl
  | f + 1, s, z, ts => by
    unfold rdLoop
    split
    · split
      · exact .inr rfl
      · exact .inl rfl
    · split
      · exact .inl rfl
      · split
        · split
          · exact .inl rfl
          · exact rdLoop_code n f _ _ _
        · exact .inl rfl
theorem rd_code (b : List Nat) : rd b = ([], 20) ∨ ∃ ts, rd b = (ts, 0) := by
  unfold rd
  split
  · exact .inl rfl
  · rcases rdLoop_code (rd0 b).num.1 (b.length + 1) (rd0 b).num.2 0 [] with h | h
    · exact .inl h
    · exact .inr ⟨_, Prod.ext rfl h⟩
/-- No two lists of tokens are written as the same bytes. -/
theorem wr_inj {b : List Nat} {ts ts' : List Tk} (hb : By b) (hl : b.length ≤ 140737488351232) (h : wr ts = (b, 0)) (h' : wr ts' = (b, 0)) : ts = ts' := by
  have e := (rd_of_wr hb hl h).symm.trans (rd_of_wr hb hl h')
  injection e

/-- The document's way. -/
def nA (b : List Nat) (q : Nat) : Option (Nat × Nat) := if (Uv.ru 0 0 (b.drop q)).2.2 = 0 ∧ (Uv.ru 0 0 (b.drop q)).2.1 ≤ 3 then some ((Uv.ru 0 0 (b.drop q)).1, q + (Uv.ru 0 0 (b.drop q)).2.1) else none
def rrLoop (b : List Nat) : Nat → Nat → List Tk → Option (List Tk)
  | 0, _, _ => none
  | f + 1, q, ts => if q < b.length then
      match nA b q with
      | none => none
      | some (h, x) =>
        if h % 2 = 0 then (if b.length - x < h / 2 then none else rrLoop b f (x + h / 2) (ts ++ [⟨(b.drop x).take (h / 2), 0, 0⟩]))
        else match nA b x with
          | none => none
          | some (d, e) => rrLoop b f e (ts ++ [⟨[], (d : Nat), (h / 2 : Nat)⟩])
    else some ts
def rrd1 (b : List Nat) : Option (List Tk) := match nA b 0 with
  | none => none
  | some (_, q) => rrLoop b (b.length + 1) q []
theorem nA_uv {b : List Nat} {q v : Nat} {t : List Nat} (hv : v < 2097152) (h : b.drop q = Uv.uv v ++ t) : nA b q = some (v, q + (Uv.uv v).length) := by
  have h1 := Uv.ru_uv t v 0 0 (by simp; omega) (by omega) (by omega)
  have h2 := Uv.uv_len_pow 2 v (by simpa using hv)
  unfold nA
  rw [h, h1]
  simp only [Nat.zero_add, Nat.pow_zero, Nat.mul_one, true_and]
  rw [if_pos h2]
theorem rrLoop_complete (b : List Nat) : ∀ (r : List Tk) (f q : Nat) (ts : List Tk), q ≤ b.length → b.drop q = r.flatMap bt → (∀ t ∈ r, Fine t) → b.length - q < f → rrLoop b f q ts = some (ts ++ r)
  | [], 0, q, ts, hq, hb, hf, h => by omega
  | [], f + 1, q, ts, hq, hb, hf, h => by
    have hl := congrArg List.length hb
    simp only [List.length_drop, List.flatMap_nil, List.length_nil] at hl
    rw [rrLoop, if_neg (by omega), List.append_nil]
  | t :: r, 0, q, ts, hq, hb, hf, h => by omega
  | t :: r, f + 1, q, ts, hq, hb, hf, h => by
    have hfine := hf t (List.mem_cons_self ..)
    have hp := bt_pos t
    have hb' : b.drop q = bt t ++ r.flatMap bt := by rw [hb]; simp
    have hl := congrArg List.length hb'
    rw [List.length_drop, List.length_append] at hl
    have hl4 := hfine.2
    rcases hfine.cases with h1 | h1
    · rw [bt_lit h1.1, List.append_assoc] at hb'
      rw [bt_lit h1.1, List.length_append] at hl
      have hx : b.drop (q + (Uv.uv (2 * t.lit.length)).length) = t.lit ++ r.flatMap bt := by rw [← List.drop_drop, hb']; simp
      have hu := Uv.uv_pos (2 * t.lit.length)
      have hy : b.drop (q + (Uv.uv (2 * t.lit.length)).length + t.lit.length) = r.flatMap bt := by rw [← List.drop_drop, hx]; simp
      have ih := rrLoop_complete b r f (q + (Uv.uv (2 * t.lit.length)).length + t.lit.length) (ts ++ [t]) (by omega) hy (fun t' ht' => hf t' (List.mem_cons_of_mem _ ht')) (by omega)
      rw [rrLoop, if_pos (by omega), nA_uv (by omega) hb']
      simp only
      rw [if_pos (by omega), show 2 * t.lit.length / 2 = t.lit.length by omega, if_neg (by omega), hx, List.take_left]
      have e : (⟨t.lit, 0, 0⟩ : Tk) = t := by
        obtain ⟨lit, d, l⟩ := t
        simp only at h1
        obtain ⟨_, rfl, rfl⟩ := h1
        rfl
      rw [e, ih]
      simp
    · have hn0 : ¬ 0 < t.lit.length := by rw [h1.1]; simp
      rw [bt_match hn0, List.append_assoc] at hb'
      rw [bt_match hn0, List.length_append] at hl
      have hx : b.drop (q + (Uv.uv (2 * t.l.toNat + 1)).length) = Uv.uv t.d.toNat ++ r.flatMap bt := by rw [← List.drop_drop, hb']; simp
      have hu := Uv.uv_pos (2 * t.l.toNat + 1)
      have hy : b.drop (q + (Uv.uv (2 * t.l.toNat + 1)).length + (Uv.uv t.d.toNat).length) = r.flatMap bt := by rw [← List.drop_drop, hx]; simp
      have ih := rrLoop_complete b r f (q + (Uv.uv (2 * t.l.toNat + 1)).length + (Uv.uv t.d.toNat).length) (ts ++ [t]) (by omega) hy (fun t' ht' => hf t' (List.mem_cons_of_mem _ ht')) (by omega)
      rw [rrLoop, if_pos (by omega), nA_uv (by omega) hb']
      simp only
      rw [if_neg (by omega), nA_uv (by omega) hx]
      simp only
      have e : (⟨[], (t.d.toNat : Nat), ((2 * t.l.toNat + 1) / 2 : Nat)⟩ : Tk) = t := by
        obtain ⟨lit, d, l⟩ := t
        simp only at h1 ⊢
        rw [h1.1, show (2 * l.toNat + 1) / 2 = l.toNat by omega, show ((d.toNat : Nat) : Int) = d by omega, show ((l.toNat : Nat) : Int) = l by omega]
      rw [e, ih]
      simp
/-- The document's way leads to the same. -/
theorem rrd_yes {b : List Nat} {ts : List Tk} (h : wr ts = (b, 0)) : rrd1 b = some ts := by
  obtain ⟨T, h1, h2, rfl⟩ := wr_cases h
  have hf := (fine_of_exp h1).1
  have e0 : (blk T.length ts).drop 0 = Uv.uv T.length ++ ts.flatMap bt := rfl
  have e1 : (blk T.length ts).drop (0 + (Uv.uv T.length).length) = ts.flatMap bt := by unfold blk; simp
  have hl : (blk T.length ts).length = (Uv.uv T.length).length + (ts.flatMap bt).length := by unfold blk; rw [List.length_append]
  unfold rrd1
  rw [nA_uv (by omega) e0]
  simp only
  have := rrLoop_complete (blk T.length ts) ts ((blk T.length ts).length + 1) (0 + (Uv.uv T.length).length) [] (by omega) e1 hf (by omega)
  simpa using this
theorem rd_none {b : List Nat} (hb : By b) (hl : b.length ≤ 140737488351232) (h : rrd1 b = none) : rd b = ([], 20) := by
  rcases rd_code b with h1 | ⟨ts, h1⟩
  · exact h1
  · rw [rrd_yes (wr_of_rd hb hl h1)] at h
    cases h
theorem rd_yes {b : List Nat} {ts : List Tk} (hb : By b) (hl : b.length ≤ 140737488351232) (h1 : wr ts = (b, 0)) : rd b = (ts, 0) := rd_of_wr hb hl h1
theorem rd_no {b : List Nat} {ts : List Tk} (hb : By b) (hl : b.length ≤ 140737488351232) (h : rrd1 b = some ts) (h1 : wr ts ≠ (b, 0)) : rd b = ([], 20) := by
  rcases rd_code b with h2 | ⟨ts', h2⟩
  · exact h2
  · have h3 := wr_of_rd hb hl h2
    have h4 := rrd_yes h3
    rw [h] at h4
    injection h4 with h4
    subst h4
    exact absurd h3 h1
end Go.Proofs.Ytljfmcgeiceagaa
