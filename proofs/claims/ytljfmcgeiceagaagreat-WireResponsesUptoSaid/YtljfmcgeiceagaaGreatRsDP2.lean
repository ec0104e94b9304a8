/- Reading responses: back; frames. -/
import Derived.Test.YtljfmcgeiceagaaGreatRsDP
import Derived.Test.YtljfmcgeiceagaaGreatK1
namespace Go.Proofs.YtljfmcgeiceagaaGreat
open Go Go.RowKit
set_option linter.unusedVariables false
set_option linter.unusedSimpArgs false

theorem cn_back {most : Nat} {s : Rs} (hok : s.Ok) (he : (cn most s).2.err = 0) : s.num.2.err = 0 ∧ s.num.1 ≤ most ∧ cn most s = (s.num.1, s.num.2) := by
  unfold cn at he ⊢
  by_cases h : most < s.num.1
  · rw [if_pos h] at he
    simp only at he
    by_cases h0 : s.num.2.err = 0
    · rw [Rs.fail, Rs.failAt_yes _ h0 (by decide)] at he
      simp at he
    · rw [Rs.fail, Rs.failAt_bad _ h0] at he
      exact absurd he h0
  · rw [if_neg h] at he ⊢
    exact ⟨he, by omega, rfl⟩
theorem cn_ok {most : Nat} {s : Rs} (hok : s.Ok) : (cn most s).2.Ok ∧ (cn most s).1 ≤ most := by
  unfold cn
  split
  · exact ⟨hok.num.1.fail (by omega), Nat.zero_le _⟩
  · exact ⟨hok.num.1, by simp only; omega⟩
theorem nms_ok {s : Rs} (hok : s.Ok) : ∀ k, (nms k s).2.Ok
  | 0 => hok
  | k + 1 => by unfold nms; exact ((nms_ok hok k).text 24).1
theorem nms_len (s : Rs) : ∀ k, (nms k s).1.length = k
  | 0 => rfl
  | k + 1 => by unfold nms; simp [nms_len s k]
theorem nms_err {s : Rs} (hok : s.Ok) : ∀ k, (nms k s).2.err = 0 → s.err = 0
  | 0, h => h
  | k + 1, h => by
    unfold nms at h
    exact nms_err hok k (Rs.num_ok (nms_ok hok k) (text_err (nms_ok hok k) h))
theorem At.nms {bs pre : List Nat} {s : Rs} (h : At bs s pre) : ∀ k, (Go.Proofs.YtljfmcgeiceagaaGreat.nms k s).2.err = 0 → At bs (Go.Proofs.YtljfmcgeiceagaaGreat.nms k s).2 (pre ++ (Go.Proofs.YtljfmcgeiceagaaGreat.nms k s).1.flatMap txt)
  | 0, _ => by simpa [Go.Proofs.YtljfmcgeiceagaaGreat.nms] using h
  | k + 1, he => by
    unfold Go.Proofs.YtljfmcgeiceagaaGreat.nms at he ⊢
    have hk := nms_ok h.ok k
    have ha := h.nms k (Rs.num_ok hk (text_err hk he))
    have ht := ha.textm he
    simp only at ht ⊢
    rw [List.flatMap_append, ← List.append_assoc]
    simp only [List.flatMap_cons, List.flatMap_nil, List.append_nil, txt]
    rw [strOf_size, sb_strOf (hk.text 24).2]
    exact ht
theorem rcs_back {b : List Nat} : ∀ (k : Nat) (l : List Rc) (r : List Nat), rcs k b = some (l, r) → b = l.flatMap encs ++ r ∧ l.length = k
  | 0, l, r, h => by
    unfold rcs at h
    simp only [Option.some.injEq, Prod.mk.injEq] at h
    obtain ⟨rfl, rfl⟩ := h
    exact ⟨rfl, rfl⟩
  | k + 1, l, r, h => by
    unfold rcs at h
    cases hq : rcs k b with
    | none => rw [hq] at h; cases h
    | some q =>
      obtain ⟨l', r'⟩ := q
      rw [hq] at h
      unfold rcs1 at h
      simp only at h
      split at h
      next h0 =>
        simp only [Option.some.injEq, Prod.mk.injEq] at h
        obtain ⟨rfl, rfl⟩ := h
        obtain ⟨e, el⟩ := rcs_back k l' r' hq
        have hd : rdec r' = ((rdec r').1, (rdec r').2.1, 0) := by rw [← h0]
        have hw := (renc_of_rdec hd).1
        refine ⟨?_, by simp [el]⟩
        rw [e, List.flatMap_append, List.append_assoc]
        congr 1
        simp only [List.flatMap_cons, List.flatMap_nil, List.append_nil, encs]
        rw [hw, List.take_append_drop]
      next => cases h
theorem rcs_none {b : List Nat} {k n : Nat} (h : rcs k b = none) (hn : k ≤ n) : rcs n b = none := by
  induction n with
  | zero => have : k = 0 := by omega
            rw [this] at h; exact h
  | succ n ih =>
    by_cases he : k = n + 1
    · rw [← he]; exact h
    · unfold rcs; rw [ih (by omega)]; rfl
theorem prs_back {bs : List Nat} {x : Rp} (hby : By bs) (hl : bs.length ≤ 140737488351232) (h : prs bs = some x) : MayP x ∧ bdyp x = bs ∧ x.Nm ∧ (renp x).2 = 0 := by
  have hok0 : (⟨bs, 0, 0, 0⟩ : Rs).Ok := ⟨by simp, hby, by simp only; omega, fun _ => rfl, fun h => absurd rfl h, by simp, by simp⟩
  have at0 : At bs ⟨bs, 0, 0, 0⟩ [] := ⟨hok0, rfl, rfl, by simp⟩
  unfold prs prs1 at h
  by_cases hc : (prs0 bs).2.fin.1 ≠ 0 ∨ (prs0 bs).1.f ≠ 82 ∨ 1 < (prs0 bs).1.m
  · rw [if_pos hc] at h; cases h
  rw [if_neg hc] at h
  have hfin : (prs0 bs).2.fin.1 = 0 := Classical.byContradiction fun e => hc (.inl e)
  have hf82 : (prs0 bs).1.f = 82 := Classical.byContradiction fun e => hc (.inr (.inl e))
  have hm1 : (prs0 bs).1.m ≤ 1 := by have := fun e => hc (.inr (.inr e)); omega
  clear hc
  cases hq : rcs (prs0 bs).1.n (prs0 bs).1.r with
  | none => rw [hq] at h; cases h
  | some q =>
  obtain ⟨l, rr⟩ := q
  rw [hq] at h
  unfold prs2 at h
  simp only at h
  split at h
  next => cases h
  next hc =>
  injection h with hx
  have hrr : rr = [] := Classical.byContradiction fun e => hc (.inl e)
  have h0 : (renp ((prs0 bs).1.x l)).2 = 0 := Classical.byContradiction fun e => hc (.inr e)
  rw [hx] at h0
  subst hrr
  have hm : MayP x := Classical.byContradiction fun e => by rw [renp_no e] at h0; cases h0
  obtain ⟨eb, el⟩ := rcs_back _ _ _ hq
  rw [List.append_nil] at eb
  unfold prs0 at hfin hf82 hm1 hx eb el
  simp only at hfin hf82 hm1 hx eb el
  obtain ⟨f, hf⟩ : ∃ f, f = (⟨bs, 0, 0, 0⟩ : Rs).take 1 := ⟨_, rfl⟩
  rw [← hf] at hfin hf82 hm1 hx eb el
  have okf : f.2.Ok := by rw [hf]; exact hok0.take 1
  obtain ⟨o, ho⟩ : ∃ o, o = f.2.take 1 := ⟨_, rfl⟩
  rw [← ho] at hfin hm1 hx eb el
  have oko : o.2.Ok := by rw [ho]; exact okf.take 1
  obtain ⟨c, hcc⟩ : ∃ c, c = o.2.take 1 := ⟨_, rfl⟩
  rw [← hcc] at hfin hm1 hx eb el
  have okc : c.2.Ok := by rw [hcc]; exact oko.take 1
  obtain ⟨i, hi⟩ : ∃ i, i = q32 c.2 := ⟨_, rfl⟩
  rw [← hi] at hfin hm1 hx eb el
  have oki : i.2.Ok := by rw [hi]; exact q32_ok okc
  unfold vi at hfin hm1 hx eb el
  simp only at hfin hm1 hx eb el
  obtain ⟨u, hu⟩ : ∃ u, u = i.2.num := ⟨_, rfl⟩
  rw [← hu] at hfin hm1 hx eb el
  have oku : u.2.Ok ∧ u.1 < 18446744073709551616 := by rw [hu]; exact ⟨oki.num.1, oki.num.2.1⟩
  obtain ⟨v, hv⟩ : ∃ v, v = u.2.num := ⟨_, rfl⟩
  rw [← hv] at hfin hm1 hx eb el
  have okv : v.2.Ok ∧ v.1 < 18446744073709551616 := by rw [hv]; exact ⟨oku.1.num.1, oku.1.num.2.1⟩
  obtain ⟨m, hmm⟩ : ∃ m, m = v.2.take 1 := ⟨_, rfl⟩
  rw [← hmm] at hfin hm1 hx eb el
  have okm : m.2.Ok := by rw [hmm]; exact okv.1.take 1
  obtain ⟨k, hk⟩ : ∃ k, k = cn 16 m.2 := ⟨_, rfl⟩
  rw [← hk] at hfin hx eb el
  have okk : k.2.Ok := by rw [hk]; exact (cn_ok okm).1
  obtain ⟨ns, hns⟩ : ∃ ns, ns = nms k.1 k.2 := ⟨_, rfl⟩
  rw [← hns] at hfin hx eb el
  have okn : ns.2.Ok := by rw [hns]; exact nms_ok okk _
  obtain ⟨n, hn⟩ : ∃ n, n = cn bs.length ns.2 := ⟨_, rfl⟩
  rw [← hn] at hfin hx eb el
  have oknn : n.2.Ok := by rw [hn]; exact (cn_ok okn).1
  obtain ⟨r, hr⟩ : ∃ r, r = n.2.take (n.2.rest : Int) := ⟨_, rfl⟩
  rw [← hr] at hfin hx eb
  obtain ⟨er, hrp⟩ := fin_zero hfin
  have en : n.2.err = 0 := take_err (by rw [← hr]; exact er)
  obtain ⟨n1, n2, n3⟩ := cn_back okn (by rw [← hn]; exact en)
  have ens : ns.2.err = 0 := Rs.num_ok okn n1
  have ek : k.2.err = 0 := nms_err okk _ (by rw [← hns]; exact ens)
  obtain ⟨q1, q2, q3⟩ := cn_back okm (by rw [← hk]; exact ek)
  have em : m.2.err = 0 := Rs.num_ok okm q1
  have ev : v.2.err = 0 := take_err (by rw [← hmm]; exact em)
  have eu : u.2.err = 0 := Rs.num_ok oku.1 (by rw [← hv]; exact ev)
  have ei : i.2.err = 0 := Rs.num_ok oki (by rw [← hu]; exact eu)
  obtain ⟨i1, i2, i3, i4⟩ := q32_back okc (by rw [← hi]; exact ei)
  rw [← hi] at i3 i4
  have ec : c.2.err = 0 := Rs.num_ok okc i1
  have eo : o.2.err = 0 := take_err (by rw [← hcc]; exact ec)
  have ef : f.2.err = 0 := take_err (by rw [← ho]; exact eo)
  obtain ⟨atf, lf⟩ := at0.take (n := 1) (by have := ef; rw [hf] at this; exact this)
  have hf1 := headD_one lf
  have atf2 : At bs f.2 [82] := by
    have := atf
    rw [hf1] at this
    rw [← hf82, hf]
    exact this
  obtain ⟨ato, lo⟩ := atf2.take (n := 1) (by have := eo; rw [ho] at this; exact this)
  have ho1 := headD_one lo
  have ato2 : At bs o.2 ([82] ++ [o.1.headD 0]) := by
    have := ato
    rw [ho1] at this
    rw [ho]
    exact this
  obtain ⟨atc, lc⟩ := ato2.take (n := 1) (by have := ec; rw [hcc] at this; exact this)
  have hc1 := headD_one lc
  have atc2 : At bs c.2 ([82] ++ [o.1.headD 0] ++ [c.1.headD 0]) := by
    have := atc
    rw [hc1] at this
    rw [hcc]
    exact this
  have ati := atc2.num i1
  rw [← i3, ← i4] at ati
  have atu := ati.num (by rw [← hu]; exact eu)
  rw [← hu] at atu
  have atv := atu.num (by rw [← hv]; exact ev)
  rw [← hv] at atv
  obtain ⟨atm, lm⟩ := atv.take (n := 1) (by have := em; rw [hmm] at this; exact this)
  have hm1' := headD_one lm
  have atm2 : At bs m.2 ([82] ++ [o.1.headD 0] ++ [c.1.headD 0] ++ Uv.uv i.1 ++ Uv.uv u.1 ++ Uv.uv v.1 ++ [m.1.headD 0]) := by
    have := atm
    rw [hm1'] at this
    rw [hmm]
    exact this
  have atk := atm2.num q1
  have hk1 : k = (m.2.num.1, m.2.num.2) := by rw [hk]; exact q3
  have hk2 : m.2.num.2 = k.2 := by rw [hk1]
  have hk3 : m.2.num.1 = k.1 := by rw [hk1]
  rw [hk2, hk3] at atk
  have atn := atk.nms k.1 (by rw [← hns]; exact ens)
  rw [← hns] at atn
  have atnn := atn.num n1
  have hn1 : n = (ns.2.num.1, ns.2.num.2) := by rw [hn]; exact n3
  have hn2 : ns.2.num.2 = n.2 := by rw [hn1]
  have hn3 : ns.2.num.1 = n.1 := by rw [hn1]
  rw [hn2, hn3] at atnn
  obtain ⟨atr, _⟩ := atnn.take (n := n.2.rest) (by rw [← hr]; exact er)
  rw [← hr] at atr
  have hall := atr.pre
  rw [atr.same] at hrp
  rw [List.take_of_length_le hrp] at hall
  have hlk : ns.1.length = k.1 := by rw [hns]; exact nms_len _ _
  obtain ⟨hop, hc0, hc11, hn16⟩ := hm.hd
  refine ⟨hm, ?_, ⟨by rw [← hx]; show i.1 < 4294967296; rw [i4]; exact i2, by unfold r64; omega, by unfold r64; omega, by rw [← hx]; exact zag_range _ oku.2, by rw [← hx]; exact zag_range _ okv.2⟩, h0⟩
  rw [hall, ← hx]
  have z1 : (Uv.zig (Uv.zag (u.1 : Int))).toNat = u.1 := by rw [Uv.zig_zag _ (by omega)]; exact Int.toNat_natCast _
  have z2 : (Uv.zig (Uv.zag (v.1 : Int))).toNat = v.1 := by rw [Uv.zig_zag _ (by omega)]; exact Int.toNat_natCast _
  have z3 : (if (m.1.headD 0 == 1) = true then 1 else 0) = m.1.headD 0 := by
    by_cases h : m.1.headD 0 = 1
    · rw [h]; rfl
    · rw [if_neg (by simpa using h)]; omega
  unfold bdyp headp Hp.x
  simp only [Int.toNat_natCast, z1, z2, z3, hlk, el, ← eb]
  simp only [List.append_assoc, List.cons_append, List.nil_append]
theorem decp_fw {x : Rp} {y : List Nat} (hk : x.Nm) (h : renp x = (y, 0)) : decp y = (x, 0) ∧ MayP x ∧ y = wrap 197 (bdyp x) ∧ 0 < (bdyp x).length ∧ (bdyp x).length ≤ 4087 := by
  have hm : MayP x := Classical.byContradiction fun e => by rw [renp_no e] at h; cases h
  have h0 : (renp x).2 = 0 := by rw [h]
  rw [renp_yes hm] at h
  unfold frm at h
  split at h
  · injection h with _ e; cases e
  · split at h
    · injection h with _ e; cases e
    · rename_i h1 h2
      injection h with e _
      subst e
      refine ⟨?_, hm, rfl, by omega, by omega⟩
      have hb := bd_wrap (bdyp_by hm) (by omega) (by omega)
      unfold decp
      rw [hb]
      rw [if_neg (by simp), prs_fw hm hk (by omega) h0]
      rfl
theorem decp_back {b : List Nat} {x : Rp} (hb : By b) (hl : b.length ≤ 140737488351232) (h : decp b = (x, 0)) : renp x = (b, 0) ∧ x.Nm := by
  unfold decp at h
  split at h
  · injection h with _ e; cases e
  · rename_i h0
    obtain ⟨hw, h9, hd⟩ := bd_wrapped hb (by simpa using h0)
    have hby : By (bd b).1 := by rw [hd]; exact by_drop hb 9
    have hbl : (bd b).1.length ≤ 140737488351232 := by rw [hd, List.length_drop]; omega
    cases hp : prs (bd b).1 with
    | none => rw [hp] at h; simp [outp] at h
    | some y =>
      rw [hp] at h
      simp only [outp, Prod.mk.injEq, and_true] at h
      subst h
      obtain ⟨hm, he, hk, h2⟩ := prs_back hby hbl hp
      refine ⟨?_, hk⟩
      have h3 := h2
      rw [renp_yes hm, he] at h3 ⊢
      unfold frm at h3 ⊢
      split at h3
      · cases h3
      · split at h3
        · cases h3
        · rename_i h5 h6
          rw [if_neg h5, if_neg h6, ← hw]
end Go.Proofs.YtljfmcgeiceagaaGreat
