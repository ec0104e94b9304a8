/- The document's reading of responses, in plain words. -/
import Derived.Test.YtljfmcgeiceagaaGreatRsDP2
namespace Go.Proofs.YtljfmcgeiceagaaGreat
open Go Go.RowKit
set_option linter.unusedVariables false
set_option linter.unusedSimpArgs false

/-- The head's parts as the document reads them: nothing is refused. -/
def dpr0 (bs : List Nat) : Hp × Rs :=
  let f := (⟨bs, 0, 0, 0⟩ : Rs).take 1
  let o := f.2.take 1
  let c := o.2.take 1
  let i := c.2.num
  let off := vi i.2
  let num := vi off.2
  let m := num.2.take 1
  let k := m.2.num
  let ns := nms (min k.1 17) k.2
  let n := ns.2.num
  let r := n.2.take (n.2.rest : Int)
  (⟨f.1.headD 0, o.1.headD 0, c.1.headD 0, i.1 % 4294967296, off.1, num.1, m.1.headD 0, ns.1, n.1, r.1⟩, r.2)
/-- Records one after another, as long as there are bytes. -/
def drc1 : Option (List Rc × List Nat) → Option (List Rc × List Nat)
  | some q => if q.2 = [] then some q else rcs1 (some q)
  | none => none
def drc : Nat → List Nat → Option (List Rc × List Nat)
  | 0, b => some ([], b)
  | k + 1, b => drc1 (drc k b)
def dpr1 (F : List Rc → Rp) : Option (List Rc × List Nat) → Option Rp
  | some q => some (F q.1)
  | none => none
def dpr (bs : List Nat) : Option Rp := dpr1 (dpr0 bs).1.x (drc (dpr0 bs).1.n (dpr0 bs).1.r)
open Classical in
noncomputable def ddec1 (b : List Nat) : Option Rp → Rp × Int
  | some x => if renp x = (b, 0) then (x, 0) else (rp0, 162)
  | none => (rp0, 162)
noncomputable def ddec (b : List Nat) : Rp × Int := if (bd b).2 ≠ 0 then (rp0, 160) else ddec1 b (dpr (bd b).1)
theorem drc_fw {l : List Rc} (h : ∀ r ∈ l, chk r = 0) : ∀ k, k ≤ l.length → drc k (l.flatMap encs) = some (l.take k, (l.drop k).flatMap encs)
  | 0, _ => by simp [drc]
  | k + 1, hk => by
    have h1 := rcs_fw h k (by omega)
    have h2 := rcs_fw h (k + 1) hk
    unfold rcs at h2
    rw [h1] at h2
    unfold drc
    rw [drc_fw h k (by omega)]
    unfold drc1
    simp only
    have hd : l.drop k = l[k] :: l.drop (k + 1) := List.drop_eq_getElem_cons (by omega)
    rw [if_neg]
    · exact h2
    · intro he
      rw [hd, List.flatMap_cons] at he
      have := congrArg List.length he
      have hp := (encs_pos (h l[k] (List.getElem_mem _))).2
      simp only [List.length_append, List.length_nil] at this
      omega
theorem dpr_fw {x : Rp} (hm : MayP x) (hk : x.Nm) (hl : (bdyp x).length ≤ 140737488351232) : dpr (bdyp x) = some x := by
  obtain ⟨hop, hc0, hc1, hn16⟩ := hm.hd
  obtain ⟨id, op, code, off, num, more, names, recs⟩ := x
  have h24 := hm.names
  have hrc := hm.recs
  obtain ⟨k1, k2, k3, k4, k5⟩ := hk
  simp only at hop hc0 hc1 hn16 k1 k4 k5 h24 hrc
  obtain ⟨op, rfl⟩ : ∃ m : Nat, op = (m : Int) := ⟨op.toNat, by omega⟩
  obtain ⟨code, rfl⟩ : ∃ m : Nat, code = (m : Int) := ⟨code.toNat, by omega⟩
  obtain ⟨mb, hmb⟩ : ∃ mb : Nat, mb = if more = true then 1 else 0 := ⟨_, rfl⟩
  obtain ⟨bs, hbs⟩ : ∃ bs, bs = bdyp ⟨id, op, code, off, num, more, names, recs⟩ := ⟨_, rfl⟩
  have e : bs = [82, op, code] ++ Uv.uv id ++ Uv.uv (Uv.zig off).toNat ++ Uv.uv (Uv.zig num).toNat ++ [mb] ++ Uv.uv names.length ++ names.flatMap txt ++ Uv.uv recs.length ++ recs.flatMap encs := by
    rw [hbs, hmb]
    simp only [bdyp, headp, Int.toNat_natCast]
  rw [← hbs] at hl ⊢
  have e1 : (⟨bs, 0, 0, 0⟩ : Rs).take 1 = ([82], ⟨bs, ([82] : List Nat).length, 0, 0⟩) := take_fw (bs := bs) (pre := []) (b := [82]) (n := 1) (post := [op, code] ++ Uv.uv id ++ Uv.uv (Uv.zig off).toNat ++ Uv.uv (Uv.zig num).toNat ++ [mb] ++ Uv.uv names.length ++ names.flatMap txt ++ Uv.uv recs.length ++ recs.flatMap encs) (by rw [e]; simp only [List.append_assoc]; rfl) rfl
  have e2 : (⟨bs, ([82] : List Nat).length, 0, 0⟩ : Rs).take 1 = ([op], ⟨bs, ([82, op] : List Nat).length, 0, 0⟩) := take_fw (bs := bs) (pre := [82]) (b := [op]) (n := 1) (post := [code] ++ Uv.uv id ++ Uv.uv (Uv.zig off).toNat ++ Uv.uv (Uv.zig num).toNat ++ [mb] ++ Uv.uv names.length ++ names.flatMap txt ++ Uv.uv recs.length ++ recs.flatMap encs) (by rw [e]; simp only [List.append_assoc]; rfl) rfl
  have e3 : (⟨bs, ([82, op] : List Nat).length, 0, 0⟩ : Rs).take 1 = ([code], ⟨bs, ([82, op, code] : List Nat).length, 0, 0⟩) := take_fw (bs := bs) (pre := [82, op]) (b := [code]) (n := 1) (post := Uv.uv id ++ Uv.uv (Uv.zig off).toNat ++ Uv.uv (Uv.zig num).toNat ++ [mb] ++ Uv.uv names.length ++ names.flatMap txt ++ Uv.uv recs.length ++ recs.flatMap encs) (by rw [e]; simp only [List.append_assoc]; rfl) rfl
  have e4 := num_fw (bs := bs) (pre := [82, op, code]) (v := id) (post := Uv.uv (Uv.zig off).toNat ++ Uv.uv (Uv.zig num).toNat ++ [mb] ++ Uv.uv names.length ++ names.flatMap txt ++ Uv.uv recs.length ++ recs.flatMap encs) (by rw [e]; simp only [List.append_assoc]) (by omega)
  have e5 := vi_fw (bs := bs) (pre := [82, op, code] ++ Uv.uv id) (v := off) (post := Uv.uv (Uv.zig num).toNat ++ [mb] ++ Uv.uv names.length ++ names.flatMap txt ++ Uv.uv recs.length ++ recs.flatMap encs) (by rw [e]; simp only [List.append_assoc]) k4
  have e6 := vi_fw (bs := bs) (pre := [82, op, code] ++ Uv.uv id ++ Uv.uv (Uv.zig off).toNat) (v := num) (post := [mb] ++ Uv.uv names.length ++ names.flatMap txt ++ Uv.uv recs.length ++ recs.flatMap encs) (by rw [e]; simp only [List.append_assoc]) k5
  have e7 : (⟨bs, ([82, op, code] ++ Uv.uv id ++ Uv.uv (Uv.zig off).toNat ++ Uv.uv (Uv.zig num).toNat).length, 0, 0⟩ : Rs).take 1 = ([mb], ⟨bs, ([82, op, code] ++ Uv.uv id ++ Uv.uv (Uv.zig off).toNat ++ Uv.uv (Uv.zig num).toNat ++ [mb]).length, 0, 0⟩) := take_fw (bs := bs) (n := 1) (pre := [82, op, code] ++ Uv.uv id ++ Uv.uv (Uv.zig off).toNat ++ Uv.uv (Uv.zig num).toNat) (b := [mb]) (post := Uv.uv names.length ++ names.flatMap txt ++ Uv.uv recs.length ++ recs.flatMap encs) (by rw [e]; simp only [List.append_assoc]) rfl
  have e8 := num_fw (bs := bs) (pre := [82, op, code] ++ Uv.uv id ++ Uv.uv (Uv.zig off).toNat ++ Uv.uv (Uv.zig num).toNat ++ [mb]) (v := names.length) (post := names.flatMap txt ++ Uv.uv recs.length ++ recs.flatMap encs) (by rw [e]; simp only [List.append_assoc]) (by omega)
  have e9 := nms_fw (bs := bs) (pre := [82, op, code] ++ Uv.uv id ++ Uv.uv (Uv.zig off).toNat ++ Uv.uv (Uv.zig num).toNat ++ [mb] ++ Uv.uv names.length) (l := names) (post := Uv.uv recs.length ++ recs.flatMap encs) (by rw [e]; simp only [List.append_assoc]) h24 names.length (Nat.le_refl _)
  rw [List.take_length] at e9
  have hrl : recs.length ≤ bs.length := by
    have := recs_len recs hrc
    rw [e]
    simp only [List.length_append]
    omega
  have e10 := num_fw (bs := bs) (pre := [82, op, code] ++ Uv.uv id ++ Uv.uv (Uv.zig off).toNat ++ Uv.uv (Uv.zig num).toNat ++ [mb] ++ Uv.uv names.length ++ names.flatMap txt) (v := recs.length) (post := recs.flatMap encs) (by rw [e]; simp only [List.append_assoc]) (by omega)
  obtain ⟨P, hP⟩ : ∃ P, P = [82, op, code] ++ Uv.uv id ++ Uv.uv (Uv.zig off).toNat ++ Uv.uv (Uv.zig num).toNat ++ [mb] ++ Uv.uv names.length ++ names.flatMap txt ++ Uv.uv recs.length := ⟨_, rfl⟩
  rw [← hP] at e e10
  have hrest : (⟨bs, P.length, 0, 0⟩ : Rs).rest = (recs.flatMap encs).length := by
    unfold Rs.rest
    simp only
    rw [e, List.length_append]
    omega
  have e11 := take_fw (bs := bs) (pre := P) (b := recs.flatMap encs) (post := []) (n := (recs.flatMap encs).length) (by rw [List.append_nil]; exact e) rfl
  rw [← e] at e11
  have hr := drc_fw hrc recs.length (Nat.le_refl _)
  rw [List.take_length, List.drop_length, List.flatMap_nil] at hr
  have hmo : (mb == 1) = more := by rw [hmb]; cases more <;> rfl
  have hmin : min names.length 17 = names.length := by omega
  have hmod : id % 4294967296 = id := Nat.mod_eq_of_lt k1
  have hp0 : dpr0 bs = (⟨82, op, code, id, off, num, mb, names, recs.length, recs.flatMap encs⟩, ⟨bs, bs.length, 0, 0⟩) := by
    unfold dpr0
    simp only [e1, e2, e3, e4, e5, e6, e7, e8, hmin, e9, e10, hrest, e11, hmod, List.headD_cons]
  unfold dpr
  rw [hp0]
  simp only
  rw [hr]
  unfold dpr1
  simp only [Hp.x, hmo]
theorem take1_lt {s : Rs} (h : s.Ok) : (s.take 1).1.headD 0 < 256 := by
  have oby : By (s.take 1).1 := Rs.take_by h 1
  cases h1 : (s.take 1).1 with
  | nil => simp
  | cons y r => exact oby y (by rw [h1]; simp)
theorem dpr_nm {bs : List Nat} {x : Rp} (hby : By bs) (hl : bs.length ≤ 140737488351232) (h : dpr bs = some x) : x.Nm := by
  have hok0 : (⟨bs, 0, 0, 0⟩ : Rs).Ok := ok_new hby hl
  have ok1 := hok0.take 1
  have ok2 := ok1.take 1
  have ok3 := ok2.take 1
  have n4 := ok3.num
  have n5 := n4.1.num
  have n6 := n5.1.num
  unfold dpr at h
  cases hq : drc (dpr0 bs).1.n (dpr0 bs).1.r with
  | none => rw [hq] at h; cases h
  | some q =>
    rw [hq] at h
    unfold dpr1 at h
    injection h with h
    subst h
    have a1 := take1_lt ok1
    have a2 := take1_lt ok2
    refine ⟨?_, ?_, ?_, ?_, ?_⟩
    · show (dpr0 bs).1.i < _
      unfold dpr0
      exact Nat.mod_lt _ (by omega)
    · unfold r64 Hp.x dpr0
      simp only
      omega
    · unfold r64 Hp.x dpr0
      simp only
      omega
    · unfold Hp.x dpr0 vi
      exact zag_range _ n5.2.1
    · unfold Hp.x dpr0 vi
      exact zag_range _ n6.2.1
theorem ddec_eq {b : List Nat} (hby : By b) (hl : b.length ≤ 140737488351232) : ddec b = decp b := by
  by_cases h : (bd b).2 = 0
  · obtain ⟨hw, h9, hdr⟩ := bd_wrapped hby h
    have hyb : By (bd b).1 := by rw [hdr]; exact by_drop hby 9
    have hlb : (bd b).1.length ≤ 140737488351232 := by rw [hdr, List.length_drop]; omega
    have hd : ddec b = ddec1 b (dpr (bd b).1) := by unfold ddec; rw [if_neg (by simpa using h)]
    have hp : decp b = outp (prs (bd b).1) := by unfold decp; rw [if_neg (by simpa using h)]
    rw [hd]
    cases hx : prs (bd b).1 with
    | some x =>
      have he : decp b = (x, 0) := by rw [hp, hx]; rfl
      obtain ⟨h1, h2⟩ := decp_back hby hl he
      obtain ⟨_, hm, hb, _, h5⟩ := decp_fw h2 h1
      have hbd : (bd b).1 = bdyp x := by
        have := bd_wrap (bdyp_by hm) (by omega) h5
        rw [← hb] at this
        rw [this]
      have hf := dpr_fw hm h2 (by omega)
      rw [hbd, hf, he]
      unfold ddec1
      simp only
      rw [if_pos h1]
    | none =>
      have he : decp b = (rp0, 162) := by rw [hp, hx]; rfl
      rw [he]
      cases hq : dpr (bd b).1 with
      | none => rfl
      | some y =>
        unfold ddec1
        simp only
        rw [if_neg]
        intro hr
        have := (decp_fw (dpr_nm hyb hlb hq) hr).1
        rw [he] at this
        injection this with _ h0
        cases h0
  · unfold ddec decp
    rw [if_pos h, if_pos h]
end Go.Proofs.YtljfmcgeiceagaaGreat
