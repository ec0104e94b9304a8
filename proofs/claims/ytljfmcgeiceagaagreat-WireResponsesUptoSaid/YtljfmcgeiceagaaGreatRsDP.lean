/- Reading responses: in plain words. -/
import Derived.Test.YtljfmcgeiceagaaGreatRsP
import Derived.Test.YtljfmcgeiceagaaGreatD3
namespace Go.Proofs.YtljfmcgeiceagaaGreat
open Go Go.RowKit
set_option linter.unusedVariables false
set_option linter.unusedSimpArgs false

def cn (most : Nat) (s : Rs) : Nat × Rs := if most < s.num.1 then (0, s.num.2.fail 4) else (s.num.1, s.num.2)
def vi (s : Rs) : Int × Rs := (Uv.zag (s.num.1 : Int), s.num.2)
def nms : Nat → Rs → List ByteArray × Rs
  | 0, s => ([], s)
  | k + 1, s => ((nms k s).1 ++ [strOf ((nms k s).2.text 24).1], ((nms k s).2.text 24).2)
def rcs1 : Option (List Rc × List Nat) → Option (List Rc × List Nat)
  | some q => if (rdec q.2).2.2 = 0 then some (q.1 ++ [(rdec q.2).1], q.2.drop (rdec q.2).2.1) else none
  | none => none
def rcs : Nat → List Nat → Option (List Rc × List Nat)
  | 0, b => some ([], b)
  | k + 1, b => rcs1 (rcs k b)
open Classical in
noncomputable def prs2 (F : List Rc → Rp) : Option (List Rc × List Nat) → Option Rp
  | some q => if q.2 ≠ [] ∨ (renp (F q.1)).2 ≠ 0 then none else some (F q.1)
  | none => none
/-- The head's parts, and the reader behind them. -/
structure Hp where
  f : Nat
  o : Nat
  c : Nat
  i : Nat
  off : Int
  num : Int
  m : Nat
  ns : List ByteArray
  n : Nat
  r : List Nat
def prs0 (bs : List Nat) : Hp × Rs :=
  let f := (⟨bs, 0, 0, 0⟩ : Rs).take 1
  let o := f.2.take 1
  let c := o.2.take 1
  let i := q32 c.2
  let off := vi i.2
  let num := vi off.2
  let m := num.2.take 1
  let k := cn 16 m.2
  let ns := nms k.1 k.2
  let n := cn bs.length ns.2
  let r := n.2.take (n.2.rest : Int)
  (⟨f.1.headD 0, o.1.headD 0, c.1.headD 0, i.1, off.1, num.1, m.1.headD 0, ns.1, n.1, r.1⟩, r.2)
def Hp.x (h : Hp) (l : List Rc) : Rp := ⟨h.i, h.o, h.c, h.off, h.num, h.m == 1, h.ns, l⟩
noncomputable def prs1 (q : Hp × Rs) : Option Rp :=
  if q.2.fin.1 ≠ 0 ∨ q.1.f ≠ 82 ∨ 1 < q.1.m then none else prs2 q.1.x (rcs q.1.n q.1.r)
noncomputable def prs (bs : List Nat) : Option Rp := prs1 (prs0 bs)
def rp0 : Rp := ⟨0, 0, 0, 0, 0, false, [], []⟩
def outp : Option Rp → Rp × Int
  | some x => (x, 0)
  | none => (rp0, 162)
noncomputable def decp (b : List Nat) : Rp × Int := if (bd b).2 ≠ 0 then (rp0, 160) else outp (prs (bd b).1)

theorem vi_fw {bs pre post : List Nat} {v : Int} (h : bs = pre ++ (Uv.uv (Uv.zig v).toNat ++ post)) (hv : r64 v) : vi (⟨bs, pre.length, 0, 0⟩ : Rs) = (v, ⟨bs, (pre ++ Uv.uv (Uv.zig v).toNat).length, 0, 0⟩) := by
  obtain ⟨h1, h2⟩ := zig_nat v hv
  unfold vi
  rw [num_fw h h2]
  have e : Uv.zag (((Uv.zig v).toNat : Nat) : Int) = v := by rw [← h1, Uv.zag_zig]
  simp only [e]
theorem cn_fw {bs pre post : List Nat} {v most : Nat} (h : bs = pre ++ (Uv.uv v ++ post)) (hm : v ≤ most) (hv : v < 18446744073709551616) : cn most (⟨bs, pre.length, 0, 0⟩ : Rs) = (v, ⟨bs, (pre ++ Uv.uv v).length, 0, 0⟩) := by
  unfold cn
  rw [num_fw h hv, if_neg (by simp only; omega)]
theorem nms_fw {bs pre post : List Nat} {l : List ByteArray} (h : bs = pre ++ (l.flatMap txt ++ post)) (h24 : ∀ s ∈ l, s.size ≤ 24) : ∀ k, k ≤ l.length → nms k (⟨bs, pre.length, 0, 0⟩ : Rs) = (l.take k, ⟨bs, (pre ++ (l.take k).flatMap txt).length, 0, 0⟩)
  | 0, _ => by simp [nms]
  | k + 1, hk => by
    have hg : l[k]? = some l[k] := List.getElem?_eq_getElem (by omega)
    have hs := h24 l[k] (List.getElem_mem _)
    obtain ⟨s, hss⟩ : ∃ s, s = l[k] := ⟨_, rfl⟩
    rw [← hss] at hg hs
    have e : bs = (pre ++ (l.take k).flatMap txt) ++ ((Uv.uv s.size ++ sb s) ++ ((l.drop (k + 1)).flatMap txt ++ post)) := by
      have hd : l = l.take k ++ s :: l.drop (k + 1) := by rw [hss, ← List.drop_eq_getElem_cons (by omega), List.take_append_drop]
      rw [h]
      conv => lhs; rw [hd]
      rw [List.flatMap_append, List.flatMap_cons]
      simp only [txt, List.append_assoc]
    unfold nms
    rw [nms_fw h h24 k (by omega), flatT hg, List.take_add_one, hg]
    simp only
    have ht := text_read (pre := pre ++ (l.take k).flatMap txt) (post := (l.drop (k + 1)).flatMap txt ++ post) (s := s) (most := 24) (by omega) (by omega)
    rw [← e] at ht
    rw [ht]
    simp only [strOf_sb, Option.toList_some, List.length_append, txt]
    congr 2
    omega
theorem encs_pos {r : Rc} (h : chk r = 0) : encs r = wrap 169 (bdy r) ∧ 0 < (encs r).length := by
  unfold encs
  rw [renc_ok h]
  exact ⟨rfl, by simp only [wrap_length]; omega⟩
theorem rcs_fw {l : List Rc} (h : ∀ r ∈ l, chk r = 0) : ∀ k, k ≤ l.length → rcs k (l.flatMap encs) = some (l.take k, (l.drop k).flatMap encs)
  | 0, _ => by simp [rcs]
  | k + 1, hk => by
    unfold rcs
    rw [rcs_fw h k (by omega)]
    have hr := h l[k] (List.getElem_mem _)
    have hd : l.drop k = l[k] :: l.drop (k + 1) := List.drop_eq_getElem_cons (by omega)
    have hdec := rdec_wrap (chk_may hr) ((l.drop (k + 1)).flatMap encs)
    unfold rcs1
    simp only
    rw [hd, List.flatMap_cons, (encs_pos hr).1, hdec]
    simp only [if_pos]
    rw [List.take_add_one, List.getElem?_eq_getElem (by omega), ← wrap_length 169, List.drop_left]
    rfl
theorem recs_len : ∀ (l : List Rc), (∀ r ∈ l, chk r = 0) → l.length ≤ (l.flatMap encs).length
  | [], _ => by simp
  | r :: t, h => by
    rw [List.flatMap_cons, List.length_append, List.length_cons]
    have h1 := (encs_pos (h r (by simp))).2
    have h2 := recs_len t (fun q hq => h q (by simp [hq]))
    omega
theorem prs_fw {x : Rp} (hm : MayP x) (hk : x.Nm) (hl : (bdyp x).length ≤ 140737488351232) (h0 : (renp x).2 = 0) : prs (bdyp x) = some x := by
  obtain ⟨hop, hc0, hc1, hn16⟩ := hm.hd
  obtain ⟨id, op, code, off, num, more, names, recs⟩ := x
  have h24 := hm.names
  have hrc := hm.recs
  obtain ⟨k1, k2, k3, k4, k5⟩ := hk
  simp only at hop hc0 hc1 hn16 k1 k4 k5 h24 hrc
  obtain ⟨op, rfl⟩ : ∃ m : Nat, op = (m : Int) := ⟨op.toNat, by omega⟩
  obtain ⟨code, rfl⟩ : ∃ m : Nat, code = (m : Int) := ⟨code.toNat, by omega⟩
  obtain ⟨mb, hmb⟩ : ∃ mb : Nat, mb = if more = true then 1 else 0 := ⟨_, rfl⟩
  obtain ⟨bs, hbs⟩ : ∃ bs, bs = bdyp ⟨id, op, code, off, num, more, names, recs⟩ := ⟨_, rfl⟩
  have e : bs = [82, op, code] ++ Uv.uv id ++ Uv.uv (Uv.zig off).toNat ++ Uv.uv (Uv.zig num).toNat ++ [mb] ++ Uv.uv names.length ++ names.flatMap txt ++ Uv.uv recs.length ++ recs.flatMap encs := by
    rw [hbs, hmb]
    simp only [bdyp, headp, Int.toNat_natCast]
  rw [← hbs] at hl ⊢
  have e1 : (⟨bs, 0, 0, 0⟩ : Rs).take 1 = ([82], ⟨bs, ([82] : List Nat).length, 0, 0⟩) := take_fw (bs := bs) (pre := []) (b := [82]) (n := 1) (post := [op, code] ++ Uv.uv id ++ Uv.uv (Uv.zig off).toNat ++ Uv.uv (Uv.zig num).toNat ++ [mb] ++ Uv.uv names.length ++ names.flatMap txt ++ Uv.uv recs.length ++ recs.flatMap encs) (by rw [e]; simp only [List.append_assoc]; rfl) rfl
  have e2 : (⟨bs, ([82] : List Nat).length, 0, 0⟩ : Rs).take 1 = ([op], ⟨bs, ([82, op] : List Nat).length, 0, 0⟩) := take_fw (bs := bs) (pre := [82]) (b := [op]) (n := 1) (post := [code] ++ Uv.uv id ++ Uv.uv (Uv.zig off).toNat ++ Uv.uv (Uv.zig num).toNat ++ [mb] ++ Uv.uv names.length ++ names.flatMap txt ++ Uv.uv recs.length ++ recs.flatMap encs) (by rw [e]; simp only [List.append_assoc]; rfl) rfl
  have e3 : (⟨bs, ([82, op] : List Nat).length, 0, 0⟩ : Rs).take 1 = ([code], ⟨bs, ([82, op, code] : List Nat).length, 0, 0⟩) := take_fw (bs := bs) (pre := [82, op]) (b := [code]) (n := 1) (post := Uv.uv id ++ Uv.uv (Uv.zig off).toNat ++ Uv.uv (Uv.zig num).toNat ++ [mb] ++ Uv.uv names.length ++ names.flatMap txt ++ Uv.uv recs.length ++ recs.flatMap encs) (by rw [e]; simp only [List.append_assoc]; rfl) rfl
  have e4 := q32_fw (bs := bs) (pre := [82, op, code]) (v := id) (post := Uv.uv (Uv.zig off).toNat ++ Uv.uv (Uv.zig num).toNat ++ [mb] ++ Uv.uv names.length ++ names.flatMap txt ++ Uv.uv recs.length ++ recs.flatMap encs) (by rw [e]; simp only [List.append_assoc]) k1
  have e5 := vi_fw (bs := bs) (pre := [82, op, code] ++ Uv.uv id) (v := off) (post := Uv.uv (Uv.zig num).toNat ++ [mb] ++ Uv.uv names.length ++ names.flatMap txt ++ Uv.uv recs.length ++ recs.flatMap encs) (by rw [e]; simp only [List.append_assoc]) k4
  have e6 := vi_fw (bs := bs) (pre := [82, op, code] ++ Uv.uv id ++ Uv.uv (Uv.zig off).toNat) (v := num) (post := [mb] ++ Uv.uv names.length ++ names.flatMap txt ++ Uv.uv recs.length ++ recs.flatMap encs) (by rw [e]; simp only [List.append_assoc]) k5
  have e7 : (⟨bs, ([82, op, code] ++ Uv.uv id ++ Uv.uv (Uv.zig off).toNat ++ Uv.uv (Uv.zig num).toNat).length, 0, 0⟩ : Rs).take 1 = ([mb], ⟨bs, ([82, op, code] ++ Uv.uv id ++ Uv.uv (Uv.zig off).toNat ++ Uv.uv (Uv.zig num).toNat ++ [mb]).length, 0, 0⟩) := take_fw (bs := bs) (n := 1) (pre := [82, op, code] ++ Uv.uv id ++ Uv.uv (Uv.zig off).toNat ++ Uv.uv (Uv.zig num).toNat) (b := [mb]) (post := Uv.uv names.length ++ names.flatMap txt ++ Uv.uv recs.length ++ recs.flatMap encs) (by rw [e]; simp only [List.append_assoc]) rfl
  have e8 := cn_fw (bs := bs) (pre := [82, op, code] ++ Uv.uv id ++ Uv.uv (Uv.zig off).toNat ++ Uv.uv (Uv.zig num).toNat ++ [mb]) (v := names.length) (most := 16) (post := names.flatMap txt ++ Uv.uv recs.length ++ recs.flatMap encs) (by rw [e]; simp only [List.append_assoc]) hn16 (by omega)
  have e9 := nms_fw (bs := bs) (pre := [82, op, code] ++ Uv.uv id ++ Uv.uv (Uv.zig off).toNat ++ Uv.uv (Uv.zig num).toNat ++ [mb] ++ Uv.uv names.length) (l := names) (post := Uv.uv recs.length ++ recs.flatMap encs) (by rw [e]; simp only [List.append_assoc]) h24 names.length (Nat.le_refl _)
  rw [List.take_length] at e9
  have hrl : recs.length ≤ bs.length := by
    have := recs_len recs hrc
    rw [e]
    simp only [List.length_append]
    omega
  have e10 := cn_fw (bs := bs) (pre := [82, op, code] ++ Uv.uv id ++ Uv.uv (Uv.zig off).toNat ++ Uv.uv (Uv.zig num).toNat ++ [mb] ++ Uv.uv names.length ++ names.flatMap txt) (v := recs.length) (most := bs.length) (post := recs.flatMap encs) (by rw [e]; simp only [List.append_assoc]) hrl (by omega)
  obtain ⟨P, hP⟩ : ∃ P, P = [82, op, code] ++ Uv.uv id ++ Uv.uv (Uv.zig off).toNat ++ Uv.uv (Uv.zig num).toNat ++ [mb] ++ Uv.uv names.length ++ names.flatMap txt ++ Uv.uv recs.length := ⟨_, rfl⟩
  rw [← hP] at e e10
  have hrest : (⟨bs, P.length, 0, 0⟩ : Rs).rest = (recs.flatMap encs).length := by
    unfold Rs.rest
    simp only
    rw [e, List.length_append]
    omega
  have e11 := take_fw (bs := bs) (pre := P) (b := recs.flatMap encs) (post := []) (n := (recs.flatMap encs).length) (by rw [List.append_nil]; exact e) rfl
  rw [← e] at e11
  have hr := rcs_fw hrc recs.length (Nat.le_refl _)
  rw [List.take_length, List.drop_length, List.flatMap_nil] at hr
  have hmo : (mb == 1) = more := by rw [hmb]; cases more <;> rfl
  have hm1 : ¬ 1 < mb := by rw [hmb]; split <;> omega
  have hp0 : prs0 bs = (⟨82, op, code, id, off, num, mb, names, recs.length, recs.flatMap encs⟩, ⟨bs, bs.length, 0, 0⟩) := by
    unfold prs0
    simp only [e1, e2, e3, e4, e5, e6, e7, e8, e9, e10, hrest, e11, List.headD_cons]
  unfold prs
  rw [hp0]
  unfold prs1
  simp only [fin_all]
  rw [if_neg (by simp; omega), hr]
  unfold prs2
  simp only [Hp.x, hmo]
  rw [if_neg]
  rintro (h | h)
  · exact h rfl
  · exact h h0
end Go.Proofs.YtljfmcgeiceagaaGreat
