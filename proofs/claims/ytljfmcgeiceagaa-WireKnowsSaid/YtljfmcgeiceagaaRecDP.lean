/- What any bytes begin with, as a record: in plain words. -/
import Derived.Test.YtljfmcgeiceagaaRecP
import Derived.Test.YtljfmcgeiceagaaSqBack
import Derived.Test.YtljfmcgeiceagaaWrapB
namespace Go.Proofs.Ytljfmcgeiceagaa
open Go Go.RowKit
set_option linter.unusedVariables false
set_option linter.unusedSimpArgs false

def rc0 : Rc := ⟨0, 0, 0, 0, 0, ⟨#[]⟩, ⟨#[]⟩⟩
/-- A number below 2 to the 63. -/
def n63 (s : Rs) : Int × Rs := (sg s.num.1, if 9223372036854775808 ≤ s.num.1 then s.num.2.fail 41 else s.num.2)
def pfin (f : Nat) (o t p s : Int) (k v : List Nat) : Option Rc :=
  if (if f / 2 % 2 = 1 then dec v else (v, 0)).2 ≠ 0 then none
  else if (shrt (if f / 2 % 2 = 1 then dec v else (v, 0)).1).2 ≠ decide (f / 2 % 2 = 1) then none
  else if chk ⟨if f % 2 = 1 then 2 else 1, o, t, p, s, strOf k, strOf (if f / 2 % 2 = 1 then dec v else (v, 0)).1⟩ = 0 then some ⟨if f % 2 = 1 then 2 else 1, o, t, p, s, strOf k, strOf (if f / 2 % 2 = 1 then dec v else (v, 0)).1⟩ else none
def pst (pr : Prop) [Decidable pr] (s : Rs) : Int × Rs := if pr then n63 s else (0, s)
/-- The program's read. -/
def prd1 (f : Nat) (z : Rs) : Option Rc :=
  let a := n63 z
  let b := n63 a.2
  let c := pst (f / 4 % 2 = 1) b.2
  let d := pst (f / 4 % 2 = 1) c.2
  let k := d.2.text 64
  let v := k.2.take k.2.rest
  if 8 ≤ f ∨ v.2.fin.1 ≠ 0 ∨ (f / 4 % 2 = 1 ∧ c.1 = 0) then none else pfin f a.1 b.1 c.1 d.1 k.1 v.1
def prd (bs : List Nat) : Option Rc := prd1 (((⟨bs, 0, 0, 0⟩ : Rs).take 1).1.headD 0) ((⟨bs, 0, 0, 0⟩ : Rs).take 1).2
theorem pst_yes {pr : Prop} [Decidable pr] (h : pr) (s : Rs) : pst pr s = n63 s := if_pos h
theorem pst_no {pr : Prop} [Decidable pr] (h : ¬ pr) (s : Rs) : pst pr s = (0, s) := if_neg h
def nst (pr : Prop) [Decidable pr] (s : Rs) : Nat × Rs := if pr then s.num else (0, s)
theorem nst_yes {pr : Prop} [Decidable pr] (h : pr) (s : Rs) : nst pr s = s.num := if_pos h
theorem nst_no {pr : Prop} [Decidable pr] (h : ¬ pr) (s : Rs) : nst pr s = (0, s) := if_neg h
/-- The document's. -/
def rdm1 (f : Nat) (z : Rs) : Rc :=
  let a := z.num
  let b := a.2.num
  let c := nst (4 ≤ f) b.2
  let d := nst (4 ≤ f) c.2
  let k := d.2.text 64
  let v := k.2.take k.2.rest
  ⟨if f % 2 = 1 then 2 else 1, sg a.1, sg b.1, sg c.1, sg d.1, strOf k.1, strOf (if f / 2 % 2 = 1 then (dec v.1).1 else v.1)⟩
def rdm (bs : List Nat) : Rc := rdm1 (((⟨bs, 0, 0, 0⟩ : Rs).take 1).1.headD 0) ((⟨bs, 0, 0, 0⟩ : Rs).take 1).2
/-- What any bytes begin with. -/
def rdec (b : List Nat) : Rc × Nat × Nat :=
  if b.length = 0 then (rc0, 0, 40)
  else if b.headD 0 ≠ 169 then (rc0, 0, 41)
  else if b.length < 5 then (rc0, 0, 40)
  else if val ((b.drop 1).take 4) < 5 ∨ 1115 < val ((b.drop 1).take 4) then (rc0, 0, 41)
  else if b.length < 9 + val ((b.drop 1).take 4) then (rc0, 0, 40)
  else if chk (rdm ((b.drop 9).take (val ((b.drop 1).take 4)))) = 0 ∧ wrap 169 (bdy (rdm ((b.drop 9).take (val ((b.drop 1).take 4))))) = b.take (9 + val ((b.drop 1).take 4))
    then (rdm ((b.drop 9).take (val ((b.drop 1).take 4))), 9 + val ((b.drop 1).take 4), 0) else (rc0, 0, 41)

/-- Forward. -/
theorem take_fw {bs pre b post : List Nat} {n : Nat} (h : bs = pre ++ (b ++ post)) (hb : b.length = n) : (⟨bs, pre.length, 0, 0⟩ : Rs).take (n : Int) = (b, ⟨bs, (pre ++ b).length, 0, 0⟩) := by
  subst h
  rw [take_read hb]
  simp [hb]
theorem num_fw {bs pre post : List Nat} {v : Nat} (h : bs = pre ++ (Uv.uv v ++ post)) (hv : v < 18446744073709551616) : (⟨bs, pre.length, 0, 0⟩ : Rs).num = (v, ⟨bs, (pre ++ Uv.uv v).length, 0, 0⟩) := by
  subst h
  rw [num_read hv]
  simp
theorem text_fw {bs pre post : List Nat} {s : ByteArray} (h : bs = pre ++ ((Uv.uv s.size ++ sb s) ++ post)) (hs : s.size ≤ 64) : (⟨bs, pre.length, 0, 0⟩ : Rs).text 64 = (sb s, ⟨bs, (pre ++ (Uv.uv s.size ++ sb s)).length, 0, 0⟩) := by
  subst h
  rw [text_read (by omega) (by omega)]
  simp
theorem sg_small {v : Nat} (h : v < 9223372036854775808) : sg v = (v : Int) := by unfold sg; rw [if_pos h]
theorem n63_fw {bs pre post : List Nat} {v : Nat} (h : bs = pre ++ (Uv.uv v ++ post)) (hv : v < 9223372036854775808) : n63 (⟨bs, pre.length, 0, 0⟩ : Rs) = ((v : Int), ⟨bs, (pre ++ Uv.uv v).length, 0, 0⟩) := by
  unfold n63
  rw [num_fw h (by omega), if_neg (by simp only; omega), sg_small hv]

theorem flg_bits (x : Rc) : (flg x % 2 = 1 ↔ x.k = 2) ∧ (flg x / 2 % 2 = 1 ↔ (shrt (sb x.val)).2 = true) ∧ (flg x / 4 % 2 = 1 ↔ 0 < x.p) ∧ (4 ≤ flg x ↔ 0 < x.p) := by
  unfold flg
  split <;> split <;> split <;> simp_all

theorem take1_fw {bs post : List Nat} {f : Nat} (h : bs = [f] ++ post) : (⟨bs, 0, 0, 0⟩ : Rs).take 1 = ([f], ⟨bs, ([f] : List Nat).length, 0, 0⟩) := by
  have := take_fw (bs := bs) (pre := []) (b := [f]) (post := post) (n := 1) (by simpa using h) rfl
  simpa using this
theorem bdy_parts (x : Rc) (hp : 0 < x.p) : bdy x = [flg x] ++ (Uv.uv x.o.toNat ++ (Uv.uv x.t.toNat ++ (Uv.uv x.p.toNat ++ (Uv.uv x.s.toNat ++ ((Uv.uv x.key.size ++ sb x.key) ++ ((shrt (sb x.val)).1 ++ [])))))) := by
  unfold bdy nums
  rw [if_pos hp]
  simp only [List.append_assoc, List.append_nil]
theorem bdy_parts0 (x : Rc) (hp : ¬ 0 < x.p) : bdy x = [flg x] ++ (Uv.uv x.o.toNat ++ (Uv.uv x.t.toNat ++ ((Uv.uv x.key.size ++ sb x.key) ++ ((shrt (sb x.val)).1 ++ [])))) := by
  unfold bdy nums
  rw [if_neg hp]
  simp only [List.append_assoc, List.append_nil]
theorem ap5 {a b c d e f : List Nat} : a ++ (b ++ (c ++ (d ++ (e ++ f)))) = ((((a ++ b) ++ c) ++ d) ++ e) ++ f := by simp
/-- What the steps come to over a record's own bytes. -/
structure Fw (x : Rc) (f : Nat) (v : List Nat × Rs) : Prop where
  val : v.1 = (shrt (sb x.val)).1
  fin : v.2.fin = (0, 0)
theorem rest_fw {bs pre b : List Nat} (h : bs = pre ++ b) : (⟨bs, pre.length, 0, 0⟩ : Rs).take ((⟨bs, pre.length, 0, 0⟩ : Rs).rest : Nat) = (b, ⟨bs, bs.length, 0, 0⟩) := by
  have hr : (⟨bs, pre.length, 0, 0⟩ : Rs).rest = b.length := by subst h; simp [Rs.rest]
  rw [hr, take_fw (b := b) (post := []) (by simpa using h) rfl, h]
theorem nat_of {a : Int} (h : 0 ≤ a) : ((a.toNat : Nat) : Int) = a := by omega
theorem fin_all {bs : List Nat} : (⟨bs, bs.length, 0, 0⟩ : Rs).fin = (0, 0) := by simp [Rs.fin]
theorem shrt_dec {v : List Nat} (hb : By v) (h4 : v.length ≤ 4096) (h : (shrt v).2 = true) : dec (shrt v).1 = (v, 0) := by
  unfold shrt at h ⊢
  split at h
  · rename_i hc
    rw [if_pos hc]
    simp only
    rw [enc_short (by omega)]
    exact dec_enc hb h4
  · simp at h
theorem shrt_same {v : List Nat} (h : ¬ (shrt v).2 = true) : (shrt v).1 = v := by
  unfold shrt at h ⊢
  split
  · rename_i hc
    rw [if_pos hc] at h
    simp at h
  · rfl
theorem pfin_fw {x : Rc} (hm : May x) : pfin (flg x) x.o x.t x.p x.s (sb x.key) (shrt (sb x.val)).1 = some x := by
  obtain ⟨b1, b2, b3, b4⟩ := flg_bits x
  have hd : (if flg x / 2 % 2 = 1 then dec (shrt (sb x.val)).1 else ((shrt (sb x.val)).1, 0)) = (sb x.val, 0) := by
    by_cases h : (shrt (sb x.val)).2 = true
    · rw [if_pos (b2.2 h)]
      exact shrt_dec (sb_by _) (by rw [sb_length]; have := hm.val; omega) h
    · rw [if_neg (fun e => h (b2.1 e)), shrt_same h]
  have hk : (if flg x % 2 = 1 then (2 : Int) else 1) = x.k := by
    rcases hm.k with h | h
    · rw [if_neg (fun e => by have := b1.1 e; omega), h]
    · rw [if_pos (b1.2 h), h]
  unfold pfin
  rw [hd, hk]
  simp only [strOf_sb]
  rw [if_neg (by simp), if_neg (by
    simp only [ne_eq, Decidable.not_not]
    by_cases h : (shrt (sb x.val)).2 = true
    · rw [h, decide_eq_true (b2.2 h)]
    · rw [decide_eq_false (fun e => h (b2.1 e))]; simpa using h), if_pos (may_chk hm)]
theorem prd_bdy {x : Rc} (hm : May x) : prd (bdy x) = some x := by
  obtain ⟨b1, b2, b3, b4⟩ := flg_bits x
  have ho := hm.o
  have ht := hm.t
  have hp := hm.p
  have hs := hm.s
  have hk := hm.key
  have e1 : ((x.o.toNat : Nat) : Int) = x.o := nat_of ho.1
  have e2 : ((x.t.toNat : Nat) : Int) = x.t := nat_of ht.1
  have e3 : ((x.p.toNat : Nat) : Int) = x.p := nat_of hp.1
  have e4 : ((x.s.toNat : Nat) : Int) = x.s := nat_of hs.1
  by_cases h0 : 0 < x.p
  · have hb := bdy_parts x h0
    obtain ⟨bs, hbs⟩ : ∃ bs, bs = bdy x := ⟨_, rfl⟩
    rw [← hbs] at hb ⊢
    have p1 := n63_fw (pre := [flg x]) (v := x.o.toNat) hb (by omega)
    have p2 := n63_fw (pre := [flg x] ++ Uv.uv x.o.toNat) (v := x.t.toNat) (bs := bs) (by rw [hb]; simp only [List.append_assoc]; rfl) (by omega)
    have p3 := n63_fw (pre := [flg x] ++ Uv.uv x.o.toNat ++ Uv.uv x.t.toNat) (v := x.p.toNat) (bs := bs) (by rw [hb]; simp only [List.append_assoc]; rfl) (by omega)
    have p4 := n63_fw (pre := [flg x] ++ Uv.uv x.o.toNat ++ Uv.uv x.t.toNat ++ Uv.uv x.p.toNat) (v := x.s.toNat) (bs := bs) (by rw [hb]; simp only [List.append_assoc]; rfl) (by omega)
    have p5 := text_fw (pre := [flg x] ++ Uv.uv x.o.toNat ++ Uv.uv x.t.toNat ++ Uv.uv x.p.toNat ++ Uv.uv x.s.toNat) (s := x.key) (bs := bs) (by rw [hb]; simp only [List.append_assoc]; rfl) (by omega)
    have p6 := rest_fw (pre := [flg x] ++ Uv.uv x.o.toNat ++ Uv.uv x.t.toNat ++ Uv.uv x.p.toNat ++ Uv.uv x.s.toNat ++ (Uv.uv x.key.size ++ sb x.key)) (b := (shrt (sb x.val)).1) (bs := bs) (by rw [hb]; simp only [List.append_assoc, List.append_nil])
    unfold prd
    rw [take1_fw hb]
    simp only [List.headD_cons]
    unfold prd1
    simp only
    rw [p1]
    simp only
    rw [p2]
    simp only
    rw [(pst_yes (b3.2 h0) _).trans p3]
    simp only
    rw [(pst_yes (b3.2 h0) _).trans p4]
    simp only
    rw [p5]
    simp only
    rw [p6, fin_all]
    rw [if_neg (by
      have := flg_lt x
      simp only [ne_eq, not_true_eq_false, false_or]
      omega), e1, e2, e3, e4]
    exact pfin_fw hm
  · have hb := bdy_parts0 x h0
    obtain ⟨bs, hbs⟩ : ∃ bs, bs = bdy x := ⟨_, rfl⟩
    rw [← hbs] at hb ⊢
    have p1 := n63_fw (pre := [flg x]) (v := x.o.toNat) hb (by omega)
    have p2 := n63_fw (pre := [flg x] ++ Uv.uv x.o.toNat) (v := x.t.toNat) (bs := bs) (by rw [hb]; simp only [List.append_assoc]; rfl) (by omega)
    have p5 := text_fw (pre := [flg x] ++ Uv.uv x.o.toNat ++ Uv.uv x.t.toNat) (s := x.key) (bs := bs) (by rw [hb]; simp only [List.append_assoc]; rfl) (by omega)
    have p6 := rest_fw (pre := [flg x] ++ Uv.uv x.o.toNat ++ Uv.uv x.t.toNat ++ (Uv.uv x.key.size ++ sb x.key)) (b := (shrt (sb x.val)).1) (bs := bs) (by rw [hb]; simp only [List.append_assoc, List.append_nil])
    have h4 : ¬ flg x / 4 % 2 = 1 := fun e => h0 (b3.1 e)
    have z1 : x.p = 0 := by omega
    have z2 : x.s = 0 := by have := hm.ps; omega
    unfold prd
    rw [take1_fw hb]
    simp only [List.headD_cons]
    unfold prd1
    simp only
    rw [p1]
    simp only
    rw [p2]
    simp only
    rw [pst_no h4 ⟨bs, ([flg x] ++ Uv.uv x.o.toNat ++ Uv.uv x.t.toNat).length, 0, 0⟩]
    simp only
    rw [pst_no h4 ⟨bs, ([flg x] ++ Uv.uv x.o.toNat ++ Uv.uv x.t.toNat).length, 0, 0⟩]
    simp only
    rw [p5]
    simp only
    rw [p6, fin_all]
    rw [if_neg (by
      have := flg_lt x
      simp only [ne_eq, not_true_eq_false, false_or]
      omega), e1, e2]
    have := pfin_fw hm
    rw [z1, z2] at this
    exact this
theorem rdm_bdy {x : Rc} (hm : May x) : rdm (bdy x) = x := by
  obtain ⟨b1, b2, b3, b4⟩ := flg_bits x
  have ho := hm.o
  have ht := hm.t
  have hp := hm.p
  have hs := hm.s
  have hk := hm.key
  have e1 : sg x.o.toNat = x.o := by rw [sg_small (by omega)]; exact nat_of ho.1
  have e2 : sg x.t.toNat = x.t := by rw [sg_small (by omega)]; exact nat_of ht.1
  have e3 : sg x.p.toNat = x.p := by rw [sg_small (by omega)]; exact nat_of hp.1
  have e4 : sg x.s.toNat = x.s := by rw [sg_small (by omega)]; exact nat_of hs.1
  have hd : (if flg x / 2 % 2 = 1 then (dec (shrt (sb x.val)).1).1 else (shrt (sb x.val)).1) = sb x.val := by
    by_cases h : (shrt (sb x.val)).2 = true
    · rw [if_pos (b2.2 h), shrt_dec (sb_by _) (by rw [sb_length]; have := hm.val; omega) h]
    · rw [if_neg (fun e => h (b2.1 e)), shrt_same h]
  have hkk : (if flg x % 2 = 1 then (2 : Int) else 1) = x.k := by
    rcases hm.k with h | h
    · rw [if_neg (fun e => by have := b1.1 e; omega), h]
    · rw [if_pos (b1.2 h), h]
  by_cases h0 : 0 < x.p
  · have hb := bdy_parts x h0
    obtain ⟨bs, hbs⟩ : ∃ bs, bs = bdy x := ⟨_, rfl⟩
    rw [← hbs] at hb ⊢
    have p1 := num_fw (pre := [flg x]) (v := x.o.toNat) hb (by omega)
    have p2 := num_fw (pre := [flg x] ++ Uv.uv x.o.toNat) (v := x.t.toNat) (bs := bs) (by rw [hb]; simp only [List.append_assoc]; rfl) (by omega)
    have p3 := num_fw (pre := [flg x] ++ Uv.uv x.o.toNat ++ Uv.uv x.t.toNat) (v := x.p.toNat) (bs := bs) (by rw [hb]; simp only [List.append_assoc]; rfl) (by omega)
    have p4 := num_fw (pre := [flg x] ++ Uv.uv x.o.toNat ++ Uv.uv x.t.toNat ++ Uv.uv x.p.toNat) (v := x.s.toNat) (bs := bs) (by rw [hb]; simp only [List.append_assoc]; rfl) (by omega)
    have p5 := text_fw (pre := [flg x] ++ Uv.uv x.o.toNat ++ Uv.uv x.t.toNat ++ Uv.uv x.p.toNat ++ Uv.uv x.s.toNat) (s := x.key) (bs := bs) (by rw [hb]; simp only [List.append_assoc]; rfl) (by omega)
    have p6 := rest_fw (pre := [flg x] ++ Uv.uv x.o.toNat ++ Uv.uv x.t.toNat ++ Uv.uv x.p.toNat ++ Uv.uv x.s.toNat ++ (Uv.uv x.key.size ++ sb x.key)) (b := (shrt (sb x.val)).1) (bs := bs) (by rw [hb]; simp only [List.append_assoc, List.append_nil])
    unfold rdm
    rw [take1_fw hb]
    simp only [List.headD_cons]
    unfold rdm1
    simp only
    rw [p1]
    simp only
    rw [p2]
    simp only
    rw [(nst_yes (b4.2 h0) _).trans p3]
    simp only
    rw [(nst_yes (b4.2 h0) _).trans p4]
    simp only
    rw [p5]
    simp only
    rw [p6]
    simp only
    rw [hd, hkk, e1, e2, e3, e4]
    simp only [strOf_sb]
  · have hb := bdy_parts0 x h0
    obtain ⟨bs, hbs⟩ : ∃ bs, bs = bdy x := ⟨_, rfl⟩
    rw [← hbs] at hb ⊢
    have p1 := num_fw (pre := [flg x]) (v := x.o.toNat) hb (by omega)
    have p2 := num_fw (pre := [flg x] ++ Uv.uv x.o.toNat) (v := x.t.toNat) (bs := bs) (by rw [hb]; simp only [List.append_assoc]; rfl) (by omega)
    have p5 := text_fw (pre := [flg x] ++ Uv.uv x.o.toNat ++ Uv.uv x.t.toNat) (s := x.key) (bs := bs) (by rw [hb]; simp only [List.append_assoc]; rfl) (by omega)
    have p6 := rest_fw (pre := [flg x] ++ Uv.uv x.o.toNat ++ Uv.uv x.t.toNat ++ (Uv.uv x.key.size ++ sb x.key)) (b := (shrt (sb x.val)).1) (bs := bs) (by rw [hb]; simp only [List.append_assoc, List.append_nil])
    have h4 : ¬ 4 ≤ flg x := fun e => h0 (b4.1 e)
    have z1 : x.p = 0 := by omega
    have z2 : x.s = 0 := by have := hm.ps; omega
    unfold rdm
    rw [take1_fw hb]
    simp only [List.headD_cons]
    unfold rdm1
    simp only
    rw [p1]
    simp only
    rw [p2]
    simp only
    rw [nst_no h4 ⟨bs, ([flg x] ++ Uv.uv x.o.toNat ++ Uv.uv x.t.toNat).length, 0, 0⟩]
    simp only
    rw [nst_no h4 ⟨bs, ([flg x] ++ Uv.uv x.o.toNat ++ Uv.uv x.t.toNat).length, 0, 0⟩]
    simp only
    rw [p5]
    simp only
    rw [p6]
    simp only
    rw [hd, hkk, e1, e2]
    obtain ⟨k, o, t, p, q, key, val⟩ := x
    simp only at z1 z2
    subst z1 z2
    simp only [strOf_sb]
    rfl
end Go.Proofs.Ytljfmcgeiceagaa
