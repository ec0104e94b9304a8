/- Several texts in one: RqP, WiTab, RqChk, RqEnc, RqRd, RqDec. -/
import Derived.Test.YtljfmcgeiceagaaDoorX6
import Derived.Test.YtljfmcgeiceagaaDoorW1
import Derived.Test.YtljfmcgeiceagaaDoorF1
import Derived.LaidMore
import Derived.OpenShut
import Derived.Deep.CutRange
import Derived.Test.YtljfmcgeiceagaaDoorD1
import Derived.Deep.RegionWith
import Derived.Deep.RegionHeld3
/- Requests: in plain words. -/
namespace Go.Proofs.YtljfmcgeiceagaaDoor
open Go Go.RowKit
set_option linter.unusedVariables false
set_option linter.unusedSimpArgs false

structure Rq where
  id : Nat
  op : Int
  t : ByteArray
  k : ByteArray
  v : ByteArray
  o : Int
  n : Int
  p : Int
  s : Int
def Rq.V (x : Rq) : Value := .agg #[.int .u32 (x.id : Int), .int .i64 x.op, .string x.t, .string x.k, .string x.v, .int .i64 x.o, .int .i64 x.n, .int .i64 x.p, .int .i64 x.s]
def rq0 : Rq := ⟨0, 0, ⟨#[]⟩, ⟨#[]⟩, ⟨#[]⟩, 0, 0, 0, 0⟩
/-- What can come in. -/
structure Rq.Ok (x : Rq) : Prop where
  id : x.id < 4294967296
  op : r64 x.op
  t : x.t.size ≤ 140737488351232
  k : x.k.size ≤ 140737488351232
  v : x.v.size ≤ 140737488351232
  o : r64 x.o
  n : r64 x.n
  p : r64 x.p
  s : r64 x.s
/-- What an operation uses. -/
def useB (k : Nat) : Nat := [0, 0, 17, 1, 2, 103, 99, 3, 9, 3, 9, 16, 2, 27, 3, 1].getD k 0
def hasb (b m : Nat) : Bool := decide (b / m % 2 = 1)
def gdT (b m most : Nat) (s : ByteArray) : Bool := decide (s.size ≤ most) && (hasb b m || decide (s.size = 0))
def gdN (b m : Nat) (n : Int) : Bool := decide (0 ≤ n) && (hasb b m || decide (n = 0))
structure MayQ (x : Rq) : Prop where
  op : 1 ≤ x.op ∧ x.op < 16
  t : gdT (useB x.op.toNat) 1 24 x.t = true
  k : gdT (useB x.op.toNat) 2 64 x.k = true
  v : gdT (useB x.op.toNat) 4 1024 x.v = true
  o : gdN (useB x.op.toNat) 8 x.o = true
  n : gdN (useB x.op.toNat) 16 x.n = true
  p : gdN (useB x.op.toNat) 32 x.p = true
  s : gdN (useB x.op.toNat) 64 x.s = true
def okq (x : Rq) : Bool := decide (1 ≤ x.op ∧ x.op < 16) && (gdT (useB x.op.toNat) 1 24 x.t && (gdT (useB x.op.toNat) 2 64 x.k && (gdT (useB x.op.toNat) 4 1024 x.v && (gdN (useB x.op.toNat) 8 x.o && (gdN (useB x.op.toNat) 16 x.n && (gdN (useB x.op.toNat) 32 x.p && gdN (useB x.op.toNat) 64 x.s))))))
theorem okq_may {x : Rq} : okq x = true ↔ MayQ x := by
  unfold okq
  simp only [Bool.and_eq_true, decide_eq_true_eq]
  exact ⟨fun ⟨h1, h2, h3, h4, h5, h6, h7, h8⟩ => ⟨h1, h2, h3, h4, h5, h6, h7, h8⟩, fun ⟨h1, h2, h3, h4, h5, h6, h7, h8⟩ => ⟨h1, h2, h3, h4, h5, h6, h7, h8⟩⟩
theorem gdT_le {b m most : Nat} {s : ByteArray} (h : gdT b m most s = true) : s.size ≤ most ∧ (hasb b m = false → s = ⟨#[]⟩) := by
  unfold gdT at h
  simp only [Bool.and_eq_true, Bool.or_eq_true, decide_eq_true_eq] at h
  exact ⟨h.1, fun e => by rw [e] at h; exact (empty_iff s).1 (by simpa using h.2)⟩
theorem gdN_le {b m : Nat} {n : Int} (h : gdN b m n = true) : 0 ≤ n ∧ (hasb b m = false → n = 0) := by
  unfold gdN at h
  simp only [Bool.and_eq_true, Bool.or_eq_true, decide_eq_true_eq] at h
  exact ⟨h.1, fun e => by rw [e] at h; simpa using h.2⟩
def chkq (x : Rq) : Int := if okq x = true then 0 else 161
def tf (b m : Nat) (s : ByteArray) : List Nat := if hasb b m = true then Uv.uv s.size ++ sb s else []
def nf (b m : Nat) (n : Int) : List Nat := if hasb b m = true then Uv.uv n.toNat else []
theorem tf_yes {b m : Nat} (h : hasb b m = true) (s : ByteArray) : tf b m s = Uv.uv s.size ++ sb s := if_pos h
theorem tf_no {b m : Nat} (h : ¬ hasb b m = true) (s : ByteArray) : tf b m s = [] := if_neg h
theorem nf_yes {b m : Nat} (h : hasb b m = true) (n : Int) : nf b m n = Uv.uv n.toNat := if_pos h
theorem nf_no {b m : Nat} (h : ¬ hasb b m = true) (n : Int) : nf b m n = [] := if_neg h
def bdyq (x : Rq) : List Nat := [81, x.op.toNat] ++ Uv.uv x.id ++ tf (useB x.op.toNat) 1 x.t ++ tf (useB x.op.toNat) 2 x.k ++ tf (useB x.op.toNat) 4 x.v ++ nf (useB x.op.toNat) 8 x.o ++ nf (useB x.op.toNat) 16 x.n ++ nf (useB x.op.toNat) 32 x.p ++ nf (useB x.op.toNat) 64 x.s
def renq (x : Rq) : List Nat × Int := if okq x = true then (wrap 197 (bdyq x), 0) else ([], 161)
theorem tf_by (b m : Nat) (s : ByteArray) : By (tf b m s) := by
  unfold tf; split
  · exact By.append (Uv.uv_lt _) (sb_by _)
  · exact fun b hb => by cases hb
theorem nf_by (b m : Nat) (n : Int) : By (nf b m n) := by
  unfold nf; split
  · exact Uv.uv_lt _
  · exact fun b hb => by cases hb
theorem bdyq_by {x : Rq} (h : MayQ x) : By (bdyq x) := by
  unfold bdyq
  refine By.append (By.append (By.append (By.append (By.append (By.append (By.append (By.append ?_ (Uv.uv_lt _)) (tf_by _ _ _)) (tf_by _ _ _)) (tf_by _ _ _)) (nf_by _ _ _)) (nf_by _ _ _)) (nf_by _ _ _)) (nf_by _ _ _)
  intro b hb
  have := h.op
  simp only [List.mem_cons, List.not_mem_nil, or_false] at hb
  omega
theorem tf_len {b m most : Nat} {s : ByteArray} (hs : s.size ≤ most) (hm : most < 16384) : (tf b m s).length ≤ 2 + most := by
  unfold tf; split
  · have := Uv.uv_len_pow 1 s.size (by omega)
    rw [List.length_append, sb_length]; omega
  · simp
theorem nf_len (b m : Nat) {n : Int} (hn : r64 n) : (nf b m n).length ≤ 9 := by
  unfold nf; split
  · exact Uv.uv_len_pow 8 n.toNat (by have := hn.2; omega)
  · simp
theorem bdyq_len {x : Rq} (h : MayQ x) (hk : x.Ok) : 3 ≤ (bdyq x).length ∧ (bdyq x).length ≤ 1171 := by
  have h1 := Uv.uv_len_pow 4 x.id (by have := hk.id; omega)
  have h2 := tf_len (b := useB x.op.toNat) (m := 1) (gdT_le h.t).1 (by omega)
  have h3 := tf_len (b := useB x.op.toNat) (m := 2) (gdT_le h.k).1 (by omega)
  have h4 := tf_len (b := useB x.op.toNat) (m := 4) (gdT_le h.v).1 (by omega)
  have h5 := nf_len (useB x.op.toNat) 8 hk.o
  have h6 := nf_len (useB x.op.toNat) 16 hk.n
  have h7 := nf_len (useB x.op.toNat) 32 hk.p
  have h8 := nf_len (useB x.op.toNat) 64 hk.s
  have p1 := Uv.uv_pos x.id
  unfold bdyq
  simp only [List.length_append, List.length_cons, List.length_nil]
  omega

/-- Numbers below a bound; the readers of a request's fields. -/
def q63 (s : Rs) : Int × Rs := (sg s.num.1, if 9223372036854775808 ≤ s.num.1 then s.num.2.fail 4 else s.num.2)
def q32 (s : Rs) : Nat × Rs := (s.num.1 % 4294967296, if 4294967296 ≤ s.num.1 then s.num.2.fail 4 else s.num.2)
def tr (b m : Nat) (most : Int) (s : Rs) : List Nat × Rs := if hasb b m = true then s.text most else ([], s)
def nr (b m : Nat) (s : Rs) : Int × Rs := if hasb b m = true then q63 s else (0, s)
def nrr (b m : Nat) (s : Rs) : Int × Rs := if hasb b m = true then (sg s.num.1, s.num.2) else (0, s)
theorem tr_yes {b m : Nat} (h : hasb b m = true) (most : Int) (s : Rs) : tr b m most s = s.text most := if_pos h
theorem tr_no {b m : Nat} (h : ¬ hasb b m = true) (most : Int) (s : Rs) : tr b m most s = ([], s) := if_neg h
theorem nr_yes {b m : Nat} (h : hasb b m = true) (s : Rs) : nr b m s = q63 s := if_pos h
theorem nr_no {b m : Nat} (h : ¬ hasb b m = true) (s : Rs) : nr b m s = (0, s) := if_neg h
theorem nrr_yes {b m : Nat} (h : hasb b m = true) (s : Rs) : nrr b m s = (sg s.num.1, s.num.2) := if_pos h
theorem nrr_no {b m : Nat} (h : ¬ hasb b m = true) (s : Rs) : nrr b m s = (0, s) := if_neg h
def prq2 (b : Nat) (op : Int) (z : Rs) : Rq × Rs :=
  let i := q32 z
  let t := tr b 1 24 i.2
  let k := tr b 2 64 t.2
  let v := tr b 4 1024 k.2
  let o := nr b 8 v.2
  let n := nr b 16 o.2
  let p := nr b 32 n.2
  let s := nr b 64 p.2
  (⟨i.1, op, strOf t.1, strOf k.1, strOf v.1, o.1, n.1, p.1, s.1⟩, s.2)
def prq1 (f op : Nat) (z : Rs) : Option Rq :=
  if f ≠ 81 ∨ ¬ (1 ≤ op ∧ op < 16) then none
  else if (prq2 (useB op) op z).2.fin.1 ≠ 0 ∨ okq (prq2 (useB op) op z).1 = false then none else some (prq2 (useB op) op z).1
def prq (bs : List Nat) : Option Rq :=
  prq1 (((⟨bs, 0, 0, 0⟩ : Rs).take 1).1.headD 0) ((((⟨bs, 0, 0, 0⟩ : Rs).take 1).2.take 1).1.headD 0) (((⟨bs, 0, 0, 0⟩ : Rs).take 1).2.take 1).2
def outq : Option Rq → Rq × Int
  | some x => (x, 0)
  | none => (rq0, 161)
def decq (b : List Nat) : Rq × Int := if (bd b).2 ≠ 0 then (rq0, 160) else outq (prq (bd b).1)
/-- The document's. -/
def rrq2 (b : Nat) (op : Int) (z : Rs) : Rq :=
  let i := z.num
  let t := tr b 1 24 i.2
  let k := tr b 2 64 t.2
  let v := tr b 4 1024 k.2
  let o := nrr b 8 v.2
  let n := nrr b 16 o.2
  let p := nrr b 32 n.2
  let s := nrr b 64 p.2
  ⟨i.1 % 4294967296, op, strOf t.1, strOf k.1, strOf v.1, o.1, n.1, p.1, s.1⟩
def rrq (bs : List Nat) : Rq :=
  rrq2 (useB ((((⟨bs, 0, 0, 0⟩ : Rs).take 1).2.take 1).1.headD 0)) ((((⟨bs, 0, 0, 0⟩ : Rs).take 1).2.take 1).1.headD 0 : Nat) (((⟨bs, 0, 0, 0⟩ : Rs).take 1).2.take 1).2

/-- Forward. -/
theorem tr_fw {bs pre post : List Nat} {b m most : Nat} {M : Int} {s : ByteArray} (h : bs = pre ++ (tf b m s ++ post)) (hg : gdT b m most s = true) (hm : most ≤ 1024) (hM : M = most) :
    strOf (tr b m M ⟨bs, pre.length, 0, 0⟩).1 = s ∧ (tr b m M ⟨bs, pre.length, 0, 0⟩).2 = ⟨bs, (pre ++ tf b m s).length, 0, 0⟩ := by
  obtain ⟨hl, he⟩ := gdT_le hg
  by_cases hb : hasb b m = true
  · rw [tr_yes hb]
    rw [tf_yes hb] at h ⊢
    subst h
    rw [text_read (by omega) (by omega)]
    exact ⟨strOf_sb s, by simp⟩
  · rw [tr_no hb, tf_no hb]
    refine ⟨?_, by simp⟩
    rw [he (by simpa using hb)]
    rfl
theorem q63_fw {bs pre post : List Nat} {v : Nat} (h : bs = pre ++ (Uv.uv v ++ post)) (hv : v < 9223372036854775808) : q63 (⟨bs, pre.length, 0, 0⟩ : Rs) = ((v : Int), ⟨bs, (pre ++ Uv.uv v).length, 0, 0⟩) := by
  unfold q63
  rw [num_fw h (by omega), if_neg (by simp only; omega), sg_small hv]
theorem q32_fw {bs pre post : List Nat} {v : Nat} (h : bs = pre ++ (Uv.uv v ++ post)) (hv : v < 4294967296) : q32 (⟨bs, pre.length, 0, 0⟩ : Rs) = (v, ⟨bs, (pre ++ Uv.uv v).length, 0, 0⟩) := by
  unfold q32
  rw [num_fw h (by omega), if_neg (by simp only; omega), Nat.mod_eq_of_lt hv]
theorem nr_fw {bs pre post : List Nat} {b m : Nat} {n : Int} (h : bs = pre ++ (nf b m n ++ post)) (hg : gdN b m n = true) (hn : r64 n) :
    nr b m ⟨bs, pre.length, 0, 0⟩ = (n, ⟨bs, (pre ++ nf b m n).length, 0, 0⟩) ∧ nrr b m ⟨bs, pre.length, 0, 0⟩ = (n, ⟨bs, (pre ++ nf b m n).length, 0, 0⟩) := by
  obtain ⟨h0, he⟩ := gdN_le hg
  have h2 := hn.2
  have e : ((n.toNat : Nat) : Int) = n := by omega
  by_cases hb : hasb b m = true
  · rw [nr_yes hb, nrr_yes hb]
    rw [nf_yes hb] at h ⊢
    rw [q63_fw h (by omega), num_fw h (by omega), sg_small (by omega), e]
    exact ⟨rfl, rfl⟩
  · rw [nr_no hb, nrr_no hb, nf_no hb, he (by simpa using hb)]
    simp
theorem prq_fw {x : Rq} (hm : MayQ x) (hk : x.Ok) : prq (bdyq x) = some x ∧ rrq (bdyq x) = x := by
  have hop := hm.op
  obtain ⟨bs, hbs⟩ : ∃ bs, bs = bdyq x := ⟨_, rfl⟩
  obtain ⟨b, hb⟩ : ∃ b, b = useB x.op.toNat := ⟨_, rfl⟩
  have e : bs = [81, x.op.toNat] ++ Uv.uv x.id ++ tf b 1 x.t ++ tf b 2 x.k ++ tf b 4 x.v ++ nf b 8 x.o ++ nf b 16 x.n ++ nf b 32 x.p ++ nf b 64 x.s := by rw [hbs, hb]; rfl
  have e1 : ((⟨bs, 0, 0, 0⟩ : Rs).take 1) = ([81], ⟨bs, 1, 0, 0⟩) := by
    have := take_fw (bs := bs) (pre := []) (b := [81]) (post := [x.op.toNat] ++ Uv.uv x.id ++ tf b 1 x.t ++ tf b 2 x.k ++ tf b 4 x.v ++ nf b 8 x.o ++ nf b 16 x.n ++ nf b 32 x.p ++ nf b 64 x.s) (n := 1) (by rw [e]; simp only [List.append_assoc]; rfl) rfl
    simpa using this
  have e2 : ((⟨bs, 1, 0, 0⟩ : Rs).take 1) = ([x.op.toNat], ⟨bs, ([81, x.op.toNat] : List Nat).length, 0, 0⟩) := by
    have := take_fw (bs := bs) (pre := [81]) (b := [x.op.toNat]) (post := Uv.uv x.id ++ tf b 1 x.t ++ tf b 2 x.k ++ tf b 4 x.v ++ nf b 8 x.o ++ nf b 16 x.n ++ nf b 32 x.p ++ nf b 64 x.s) (n := 1) (by rw [e]; simp only [List.append_assoc]; rfl) rfl
    simpa using this
  have p1 := q32_fw (bs := bs) (pre := [81, x.op.toNat]) (v := x.id) (post := tf b 1 x.t ++ tf b 2 x.k ++ tf b 4 x.v ++ nf b 8 x.o ++ nf b 16 x.n ++ nf b 32 x.p ++ nf b 64 x.s) (by rw [e]; simp only [List.append_assoc]) hk.id
  have p1' := num_fw (bs := bs) (pre := [81, x.op.toNat]) (v := x.id) (post := tf b 1 x.t ++ tf b 2 x.k ++ tf b 4 x.v ++ nf b 8 x.o ++ nf b 16 x.n ++ nf b 32 x.p ++ nf b 64 x.s) (by rw [e]; simp only [List.append_assoc]) (by have := hk.id; omega)
  obtain ⟨t1, t2⟩ := tr_fw (bs := bs) (pre := [81, x.op.toNat] ++ Uv.uv x.id) (post := tf b 2 x.k ++ tf b 4 x.v ++ nf b 8 x.o ++ nf b 16 x.n ++ nf b 32 x.p ++ nf b 64 x.s) (most := 24) (b := b) (m := 1) (s := x.t) (by rw [e]; simp only [List.append_assoc]) (by rw [hb]; exact hm.t) (by omega) (M := 24) rfl
  obtain ⟨k1, k2⟩ := tr_fw (bs := bs) (pre := [81, x.op.toNat] ++ Uv.uv x.id ++ tf b 1 x.t) (post := tf b 4 x.v ++ nf b 8 x.o ++ nf b 16 x.n ++ nf b 32 x.p ++ nf b 64 x.s) (most := 64) (b := b) (m := 2) (s := x.k) (by rw [e]; simp only [List.append_assoc]) (by rw [hb]; exact hm.k) (by omega) (M := 64) rfl
  obtain ⟨v1, v2⟩ := tr_fw (bs := bs) (pre := [81, x.op.toNat] ++ Uv.uv x.id ++ tf b 1 x.t ++ tf b 2 x.k) (post := nf b 8 x.o ++ nf b 16 x.n ++ nf b 32 x.p ++ nf b 64 x.s) (most := 1024) (b := b) (m := 4) (s := x.v) (by rw [e]; simp only [List.append_assoc]) (by rw [hb]; exact hm.v) (by omega) (M := 1024) rfl
  obtain ⟨o1, o2⟩ := nr_fw (bs := bs) (pre := [81, x.op.toNat] ++ Uv.uv x.id ++ tf b 1 x.t ++ tf b 2 x.k ++ tf b 4 x.v) (post := nf b 16 x.n ++ nf b 32 x.p ++ nf b 64 x.s) (b := b) (m := 8) (n := x.o) (by rw [e]; simp only [List.append_assoc]) (by rw [hb]; exact hm.o) hk.o
  obtain ⟨n1, n2⟩ := nr_fw (bs := bs) (pre := [81, x.op.toNat] ++ Uv.uv x.id ++ tf b 1 x.t ++ tf b 2 x.k ++ tf b 4 x.v ++ nf b 8 x.o) (post := nf b 32 x.p ++ nf b 64 x.s) (b := b) (m := 16) (n := x.n) (by rw [e]; simp only [List.append_assoc]) (by rw [hb]; exact hm.n) hk.n
  obtain ⟨q1, q2⟩ := nr_fw (bs := bs) (pre := [81, x.op.toNat] ++ Uv.uv x.id ++ tf b 1 x.t ++ tf b 2 x.k ++ tf b 4 x.v ++ nf b 8 x.o ++ nf b 16 x.n) (post := nf b 64 x.s) (b := b) (m := 32) (n := x.p) (by rw [e]; simp only [List.append_assoc]) (by rw [hb]; exact hm.p) hk.p
  obtain ⟨s1, s2⟩ := nr_fw (bs := bs) (pre := [81, x.op.toNat] ++ Uv.uv x.id ++ tf b 1 x.t ++ tf b 2 x.k ++ tf b 4 x.v ++ nf b 8 x.o ++ nf b 16 x.n ++ nf b 32 x.p) (post := []) (b := b) (m := 64) (n := x.s) (by rw [e]; simp only [List.append_assoc, List.append_nil]) (by rw [hb]; exact hm.s) hk.s
  rw [← e] at s1 s2
  have eo : ((x.op.toNat : Nat) : Int) = x.op := by omega
  have r1 : prq2 b x.op ⟨bs, ([81, x.op.toNat] : List Nat).length, 0, 0⟩ = (x, ⟨bs, bs.length, 0, 0⟩) := by
    unfold prq2
    simp only [p1, t1, t2, k1, k2, v1, v2, o1, n1, q1, s1]
  have r2 : rrq2 b x.op ⟨bs, ([81, x.op.toNat] : List Nat).length, 0, 0⟩ = x := by
    have hid : x.id % 4294967296 = x.id := Nat.mod_eq_of_lt hk.id
    unfold rrq2
    simp only [p1', t1, t2, k1, k2, v1, v2, o2, n2, q2, s2, hid]
  rw [← hbs]
  refine ⟨?_, ?_⟩
  · unfold prq prq1
    rw [e1]
    simp only [e2, List.headD_cons, eo, ← hb, r1, fin_all, okq_may.2 hm]
    rw [if_neg (by omega)]
    simp
  · unfold rrq
    rw [e1]
    simp only [e2, List.headD_cons, eo, ← hb, r2]
/-- Back. -/
theorem At.textm {bs pre : List Nat} {s : Rs} {most : Int} (h : At bs s pre) (he : (s.text most).2.err = 0) : At bs (s.text most).2 (pre ++ (Uv.uv (s.text most).1.length ++ (s.text most).1)) := by
  have hn := text_err h.ok he
  have ha := h.num hn
  by_cases hm : max most 0 < (s.num.1 : Int)
  · rw [Rs.text_long h.ok most hn hm, Rs.failAt_yes _ hn (by decide)] at he
    simp at he
  · by_cases hr : s.num.2.rest < s.num.1
    · rw [Rs.text_short h.ok most hn (by omega) hr, Rs.failAt_yes _ hn (by decide)] at he
      simp at he
    · have hy := Rs.text_yes h.ok most hn (by omega) (by omega)
      have hok := (h.ok.text most).1
      rw [hy] at hok ⊢
      have hl : ((s.bs.drop s.num.2.p).take s.num.1).length = s.num.1 := by
        unfold Rs.rest at hr
        have := ha.same
        rw [List.length_take, List.length_drop]
        rw [this] at hr
        rw [h.same]
        omega
      refine ⟨hok, hn, ha.same, ?_⟩
      rw [hl]
      simp only [Rs.go]
      rw [take_join, ha.pre, h.same, List.append_assoc]
theorem q63_back {s : Rs} (hok : s.Ok) (he : (q63 s).2.err = 0) : s.num.2.err = 0 ∧ s.num.1 < 9223372036854775808 ∧ (q63 s).2 = s.num.2 ∧ (q63 s).1 = (s.num.1 : Int) := by
  unfold q63 at he ⊢
  simp only at he ⊢
  by_cases h : 9223372036854775808 ≤ s.num.1
  · rw [if_pos h] at he
    by_cases h0 : s.num.2.err = 0
    · rw [Rs.fail, Rs.failAt_yes _ h0 (by decide)] at he
      simp at he
    · rw [Rs.fail, Rs.failAt_bad _ h0] at he
      exact absurd he h0
  · rw [if_neg h] at he ⊢
    exact ⟨he, by omega, rfl, sg_small (by omega)⟩
theorem q32_back {s : Rs} (hok : s.Ok) (he : (q32 s).2.err = 0) : s.num.2.err = 0 ∧ s.num.1 < 4294967296 ∧ (q32 s).2 = s.num.2 ∧ (q32 s).1 = s.num.1 := by
  unfold q32 at he ⊢
  simp only at he ⊢
  by_cases h : 4294967296 ≤ s.num.1
  · rw [if_pos h] at he
    by_cases h0 : s.num.2.err = 0
    · rw [Rs.fail, Rs.failAt_yes _ h0 (by decide)] at he
      simp at he
    · rw [Rs.fail, Rs.failAt_bad _ h0] at he
      exact absurd he h0
  · rw [if_neg h] at he ⊢
    exact ⟨he, by omega, rfl, Nat.mod_eq_of_lt (by omega)⟩
theorem q63_ok {s : Rs} (hok : s.Ok) : (q63 s).2.Ok := by
  unfold q63
  simp only
  split
  · exact hok.num.1.fail (by omega)
  · exact hok.num.1
theorem q32_ok {s : Rs} (hok : s.Ok) : (q32 s).2.Ok := by
  unfold q32
  simp only
  split
  · exact hok.num.1.fail (by omega)
  · exact hok.num.1
theorem nr_ok {b m : Nat} {s : Rs} (hok : s.Ok) : (nr b m s).2.Ok := by
  unfold nr; split
  · exact q63_ok hok
  · exact hok
theorem nrr_ok {b m : Nat} {s : Rs} (hok : s.Ok) : (nrr b m s).2.Ok := by
  unfold nrr; split
  · exact hok.num.1
  · exact hok
theorem tr_ok {b m : Nat} {most : Int} {s : Rs} (hok : s.Ok) : (tr b m most s).2.Ok ∧ By (tr b m most s).1 := by
  unfold tr; split
  · exact hok.text most
  · exact ⟨hok, fun b hb => by cases hb⟩
theorem nr_err {b m : Nat} {s : Rs} (hok : s.Ok) (he : (nr b m s).2.err = 0) : s.err = 0 := by
  unfold nr at he
  split at he
  · exact Rs.num_ok hok (q63_back hok he).1
  · exact he
theorem tr_err {b m : Nat} {most : Int} {s : Rs} (hok : s.Ok) (he : (tr b m most s).2.err = 0) : s.err = 0 := by
  unfold tr at he
  split at he
  · exact Rs.num_ok hok (text_err hok he)
  · exact he
theorem At.tr {bs pre : List Nat} {s : Rs} {b m : Nat} {most : Int} (h : At bs s pre) (he : (Go.Proofs.YtljfmcgeiceagaaDoor.tr b m most s).2.err = 0) : At bs (Go.Proofs.YtljfmcgeiceagaaDoor.tr b m most s).2 (pre ++ tf b m (strOf (Go.Proofs.YtljfmcgeiceagaaDoor.tr b m most s).1)) := by
  by_cases hb : hasb b m = true
  · rw [tr_yes hb] at he ⊢
    have := h.textm he
    rw [tf_yes hb, strOf_size, sb_strOf (h.ok.text most).2]
    exact this
  · rw [tr_no hb, tf_no hb, List.append_nil]
    exact h
theorem At.nr {bs pre : List Nat} {s : Rs} {b m : Nat} (h : At bs s pre) (he : (Go.Proofs.YtljfmcgeiceagaaDoor.nr b m s).2.err = 0) : At bs (Go.Proofs.YtljfmcgeiceagaaDoor.nr b m s).2 (pre ++ nf b m (Go.Proofs.YtljfmcgeiceagaaDoor.nr b m s).1) := by
  by_cases hb : hasb b m = true
  · rw [nr_yes hb] at he ⊢
    obtain ⟨h1, h2, h3, h4⟩ := q63_back h.ok he
    rw [nf_yes hb, h3, h4, Int.toNat_natCast]
    exact h.num h1
  · rw [nr_no hb, nf_no hb, List.append_nil]
    exact h
theorem sg_r64 {n : Nat} (h : n < 18446744073709551616) : r64 (sg n) := by
  unfold sg r64
  split <;> omega
theorem nr_r64 {b m : Nat} {s : Rs} (hok : s.Ok) : r64 (nr b m s).1 := by
  unfold nr; split
  · exact sg_r64 hok.num.2.1
  · unfold r64; simp
theorem nrr_r64 {b m : Nat} {s : Rs} (hok : s.Ok) : r64 (nrr b m s).1 := by
  unfold nrr; split
  · exact sg_r64 hok.num.2.1
  · unfold r64; simp
theorem MayQ.ok {x : Rq} (h : MayQ x) (hid : x.id < 4294967296) (ho : r64 x.o) (hn : r64 x.n) (hp : r64 x.p) (hs : r64 x.s) : x.Ok :=
  ⟨hid, by have := h.op; unfold r64; omega, by have := (gdT_le h.t).1; omega, by have := (gdT_le h.k).1; omega, by have := (gdT_le h.v).1; omega, ho, hn, hp, hs⟩
theorem prq_back {bs : List Nat} {x : Rq} (hby : By bs) (hl : bs.length ≤ 140737488351232) (h : prq bs = some x) : MayQ x ∧ bdyq x = bs ∧ x.Ok := by
  have hok0 : (⟨bs, 0, 0, 0⟩ : Rs).Ok := ⟨by simp, hby, by simp only; omega, fun _ => rfl, fun h => absurd rfl h, by simp, by simp⟩
  have at0 : At bs ⟨bs, 0, 0, 0⟩ [] := ⟨hok0, rfl, rfl, by simp⟩
  unfold prq prq1 at h
  obtain ⟨f, hf⟩ : ∃ f, f = ((⟨bs, 0, 0, 0⟩ : Rs).take 1).1.headD 0 := ⟨_, rfl⟩
  obtain ⟨y, hy⟩ : ∃ y, y = ((⟨bs, 0, 0, 0⟩ : Rs).take 1).2 := ⟨_, rfl⟩
  rw [← hf, ← hy] at h
  have oky : y.Ok := by rw [hy]; exact hok0.take 1
  obtain ⟨op, hop⟩ : ∃ f, f = (y.take 1).1.headD 0 := ⟨_, rfl⟩
  obtain ⟨z, hz⟩ : ∃ z, z = (y.take 1).2 := ⟨_, rfl⟩
  rw [← hop, ← hz] at h
  have okz : z.Ok := by rw [hz]; exact oky.take 1
  by_cases hc : f ≠ 81 ∨ ¬ (1 ≤ op ∧ op < 16)
  · rw [if_pos hc] at h; cases h
  rw [if_neg hc] at h
  have hf81 : f = 81 := by omega
  by_cases hc2 : (prq2 (useB op) (op : Int) z).2.fin.1 ≠ 0 ∨ okq (prq2 (useB op) (op : Int) z).1 = false
  · rw [if_pos hc2] at h; cases h
  rw [if_neg hc2] at h
  injection h with hx
  have hfin : (prq2 (useB op) (op : Int) z).2.fin.1 = 0 := Classical.byContradiction fun e => hc2 (.inl e)
  have hmay : okq (prq2 (useB op) (op : Int) z).1 = true := by
    cases hq : okq (prq2 (useB op) (op : Int) z).1
    · exact absurd (.inr hq) hc2
    · rfl
  rw [hx] at hmay
  unfold prq2 at hx hfin
  simp only at hx hfin
  obtain ⟨b, hb⟩ : ∃ b, b = useB op := ⟨_, rfl⟩
  rw [← hb] at hx hfin
  obtain ⟨i, hi⟩ : ∃ i, i = q32 z := ⟨_, rfl⟩
  rw [← hi] at hx hfin
  have oki : i.2.Ok := by rw [hi]; exact q32_ok okz
  obtain ⟨t, ht⟩ : ∃ r, r = tr b 1 24 i.2 := ⟨_, rfl⟩
  rw [← ht] at hx hfin
  have okt : t.2.Ok := by rw [ht]; exact (tr_ok oki).1
  obtain ⟨k, hk⟩ : ∃ r, r = tr b 2 64 t.2 := ⟨_, rfl⟩
  rw [← hk] at hx hfin
  have okk : k.2.Ok := by rw [hk]; exact (tr_ok okt).1
  obtain ⟨v, hv⟩ : ∃ r, r = tr b 4 1024 k.2 := ⟨_, rfl⟩
  rw [← hv] at hx hfin
  have okv : v.2.Ok := by rw [hv]; exact (tr_ok okk).1
  obtain ⟨o, ho⟩ : ∃ r, r = nr b 8 v.2 := ⟨_, rfl⟩
  rw [← ho] at hx hfin
  have oko : o.2.Ok := by rw [ho]; exact nr_ok okv
  obtain ⟨n, hn⟩ : ∃ r, r = nr b 16 o.2 := ⟨_, rfl⟩
  rw [← hn] at hx hfin
  have okn : n.2.Ok := by rw [hn]; exact nr_ok oko
  obtain ⟨p, hp⟩ : ∃ r, r = nr b 32 n.2 := ⟨_, rfl⟩
  rw [← hp] at hx hfin
  have okp : p.2.Ok := by rw [hp]; exact nr_ok okn
  obtain ⟨s, hs⟩ : ∃ r, r = nr b 64 p.2 := ⟨_, rfl⟩
  rw [← hs] at hx hfin
  obtain ⟨es, hsp⟩ := fin_zero hfin
  have ep : p.2.err = 0 := nr_err okp (by rw [← hs]; exact es)
  have en : n.2.err = 0 := nr_err okn (by rw [← hp]; exact ep)
  have eo : o.2.err = 0 := nr_err oko (by rw [← hn]; exact en)
  have ev : v.2.err = 0 := nr_err okv (by rw [← ho]; exact eo)
  have ek : k.2.err = 0 := tr_err okk (by rw [← hv]; exact ev)
  have et : t.2.err = 0 := tr_err okt (by rw [← hk]; exact ek)
  have ei : i.2.err = 0 := tr_err oki (by rw [← ht]; exact et)
  obtain ⟨i1, i2, i3, i4⟩ := q32_back okz (by rw [← hi]; exact ei)
  rw [← hi] at i3 i4
  have ez : z.err = 0 := Rs.num_ok okz i1
  have ey : y.err = 0 := take_err (by rw [← hz]; exact ez)
  obtain ⟨aty, ly⟩ := at0.take (n := 1) (by have := ey; rw [hy] at this; exact this)
  have hy1 := headD_one ly
  have aty2 : At bs y [81] := by
    rw [← hf81, hf, hy]
    have := aty
    rw [hy1] at this
    exact this
  obtain ⟨atz, lz⟩ := aty2.take (n := 1) (by have := ez; rw [hz] at this; exact this)
  have hz1 := headD_one lz
  have atz2 : At bs z [81, op] := by
    rw [hop, hz]
    have := atz
    rw [hz1] at this
    exact this
  have ati := atz2.num i1
  rw [← i3, ← i4] at ati
  have att := ati.tr (b := b) (m := 1) (most := 24) (by rw [← ht]; exact et)
  rw [← ht] at att
  have atk := att.tr (b := b) (m := 2) (most := 64) (by rw [← hk]; exact ek)
  rw [← hk] at atk
  have atv := atk.tr (b := b) (m := 4) (most := 1024) (by rw [← hv]; exact ev)
  rw [← hv] at atv
  have ato := atv.nr (b := b) (m := 8) (by rw [← ho]; exact eo)
  rw [← ho] at ato
  have atn := ato.nr (b := b) (m := 16) (by rw [← hn]; exact en)
  rw [← hn] at atn
  have atp := atn.nr (b := b) (m := 32) (by rw [← hp]; exact ep)
  rw [← hp] at atp
  have ats := atp.nr (b := b) (m := 64) (by rw [← hs]; exact es)
  rw [← hs] at ats
  have hall := ats.pre
  rw [ats.same] at hsp
  rw [List.take_of_length_le hsp] at hall
  refine ⟨okq_may.1 hmay, ?_, (okq_may.1 hmay).ok (by rw [← hx]; simp only; rw [i4]; exact i2) (by rw [← hx, ho]; exact nr_r64 okv) (by rw [← hx, hn]; exact nr_r64 oko) (by rw [← hx, hp]; exact nr_r64 okn) (by rw [← hx, hs]; exact nr_r64 okp)⟩
  rw [hall, ← hx]
  unfold bdyq
  simp only [Int.toNat_natCast, ← hb]
/-- A frame's body tells the frame. -/
theorem bd_wrapped {b : List Nat} (hb : By b) (h : (bd b).2 = 0) : b = wrap 197 (bd b).1 ∧ 9 < b.length ∧ (bd b).1 = b.drop 9 := by
  by_cases hl : 9 < b.length
  · rw [bd_frame hb hl] at h ⊢
    by_cases hf : frm (b.drop 9) = (b, 0)
    · rw [if_pos hf]
      refine ⟨?_, hl, rfl⟩
      unfold frm at hf
      split at hf
      · injection hf with _ e; cases e
      · split at hf
        · injection hf with _ e; cases e
        · injection hf with e _; exact e.symm
    · rw [if_neg hf] at h
      cases h
  · rw [bd_short (by omega)] at h
    cases h
def rdecq (b : List Nat) : Rq × Int := if (bd b).2 ≠ 0 then (rq0, 160) else if okq (rrq (bd b).1) = true ∧ wrap 197 (bdyq (rrq (bd b).1)) = b then (rrq (bd b).1, 0) else (rq0, 161)
theorem wrap_inj {x y : List Nat} (h : wrap 197 x = wrap 197 y) : x = y := by
  have h1 := (wrap_parts 197 x).2.2.2
  have h2 := (wrap_parts 197 y).2.2.2
  rw [← h1, h, h2]
theorem rrq_r64 {bs : List Nat} (hby : By bs) (hl : bs.length ≤ 140737488351232) : (rrq bs).id < 4294967296 ∧ r64 (rrq bs).o ∧ r64 (rrq bs).n ∧ r64 (rrq bs).p ∧ r64 (rrq bs).s := by
  have hok0 : (⟨bs, 0, 0, 0⟩ : Rs).Ok := ⟨by simp, hby, by simp only; omega, fun _ => rfl, fun h => absurd rfl h, by simp, by simp⟩
  unfold rrq
  obtain ⟨b, hb⟩ : ∃ b, b = useB ((((⟨bs, 0, 0, 0⟩ : Rs).take 1).2.take 1).1.headD 0) := ⟨_, rfl⟩
  rw [← hb]
  have okz := (hok0.take 1).take 1
  obtain ⟨z, hz⟩ : ∃ z, z = (((⟨bs, 0, 0, 0⟩ : Rs).take 1).2.take 1).2 := ⟨_, rfl⟩
  rw [← hz] at okz ⊢
  unfold rrq2
  simp only
  have o1 := okz.num.1
  have o2 := (tr_ok (b := b) (m := 1) (most := 24) o1).1
  have o3 := (tr_ok (b := b) (m := 2) (most := 64) o2).1
  have o4 := (tr_ok (b := b) (m := 4) (most := 1024) o3).1
  have o5 := nrr_ok (b := b) (m := 8) o4
  have o6 := nrr_ok (b := b) (m := 16) o5
  have o7 := nrr_ok (b := b) (m := 32) o6
  exact ⟨Nat.mod_lt _ (by omega), nrr_r64 o4, nrr_r64 o5, nrr_r64 o6, nrr_r64 o7⟩
theorem decq_eq {b : List Nat} (hb : By b) (hl : b.length ≤ 140737488351232) : rdecq b = decq b := by
  unfold rdecq decq
  by_cases h : (bd b).2 ≠ 0
  · rw [if_pos h, if_pos h]
  · rw [if_neg h, if_neg h]
    obtain ⟨hw, h9, hd⟩ := bd_wrapped hb (by simpa using h)
    have hby : By (bd b).1 := by rw [hd]; exact by_drop hb 9
    have hbl : (bd b).1.length ≤ 140737488351232 := by rw [hd, List.length_drop]; omega
    obtain ⟨body, hbody⟩ : ∃ x, x = (bd b).1 := ⟨_, rfl⟩
    rw [← hbody] at hw hby hbl ⊢
    cases hp : prq body with
    | some x =>
      obtain ⟨hm, he, hok⟩ := prq_back hby hbl hp
      have hr := (prq_fw hm hok).2
      rw [he] at hr
      simp only [outq]
      rw [hr, if_pos ⟨okq_may.2 hm, by rw [he]; exact hw.symm⟩]
    | none =>
      simp only [outq]
      rw [if_neg]
      rintro ⟨h1, h2⟩
      have hm := okq_may.1 h1
      obtain ⟨r1, r2, r3, r4, r5⟩ := rrq_r64 hby hbl
      have hf := (prq_fw hm (hm.ok r1 r2 r3 r4 r5)).1
      have he : bdyq (rrq body) = body := wrap_inj (by rw [h2]; exact hw)
      rw [he, hp] at hf
      cases hf
end Go.Proofs.YtljfmcgeiceagaaDoor

/- The table of what an operation uses, as it lies. -/
namespace Go.Proofs.YtljfmcgeiceagaaDoor
open Go Go.RowKit Go.ChangeShapes Go.WideShapes Go.ChangeAt
set_option linter.unusedVariables false

/-- The table lies in block 0. -/
structure Tab (W : World) : Prop where
  lt : 0 < W.heap.size
  c : ∀ k, k < 16 → W.cell? ⟨0, k, none⟩ = some (.int .i64 ((useB k : Nat) : Int))
theorem Tab.below {W W' : World} {B : Nat} (h : Tab W) (hb : Below B W W') (hB : 0 < B) : Tab W' :=
  ⟨Nat.lt_of_lt_of_le h.lt hb.size, fun k hk => (hb.cell (p := ⟨0, k, none⟩) hB).trans (h.c k hk)⟩
theorem Tab.bel {W W' : World} (h : Tab W) (hb : Below W.heap.size W W') : Tab W' := h.below hb h.lt
theorem gUses : Tryd.prog.globalNamed "chronicle/wire.uses" = some 0 := by kernel_rfl
theorem gUsesType : (Tryd.prog.globals[0]?).map (·.type) = some 55 := by kernel_rfl
theorem cellsU : Tryd.prog.cellsOf 55 = 16 := by kernel_rfl
theorem cellsU1 : Tryd.prog.cellsOf 54 = 1 := by kernel_rfl
theorem tab_of {W : World} (h : laidMetH Tryd.prog [("chronicle/wire.uses", Rows.laid_chronicle_wire_uses)] W) : Tab W := by
  rw [MakeChecks.laidMetH_plain _ _ _ (by kernel_rfl)] at h
  obtain ⟨ps, ⟨g0, t0, cs0, f0, p0, q0, hg0, ht0, hv0, hd0, _⟩, _, _⟩ := h
  obtain rfl := Option.some.inj (gUses.symm.trans hg0)
  obtain rfl := Option.some.inj (gUsesType.symm.trans ht0)
  obtain ⟨xs, m1, rfl, hx1, hlen, hn3, hel⟩ := DataW.trod_array Tryd.underlying55 hd0
  rw [cellsU1] at hel
  have hxs : xs.map (·.1) = (List.range 16).map fun k => (DataW.agg [DataW.lit (.int .i64 ((useB k : Nat) : Int))] : DataW Unit) := by
    have := congrArg Prod.fst hx1
    simp only [Rows.laid_chronicle_wire_uses, DataW.agg.injEq] at this
    rw [← this]
    rfl
  have hc : ∀ k, k < 16 → W.cell? ⟨0, k, none⟩ = some (.int .i64 ((useB k : Nat) : Int)) := by
    intro k hk
    have h1 := hel k hk
    have h2 := congrArg (fun l => l[k]?) hxs
    simp only [List.getElem?_map, List.getElem?_range hk, Option.map_some] at h2
    obtain ⟨y, hy, hy1⟩ := Option.map_eq_some_iff.1 h2
    rw [hy, Nat.mul_one] at h1
    obtain ⟨y0, n, e1, hl1, e2⟩ := trod_struct1 Tryd.underlying54 h1
    rw [e1] at hy1
    simp only [DataW.agg.injEq, List.cons.injEq, and_true] at hy1
    obtain ⟨z, c1, c2, _⟩ := DataW.trod_int Tryd.underlying3 e2
    rw [c2] at hy1
    simp only [DataW.lit.injEq, Lit.int.injEq, true_and] at hy1
    subst hy1
    have h5 : Tryd.prog.cellsOf 3 = 1 := by kernel_rfl
    simp only [h5, List.drop_zero] at c1
    have h6 : (List.drop k cs0.toList)[0]? = some (Value.int .i64 ((useB k : Nat) : Int)) := by
      have := congrArg (fun l => l[0]?) c1
      simpa [List.getElem?_take] using this
    rw [World.var?_cell hg0 hv0 k]
    simpa using h6
  exact ⟨World.block_lt_of_cell? W _ (hc 0 (by omega)), hc⟩
end Go.Proofs.YtljfmcgeiceagaaDoor

/- wire.CheckRequest (printed by gen_rqchk.py). -/
namespace Go.Proofs.YtljfmcgeiceagaaDoor
open Go Go.RowKit
set_option linter.unusedVariables false
set_option linter.unusedSimpArgs false

theorem bitsq_ne {op : Nat} (h : op < 16) : (bits .and .i64 ((useB op : Nat) : Int) 1 != 0) = hasb (useB op) 1 ∧ (bits .and .i64 ((useB op : Nat) : Int) 2 != 0) = hasb (useB op) 2 ∧ (bits .and .i64 ((useB op : Nat) : Int) 4 != 0) = hasb (useB op) 4 ∧ (bits .and .i64 ((useB op : Nat) : Int) 8 != 0) = hasb (useB op) 8 ∧ (bits .and .i64 ((useB op : Nat) : Int) 16 != 0) = hasb (useB op) 16 ∧ (bits .and .i64 ((useB op : Nat) : Int) 32 != 0) = hasb (useB op) 32 ∧ (bits .and .i64 ((useB op : Nat) : Int) 64 != 0) = hasb (useB op) 64 :=
  (by decide +kernel : ∀ x : Fin 16, (bits .and .i64 ((useB x.val : Nat) : Int) 1 != 0) = hasb (useB x.val) 1 ∧ (bits .and .i64 ((useB x.val : Nat) : Int) 2 != 0) = hasb (useB x.val) 2 ∧ (bits .and .i64 ((useB x.val : Nat) : Int) 4 != 0) = hasb (useB x.val) 4 ∧ (bits .and .i64 ((useB x.val : Nat) : Int) 8 != 0) = hasb (useB x.val) 8 ∧ (bits .and .i64 ((useB x.val : Nat) : Int) 16 != 0) = hasb (useB x.val) 16 ∧ (bits .and .i64 ((useB x.val : Nat) : Int) 32 != 0) = hasb (useB x.val) 32 ∧ (bits .and .i64 ((useB x.val : Nat) : Int) 64 != 0) = hasb (useB x.val) 64) ⟨op, h⟩
theorem bitsq_eq {op : Nat} (h : op < 16) : (bits .and .i64 ((useB op : Nat) : Int) 1 == 0) = !hasb (useB op) 1 ∧ (bits .and .i64 ((useB op : Nat) : Int) 2 == 0) = !hasb (useB op) 2 ∧ (bits .and .i64 ((useB op : Nat) : Int) 4 == 0) = !hasb (useB op) 4 ∧ (bits .and .i64 ((useB op : Nat) : Int) 8 == 0) = !hasb (useB op) 8 ∧ (bits .and .i64 ((useB op : Nat) : Int) 16 == 0) = !hasb (useB op) 16 ∧ (bits .and .i64 ((useB op : Nat) : Int) 32 == 0) = !hasb (useB op) 32 ∧ (bits .and .i64 ((useB op : Nat) : Int) 64 == 0) = !hasb (useB op) 64 :=
  (by decide +kernel : ∀ x : Fin 16, (bits .and .i64 ((useB x.val : Nat) : Int) 1 == 0) = !hasb (useB x.val) 1 ∧ (bits .and .i64 ((useB x.val : Nat) : Int) 2 == 0) = !hasb (useB x.val) 2 ∧ (bits .and .i64 ((useB x.val : Nat) : Int) 4 == 0) = !hasb (useB x.val) 4 ∧ (bits .and .i64 ((useB x.val : Nat) : Int) 8 == 0) = !hasb (useB x.val) 8 ∧ (bits .and .i64 ((useB x.val : Nat) : Int) 16 == 0) = !hasb (useB x.val) 16 ∧ (bits .and .i64 ((useB x.val : Nat) : Int) 32 == 0) = !hasb (useB x.val) 32 ∧ (bits .and .i64 ((useB x.val : Nat) : Int) 64 == 0) = !hasb (useB x.val) 64) ⟨op, h⟩
set_option maxRecDepth 100000 in
theorem isOp_is (op : Int) (w : World) : Calls Tryd.prog 41 #[.int .i64 op] w fun e w' => e = .returned (.bool (decide (1 ≤ op ∧ op < 16))) ∧ w = w' := by
  by_cases h1 : 1 ≤ op
  · by_cases h2 : op < 16
    · rw [decide_eq_true (show 1 ≤ op ∧ op < 16 from ⟨h1, h2⟩)]
      have d1 : decide ((1 : Int) ≤ op) = true := decide_eq_true h1
      have d2 : decide (op < 16) = true := decide_eq_true h2
      go_enter Tryd.func41, Tryd.ntmps41
      go_wp2
      go_ret
      exact ⟨rfl, rfl⟩
    · rw [decide_eq_false (show ¬ (1 ≤ op ∧ op < 16) from fun h => h2 h.2)]
      have d1 : decide ((1 : Int) ≤ op) = true := decide_eq_true h1
      have d2 : decide (op < 16) = false := decide_eq_false h2
      go_enter Tryd.func41, Tryd.ntmps41
      go_wp2
      go_ret
      exact ⟨rfl, rfl⟩
  · rw [decide_eq_false (show ¬ (1 ≤ op ∧ op < 16) from fun h => h1 h.1)]
    have d1 : decide ((1 : Int) ≤ op) = false := decide_eq_false h1
    go_enter Tryd.func41, Tryd.ntmps41
    go_wp2
    go_ret
    exact ⟨rfl, rfl⟩
/-- A request in block g. -/
def QBox (W : World) (g : Nat) (x : Rq) : Prop := W.heap[g]? = some (.cells #[.int .u32 (x.id : Int), .int .i64 x.op, .string x.t, .string x.k, .string x.v, .int .i64 x.o, .int .i64 x.n, .int .i64 x.p, .int .i64 x.s] 24 (0, 0))
theorem QBox.below {W W' : World} {g B : Nat} {x : Rq} (h : QBox W g x) (hb : Below B W W') (hg : g < B) : QBox W' g x := (hb.block g hg).trans h
theorem QBox.lt {W : World} {g : Nat} {x : Rq} (h : QBox W g x) : g < W.heap.size := lt_of_block h
theorem QBox.facts {W : World} {g : Nat} {x : Rq} (h : QBox W g x) : W.cell? ⟨g, 0, none⟩ = some (.int .u32 (x.id : Int)) ∧ W.cell? ⟨g, 1, none⟩ = some (.int .i64 x.op) ∧ W.cell? ⟨g, 2, none⟩ = some (.string x.t) ∧ W.cell? ⟨g, 3, none⟩ = some (.string x.k) ∧ W.cell? ⟨g, 4, none⟩ = some (.string x.v) ∧ W.cell? ⟨g, 5, none⟩ = some (.int .i64 x.o) ∧ W.cell? ⟨g, 6, none⟩ = some (.int .i64 x.n) ∧ W.cell? ⟨g, 7, none⟩ = some (.int .i64 x.p) ∧ W.cell? ⟨g, 8, none⟩ = some (.int .i64 x.s) := by
  unfold QBox at h
  refine ⟨?_, ?_, ?_, ?_, ?_, ?_, ?_, ?_, ?_⟩ <;> simp [World.cell?, h]
theorem QBox.free {W : World} {g : Nat} {x : Rq} (h : QBox W g x) : W.frozen? ⟨g, 0, none⟩ = false ∧ W.frozen? ⟨g, 1, none⟩ = false ∧ W.frozen? ⟨g, 2, none⟩ = false ∧ W.frozen? ⟨g, 3, none⟩ = false ∧ W.frozen? ⟨g, 4, none⟩ = false ∧ W.frozen? ⟨g, 5, none⟩ = false ∧ W.frozen? ⟨g, 6, none⟩ = false ∧ W.frozen? ⟨g, 7, none⟩ = false ∧ W.frozen? ⟨g, 8, none⟩ = false := by
  unfold QBox at h
  refine ⟨?_, ?_, ?_, ?_, ?_, ?_, ?_, ?_, ?_⟩ <;> simp [World.frozen?, h]
/-- A row of cells in block g. -/
def RowA (W : World) (g : Nat) (cs : Array Value) (T : TypeId) : Prop := W.heap[g]? = some (.cells cs T (0, 0))
theorem RowA.below {W W' : World} {g B : Nat} {cs : Array Value} {T : TypeId} (h : RowA W g cs T) (hb : Below B W W') (hg : g < B) : RowA W' g cs T := (hb.block g hg).trans h
theorem RowA.cell {W : World} {g : Nat} {cs : Array Value} {T : TypeId} (h : RowA W g cs T) (k : Nat) : W.cell? ⟨g, k, none⟩ = cs[k]? := by
  unfold RowA at h
  simp [World.cell?, h]
theorem gdT_bad {b m most : Nat} {s : ByteArray} (h : most < s.size ∨ (hasb b m = false ∧ s.size ≠ 0)) : gdT b m most s = false := by
  unfold gdT
  rcases h with h | ⟨h1, h2⟩
  · rw [decide_eq_false (by omega)]; rfl
  · rw [h1, decide_eq_false h2]; simp
theorem gdT_ok {b m most : Nat} {s : ByteArray} (h0 : s.size ≤ most) (h : hasb b m = true ∨ s.size = 0) : gdT b m most s = true := by
  unfold gdT
  rw [decide_eq_true h0]
  rcases h with h1 | h1
  · rw [h1]; rfl
  · rw [decide_eq_true h1]; simp
theorem gdN_bad {b m : Nat} {n : Int} (h : n < 0 ∨ (hasb b m = false ∧ n ≠ 0)) : gdN b m n = false := by
  unfold gdN
  rcases h with h | ⟨h1, h2⟩
  · rw [decide_eq_false (by omega)]; rfl
  · rw [h1, decide_eq_false h2]; simp
theorem gdN_ok {b m : Nat} {n : Int} (h0 : 0 ≤ n) (h : hasb b m = true ∨ n = 0) : gdN b m n = true := by
  unfold gdN
  rw [decide_eq_true h0]
  rcases h with h1 | h1
  · rw [h1]; rfl
  · rw [decide_eq_true h1]; simp
theorem chkq_no {x : Rq} (h : ¬ MayQ x) : chkq x = 161 := if_neg (fun e => h (okq_may.1 e))
theorem chkq_yes {x : Rq} (h : MayQ x) : chkq x = 0 := if_pos (okq_may.2 h)
set_option maxRecDepth 100000 in
theorem checkq_noOp (x : Rq) (w : World) (h : ¬ (1 ≤ x.op ∧ x.op < 16)) : Calls Tryd.prog 15 #[x.V] w fun e w' => e = .returned (.int .i64 (chkq x)) ∧ Below w.heap.size w w' := by
  rw [chkq_no (fun m => h m.op)]
  have PI := Lib.hid (fun W => isOp_is x.op W)
  rw [decide_eq_false h] at PI
  obtain ⟨id, op, t, k, v, o, n, p, s⟩ := x
  unfold Rq.V
  simp only at PI ⊢
  clear h
  go_enter Tryd.func15, Tryd.ntmps15
  go_wp2_with fail
  refine (PI.out _).mono ?_
  rintro e w1 ⟨rfl, rfl⟩
  go_wp2_with fail
  go_ret
  exact ⟨rfl, (Below.refl _ _).alloc (Nat.le_refl _) _⟩

set_option maxHeartbeats 4000000 in
set_option maxRecDepth 100000 in
theorem checkq_op (id op : Nat) (t k v : ByteArray) (o n p s : Int) (w : World) (ht : Tab w) (h1 : 1 ≤ op) (h16 : op < 16) : Calls Tryd.prog 15 #[.agg #[.int .u32 (id : Int), .int .i64 (op : Int), .string t, .string k, .string v, .int .i64 o, .int .i64 n, .int .i64 p, .int .i64 s]] w fun e w' => e = .returned (.int .i64 (chkq ⟨id, op, t, k, v, o, n, p, s⟩)) ∧ Below w.heap.size w w' := by
  have PI := Lib.hid (fun W => isOp_is (op : Int) W)
  rw [decide_eq_true (show 1 ≤ (op : Int) ∧ (op : Int) < 16 by omega)] at PI
  obtain ⟨F1, F2, F4, F8, F16, F32, F64⟩ := bitsq_eq h16
  have HT := Lib.hid ht
  have hcell := fun W (hb : Below w.heap.size w W) => (ht.bel hb).c op h16
  have i0 : (0 : Int) ≤ (op : Int) := by omega
  have i16 : (op : Int) < 16 := by omega
  have HOK : Hid (gdT (useB op) 1 24 t = true → gdT (useB op) 2 64 k = true → gdT (useB op) 4 1024 v = true → gdN (useB op) 8 o = true → gdN (useB op) 16 n = true → gdN (useB op) 32 p = true → gdN (useB op) 64 s = true → chkq ⟨id, op, t, k, v, o, n, p, s⟩ = 0) := Lib.hid (fun g1 g2 g3 g4 g5 g6 g7 => chkq_yes ⟨by simp only; omega, g1, g2, g3, g4, g5, g6, g7⟩)
  have HB1 : Hid (gdT (useB op) 1 24 t = false → chkq ⟨id, op, t, k, v, o, n, p, s⟩ = 161) := Lib.hid (fun g => chkq_no (fun q => by have := q.t; simp only [Int.toNat_natCast] at this; rw [g] at this; cases this))
  have HB2 : Hid (gdT (useB op) 2 64 k = false → chkq ⟨id, op, t, k, v, o, n, p, s⟩ = 161) := Lib.hid (fun g => chkq_no (fun q => by have := q.k; simp only [Int.toNat_natCast] at this; rw [g] at this; cases this))
  have HB4 : Hid (gdT (useB op) 4 1024 v = false → chkq ⟨id, op, t, k, v, o, n, p, s⟩ = 161) := Lib.hid (fun g => chkq_no (fun q => by have := q.v; simp only [Int.toNat_natCast] at this; rw [g] at this; cases this))
  have HB8 : Hid (gdN (useB op) 8 o = false → chkq ⟨id, op, t, k, v, o, n, p, s⟩ = 161) := Lib.hid (fun g => chkq_no (fun q => by have := q.o; simp only [Int.toNat_natCast] at this; rw [g] at this; cases this))
  have HB16 : Hid (gdN (useB op) 16 n = false → chkq ⟨id, op, t, k, v, o, n, p, s⟩ = 161) := Lib.hid (fun g => chkq_no (fun q => by have := q.n; simp only [Int.toNat_natCast] at this; rw [g] at this; cases this))
  have HB32 : Hid (gdN (useB op) 32 p = false → chkq ⟨id, op, t, k, v, o, n, p, s⟩ = 161) := Lib.hid (fun g => chkq_no (fun q => by have := q.p; simp only [Int.toNat_natCast] at this; rw [g] at this; cases this))
  have HB64 : Hid (gdN (useB op) 64 s = false → chkq ⟨id, op, t, k, v, o, n, p, s⟩ = 161) := Lib.hid (fun g => chkq_no (fun q => by have := q.s; simp only [Int.toNat_natCast] at this; rw [g] at this; cases this))
  obtain ⟨b, hbb⟩ : ∃ b, b = useB op := ⟨_, rfl⟩
  obtain ⟨Q, hQ⟩ : ∃ Q, Q = chkq ⟨id, op, t, k, v, o, n, p, s⟩ := ⟨_, rfl⟩
  rw [← hbb] at F1 F2 F4 F8 F16 F32 F64 HOK HB1 HB2 HB4 HB8 HB16 HB32 HB64
  rw [← hQ] at HOK HB1 HB2 HB4 HB8 HB16 HB32 HB64 ⊢
  have HC : Hid (∀ W, Below w.heap.size w W → W.cell? ⟨0, op, none⟩ = some (.int .i64 (b : Int))) := Lib.hid (by rw [hbb]; exact hcell)
  clear hbb hQ h1 h16 hcell ht
  go_enter Tryd.func15, Tryd.ntmps15
  go_wp2_with fail
  refine (PI.out _).mono ?_
  rintro e w1 ⟨rfl, rfl⟩
  have hc := HC.out _ ((Below.refl w.heap.size w).alloc (Nat.le_refl _) (.cells #[.int .u32 (id : Int), .int .i64 (op : Int), .string t, .string k, .string v, .int .i64 o, .int .i64 n, .int .i64 p, .int .i64 s] 24))
  go_wp2_with fail
  clear hc
  obtain ⟨w1, hw1⟩ : ∃ w1, w1 = ((w.alloc (.cells #[.int .u32 (id : Int), .int .i64 (op : Int), .string t, .string k, .string v, .int .i64 o, .int .i64 n, .int .i64 p, .int .i64 s] 24)).alloc (.cells #[.int .i64 1, .int .i64 24, .string t, .int .i64 2, .int .i64 64, .string k, .int .i64 4, .int .i64 1024, .string v] 81)) := ⟨_, rfl⟩
  have HX : Hid (QBox w1 w.heap.size ⟨id, op, t, k, v, o, n, p, s⟩) := Lib.hid (by rw [hw1]; exact ((show QBox _ w.heap.size ⟨id, op, t, k, v, o, n, p, s⟩ from heap_alloc_new w _).below ((Below.refl _ _).alloc (Nat.le_refl _) _) (by simp)))
  have HR : Hid (RowA w1 (w.heap.size + 1) #[.int .i64 1, .int .i64 24, .string t, .int .i64 2, .int .i64 64, .string k, .int .i64 4, .int .i64 1024, .string v] 81) := Lib.hid (by rw [hw1]; have := heap_alloc_new (w.alloc (.cells #[.int .u32 (id : Int), .int .i64 (op : Int), .string t, .string k, .string v, .int .i64 o, .int .i64 n, .int .i64 p, .int .i64 s] 24)) (.cells #[.int .i64 1, .int .i64 24, .string t, .int .i64 2, .int .i64 64, .string k, .int .i64 4, .int .i64 1024, .string v] 81); rw [show (w.alloc (.cells #[.int .u32 (id : Int), .int .i64 (op : Int), .string t, .string k, .string v, .int .i64 o, .int .i64 n, .int .i64 p, .int .i64 s] 24)).heap.size = w.heap.size + 1 by simp] at this; exact this)
  have HB0 : Hid (Below w.heap.size w w1) := Lib.hid (by rw [hw1]; exact ((Below.refl _ _).alloc (Nat.le_refl _) _).alloc (by simp) _)
  have HS : Hid (w1.heap.size = w.heap.size + 2) := Lib.hid (by rw [hw1]; simp)
  have hg1 : w.heap.size < w1.heap.size := by have := HS.out; omega
  have hg2 : w.heap.size + 1 < w1.heap.size := by have := HS.out; omega
  rw [← hw1]
  clear hw1 HC PI HT i0 i16

  go_loopw [31] (fun vi wr => ∃ j : Nat, vi = .int .i64 j ∧ j ≤ 3 ∧ (0 < j → gdT b 1 24 t = true) ∧ (1 < j → gdT b 2 64 k = true) ∧ (2 < j → gdT b 4 1024 v = true) ∧ Below w1.heap.size w1 wr) (fun vi _ => 3 - (intOf vi).toNat)
  case atStart => exact ⟨0, rfl, by omega, fun h => absurd h (by omega), fun h => absurd h (by omega), fun h => absurd h (by omega), Below.refl _ _⟩
  case round =>
    obtain ⟨j, rfl, hj, g0, g1, g2, hbel⟩ := hrel
    have HBEL := Lib.hid hbel
    have G0 := Lib.hid g0
    have G1 := Lib.hid g1
    have G2 := Lib.hid g2
    clear hbel g0 g1 g2
    rcases (show j = 0 ∨ j = 1 ∨ j = 2 ∨ j = 3 by omega) with rfl | rfl | rfl | rfl
    · have c0 : wr.cell? ⟨w.heap.size + 1, 0, none⟩ = some (.int .i64 1) := (HR.out.below HBEL.out hg2).cell 0
      have c1 : wr.cell? ⟨w.heap.size + 1, 1, none⟩ = some (.int .i64 24) := (HR.out.below HBEL.out hg2).cell 1
      have c2 : wr.cell? ⟨w.heap.size + 1, 2, none⟩ = some (.string t) := (HR.out.below HBEL.out hg2).cell 2
      by_cases hA : 24 < t.size
      · have d1 : decide ((24 : Int) < (t.size : Int)) = true := decide_eq_true (by omega)
        have HX0 := Lib.hid (HB1.out (gdT_bad (.inl hA)))
        clear hA
        go_wp2
        go_ret
        exact ⟨by rw [HX0.out] <;> rfl, HB0.out.trans ((HBEL.out.alloc HBEL.out.size _).mono (Nat.le_of_lt hg1))⟩
      · have d1 : decide ((24 : Int) < (t.size : Int)) = false := decide_eq_false (by omega)
        by_cases hB : hasb b 1 = true
        · rw [hB, Bool.not_true] at F1
          have HN : Hid (gdT b 1 24 t = true) := Lib.hid (gdT_ok (by omega) (.inl hB))
          clear hA hB
          go_wp2
          go_roundw
          case rel => exact ⟨1, by first | rfl | simp, by omega, fun _ => HN.out, fun h => absurd h (by omega), fun h => absurd h (by omega), HBEL.out.alloc HBEL.out.size _⟩
          case measure => simp [intOf]
        · rw [Bool.not_eq_true] at hB
          rw [hB, Bool.not_false] at F1
          by_cases hC : t.size = 0
          · have e1 : t.toList.isEmpty = true := by rw [isEmpty_size, decide_eq_true hC]
            have e2 : (t.toList != []) = false := by have := e1; cases h : t.toList <;> simp_all
            have HN : Hid (gdT b 1 24 t = true) := Lib.hid (gdT_ok (by omega) (.inr hC))
            clear hA hB hC
            go_wp2
            go_roundw
            case rel => exact ⟨1, by first | rfl | simp, by omega, fun _ => HN.out, fun h => absurd h (by omega), fun h => absurd h (by omega), HBEL.out.alloc HBEL.out.size _⟩
            case measure => simp [intOf]
          · have e1 : t.toList.isEmpty = false := by rw [isEmpty_size, decide_eq_false hC]
            have e2 : (t.toList != []) = true := by have := e1; cases h : t.toList <;> simp_all
            have HX0 := Lib.hid (HB1.out (gdT_bad (.inr ⟨hB, hC⟩)))
            clear hA hB hC
            go_wp2
            go_ret
            exact ⟨by rw [HX0.out] <;> rfl, HB0.out.trans ((HBEL.out.alloc HBEL.out.size _).mono (Nat.le_of_lt hg1))⟩
    · have c0 : wr.cell? ⟨w.heap.size + 1, 3, none⟩ = some (.int .i64 2) := (HR.out.below HBEL.out hg2).cell 3
      have c1 : wr.cell? ⟨w.heap.size + 1, 4, none⟩ = some (.int .i64 64) := (HR.out.below HBEL.out hg2).cell 4
      have c2 : wr.cell? ⟨w.heap.size + 1, 5, none⟩ = some (.string k) := (HR.out.below HBEL.out hg2).cell 5
      by_cases hA : 64 < k.size
      · have d1 : decide ((64 : Int) < (k.size : Int)) = true := decide_eq_true (by omega)
        have HX0 := Lib.hid (HB2.out (gdT_bad (.inl hA)))
        clear hA
        go_wp2
        go_ret
        exact ⟨by rw [HX0.out] <;> rfl, HB0.out.trans ((HBEL.out.alloc HBEL.out.size _).mono (Nat.le_of_lt hg1))⟩
      · have d1 : decide ((64 : Int) < (k.size : Int)) = false := decide_eq_false (by omega)
        by_cases hB : hasb b 2 = true
        · rw [hB, Bool.not_true] at F2
          have HN : Hid (gdT b 2 64 k = true) := Lib.hid (gdT_ok (by omega) (.inl hB))
          clear hA hB
          go_wp2
          go_roundw
          case rel => exact ⟨2, by first | rfl | simp, by omega, fun h => G0.out (by omega), fun _ => HN.out, fun h => absurd h (by omega), HBEL.out.alloc HBEL.out.size _⟩
          case measure => simp [intOf]
        · rw [Bool.not_eq_true] at hB
          rw [hB, Bool.not_false] at F2
          by_cases hC : k.size = 0
          · have e1 : k.toList.isEmpty = true := by rw [isEmpty_size, decide_eq_true hC]
            have e2 : (k.toList != []) = false := by have := e1; cases h : k.toList <;> simp_all
            have HN : Hid (gdT b 2 64 k = true) := Lib.hid (gdT_ok (by omega) (.inr hC))
            clear hA hB hC
            go_wp2
            go_roundw
            case rel => exact ⟨2, by first | rfl | simp, by omega, fun h => G0.out (by omega), fun _ => HN.out, fun h => absurd h (by omega), HBEL.out.alloc HBEL.out.size _⟩
            case measure => simp [intOf]
          · have e1 : k.toList.isEmpty = false := by rw [isEmpty_size, decide_eq_false hC]
            have e2 : (k.toList != []) = true := by have := e1; cases h : k.toList <;> simp_all
            have HX0 := Lib.hid (HB2.out (gdT_bad (.inr ⟨hB, hC⟩)))
            clear hA hB hC
            go_wp2
            go_ret
            exact ⟨by rw [HX0.out] <;> rfl, HB0.out.trans ((HBEL.out.alloc HBEL.out.size _).mono (Nat.le_of_lt hg1))⟩
    · have c0 : wr.cell? ⟨w.heap.size + 1, 6, none⟩ = some (.int .i64 4) := (HR.out.below HBEL.out hg2).cell 6
      have c1 : wr.cell? ⟨w.heap.size + 1, 7, none⟩ = some (.int .i64 1024) := (HR.out.below HBEL.out hg2).cell 7
      have c2 : wr.cell? ⟨w.heap.size + 1, 8, none⟩ = some (.string v) := (HR.out.below HBEL.out hg2).cell 8
      by_cases hA : 1024 < v.size
      · have d1 : decide ((1024 : Int) < (v.size : Int)) = true := decide_eq_true (by omega)
        have HX0 := Lib.hid (HB4.out (gdT_bad (.inl hA)))
        clear hA
        go_wp2
        go_ret
        exact ⟨by rw [HX0.out] <;> rfl, HB0.out.trans ((HBEL.out.alloc HBEL.out.size _).mono (Nat.le_of_lt hg1))⟩
      · have d1 : decide ((1024 : Int) < (v.size : Int)) = false := decide_eq_false (by omega)
        by_cases hB : hasb b 4 = true
        · rw [hB, Bool.not_true] at F4
          have HN : Hid (gdT b 4 1024 v = true) := Lib.hid (gdT_ok (by omega) (.inl hB))
          clear hA hB
          go_wp2
          go_roundw
          case rel => exact ⟨3, by first | rfl | simp, by omega, fun h => G0.out (by omega), fun h => G1.out (by omega), fun _ => HN.out, HBEL.out.alloc HBEL.out.size _⟩
          case measure => simp [intOf]
        · rw [Bool.not_eq_true] at hB
          rw [hB, Bool.not_false] at F4
          by_cases hC : v.size = 0
          · have e1 : v.toList.isEmpty = true := by rw [isEmpty_size, decide_eq_true hC]
            have e2 : (v.toList != []) = false := by have := e1; cases h : v.toList <;> simp_all
            have HN : Hid (gdT b 4 1024 v = true) := Lib.hid (gdT_ok (by omega) (.inr hC))
            clear hA hB hC
            go_wp2
            go_roundw
            case rel => exact ⟨3, by first | rfl | simp, by omega, fun h => G0.out (by omega), fun h => G1.out (by omega), fun _ => HN.out, HBEL.out.alloc HBEL.out.size _⟩
            case measure => simp [intOf]
          · have e1 : v.toList.isEmpty = false := by rw [isEmpty_size, decide_eq_false hC]
            have e2 : (v.toList != []) = true := by have := e1; cases h : v.toList <;> simp_all
            have HX0 := Lib.hid (HB4.out (gdT_bad (.inr ⟨hB, hC⟩)))
            clear hA hB hC
            go_wp2
            go_ret
            exact ⟨by rw [HX0.out] <;> rfl, HB0.out.trans ((HBEL.out.alloc HBEL.out.size _).mono (Nat.le_of_lt hg1))⟩
    · clear hj
      obtain ⟨y0, y1, y2, y3, y4, y5, y6, y7, y8⟩ := (HX.out.below HBEL.out hg1).facts
      go_wp2_with fail
      clear y0 y1 y2 y3 y4 y5 y6 y7 y8
      obtain ⟨w2, hw2⟩ : ∃ w2, w2 = wr.alloc (.cells #[.int .i64 8, .int .i64 o, .int .i64 16, .int .i64 n, .int .i64 32, .int .i64 p, .int .i64 64, .int .i64 s] 83) := ⟨_, rfl⟩
      have HR2 : Hid (RowA w2 wr.heap.size #[.int .i64 8, .int .i64 o, .int .i64 16, .int .i64 n, .int .i64 32, .int .i64 p, .int .i64 64, .int .i64 s] 83) := Lib.hid (by rw [hw2]; exact heap_alloc_new wr _)
      have HB2w : Hid (Below w.heap.size w w2) := Lib.hid (by rw [hw2]; exact HB0.out.trans ((HBEL.out.alloc HBEL.out.size _).mono (Nat.le_of_lt hg1)))
      have hg3 : wr.heap.size < w2.heap.size := by rw [hw2]; simp
      have hg4 : w.heap.size ≤ w2.heap.size := HB2w.out.size
      rw [← hw2]
      clear hw2 HBEL HR HX hg1 hg2 HS HB0
      obtain ⟨GG, hGG⟩ : ∃ GG, GG = wr.heap.size := ⟨_, rfl⟩
      rw [← hGG] at HR2 hg3 ⊢
      clear hGG
      go_loopw [69] (fun vi wr => ∃ j : Nat, vi = .int .i64 j ∧ j ≤ 4 ∧ (0 < j → gdN b 8 o = true) ∧ (1 < j → gdN b 16 n = true) ∧ (2 < j → gdN b 32 p = true) ∧ (3 < j → gdN b 64 s = true) ∧ Below w2.heap.size w2 wr) (fun vi _ => 4 - (intOf vi).toNat)
      case atStart => exact ⟨0, rfl, by omega, fun h => absurd h (by omega), fun h => absurd h (by omega), fun h => absurd h (by omega), fun h => absurd h (by omega), Below.refl _ _⟩
      case round =>
        have K0 := Lib.hid (G0.out (by omega))
        have K1 := Lib.hid (G1.out (by omega))
        have K2 := Lib.hid (G2.out (by omega))
        clear G0 G1 G2
        obtain ⟨j, rfl, hj, g0, g1, g2, g3, hbel⟩ := hrel
        have HBEL := Lib.hid hbel
        have G0 := Lib.hid g0
        have G1 := Lib.hid g1
        have G2 := Lib.hid g2
        have G3 := Lib.hid g3
        clear hbel g0 g1 g2 g3
        rcases (show j = 0 ∨ j = 1 ∨ j = 2 ∨ j = 3 ∨ j = 4 by omega) with rfl | rfl | rfl | rfl | rfl
        · have c0 : wr.cell? ⟨GG, 0, none⟩ = some (.int .i64 8) := (HR2.out.below HBEL.out hg3).cell 0
          have c1 : wr.cell? ⟨GG, 1, none⟩ = some (.int .i64 o) := (HR2.out.below HBEL.out hg3).cell 1
          by_cases hA : o < 0
          · have d1 : decide (o < 0) = true := decide_eq_true hA
            have HX0 := Lib.hid (HB8.out (gdN_bad (.inl hA)))
            clear hA
            go_wp2
            go_ret
            exact ⟨by rw [HX0.out] <;> rfl, HB2w.out.trans ((HBEL.out.alloc HBEL.out.size _).mono hg4)⟩
          · have d1 : decide (o < 0) = false := decide_eq_false hA
            by_cases hB : hasb b 8 = true
            · rw [hB, Bool.not_true] at F8
              have HN : Hid (gdN b 8 o = true) := Lib.hid (gdN_ok (by omega) (.inl hB))
              clear hA hB
              go_wp2
              go_roundw
              case rel => exact ⟨1, by first | rfl | simp, by omega, fun _ => HN.out, fun h => absurd h (by omega), fun h => absurd h (by omega), fun h => absurd h (by omega), HBEL.out.alloc HBEL.out.size _⟩
              case measure => simp [intOf]
            · rw [Bool.not_eq_true] at hB
              rw [hB, Bool.not_false] at F8
              by_cases hC : o = 0
              · have e1 : (o != 0) = false := by rw [hC]; rfl
                have HN : Hid (gdN b 8 o = true) := Lib.hid (gdN_ok (by omega) (.inr hC))
                clear hA hB hC
                go_wp2
                go_roundw
                case rel => exact ⟨1, by first | rfl | simp, by omega, fun _ => HN.out, fun h => absurd h (by omega), fun h => absurd h (by omega), fun h => absurd h (by omega), HBEL.out.alloc HBEL.out.size _⟩
                case measure => simp [intOf]
              · have e1 : (o != 0) = true := by rw [bne_iff_ne]; exact hC
                have HX0 := Lib.hid (HB8.out (gdN_bad (.inr ⟨hB, hC⟩)))
                clear hA hB hC
                go_wp2
                go_ret
                exact ⟨by rw [HX0.out] <;> rfl, HB2w.out.trans ((HBEL.out.alloc HBEL.out.size _).mono hg4)⟩
        · have c0 : wr.cell? ⟨GG, 2, none⟩ = some (.int .i64 16) := (HR2.out.below HBEL.out hg3).cell 2
          have c1 : wr.cell? ⟨GG, 3, none⟩ = some (.int .i64 n) := (HR2.out.below HBEL.out hg3).cell 3
          by_cases hA : n < 0
          · have d1 : decide (n < 0) = true := decide_eq_true hA
            have HX0 := Lib.hid (HB16.out (gdN_bad (.inl hA)))
            clear hA
            go_wp2
            go_ret
            exact ⟨by rw [HX0.out] <;> rfl, HB2w.out.trans ((HBEL.out.alloc HBEL.out.size _).mono hg4)⟩
          · have d1 : decide (n < 0) = false := decide_eq_false hA
            by_cases hB : hasb b 16 = true
            · rw [hB, Bool.not_true] at F16
              have HN : Hid (gdN b 16 n = true) := Lib.hid (gdN_ok (by omega) (.inl hB))
              clear hA hB
              go_wp2
              go_roundw
              case rel => exact ⟨2, by first | rfl | simp, by omega, fun h => G0.out (by omega), fun _ => HN.out, fun h => absurd h (by omega), fun h => absurd h (by omega), HBEL.out.alloc HBEL.out.size _⟩
              case measure => simp [intOf]
            · rw [Bool.not_eq_true] at hB
              rw [hB, Bool.not_false] at F16
              by_cases hC : n = 0
              · have e1 : (n != 0) = false := by rw [hC]; rfl
                have HN : Hid (gdN b 16 n = true) := Lib.hid (gdN_ok (by omega) (.inr hC))
                clear hA hB hC
                go_wp2
                go_roundw
                case rel => exact ⟨2, by first | rfl | simp, by omega, fun h => G0.out (by omega), fun _ => HN.out, fun h => absurd h (by omega), fun h => absurd h (by omega), HBEL.out.alloc HBEL.out.size _⟩
                case measure => simp [intOf]
              · have e1 : (n != 0) = true := by rw [bne_iff_ne]; exact hC
                have HX0 := Lib.hid (HB16.out (gdN_bad (.inr ⟨hB, hC⟩)))
                clear hA hB hC
                go_wp2
                go_ret
                exact ⟨by rw [HX0.out] <;> rfl, HB2w.out.trans ((HBEL.out.alloc HBEL.out.size _).mono hg4)⟩
        · have c0 : wr.cell? ⟨GG, 4, none⟩ = some (.int .i64 32) := (HR2.out.below HBEL.out hg3).cell 4
          have c1 : wr.cell? ⟨GG, 5, none⟩ = some (.int .i64 p) := (HR2.out.below HBEL.out hg3).cell 5
          by_cases hA : p < 0
          · have d1 : decide (p < 0) = true := decide_eq_true hA
            have HX0 := Lib.hid (HB32.out (gdN_bad (.inl hA)))
            clear hA
            go_wp2
            go_ret
            exact ⟨by rw [HX0.out] <;> rfl, HB2w.out.trans ((HBEL.out.alloc HBEL.out.size _).mono hg4)⟩
          · have d1 : decide (p < 0) = false := decide_eq_false hA
            by_cases hB : hasb b 32 = true
            · rw [hB, Bool.not_true] at F32
              have HN : Hid (gdN b 32 p = true) := Lib.hid (gdN_ok (by omega) (.inl hB))
              clear hA hB
              go_wp2
              go_roundw
              case rel => exact ⟨3, by first | rfl | simp, by omega, fun h => G0.out (by omega), fun h => G1.out (by omega), fun _ => HN.out, fun h => absurd h (by omega), HBEL.out.alloc HBEL.out.size _⟩
              case measure => simp [intOf]
            · rw [Bool.not_eq_true] at hB
              rw [hB, Bool.not_false] at F32
              by_cases hC : p = 0
              · have e1 : (p != 0) = false := by rw [hC]; rfl
                have HN : Hid (gdN b 32 p = true) := Lib.hid (gdN_ok (by omega) (.inr hC))
                clear hA hB hC
                go_wp2
                go_roundw
                case rel => exact ⟨3, by first | rfl | simp, by omega, fun h => G0.out (by omega), fun h => G1.out (by omega), fun _ => HN.out, fun h => absurd h (by omega), HBEL.out.alloc HBEL.out.size _⟩
                case measure => simp [intOf]
              · have e1 : (p != 0) = true := by rw [bne_iff_ne]; exact hC
                have HX0 := Lib.hid (HB32.out (gdN_bad (.inr ⟨hB, hC⟩)))
                clear hA hB hC
                go_wp2
                go_ret
                exact ⟨by rw [HX0.out] <;> rfl, HB2w.out.trans ((HBEL.out.alloc HBEL.out.size _).mono hg4)⟩
        · have c0 : wr.cell? ⟨GG, 6, none⟩ = some (.int .i64 64) := (HR2.out.below HBEL.out hg3).cell 6
          have c1 : wr.cell? ⟨GG, 7, none⟩ = some (.int .i64 s) := (HR2.out.below HBEL.out hg3).cell 7
          by_cases hA : s < 0
          · have d1 : decide (s < 0) = true := decide_eq_true hA
            have HX0 := Lib.hid (HB64.out (gdN_bad (.inl hA)))
            clear hA
            go_wp2
            go_ret
            exact ⟨by rw [HX0.out] <;> rfl, HB2w.out.trans ((HBEL.out.alloc HBEL.out.size _).mono hg4)⟩
          · have d1 : decide (s < 0) = false := decide_eq_false hA
            by_cases hB : hasb b 64 = true
            · rw [hB, Bool.not_true] at F64
              have HN : Hid (gdN b 64 s = true) := Lib.hid (gdN_ok (by omega) (.inl hB))
              clear hA hB
              go_wp2
              go_roundw
              case rel => exact ⟨4, by first | rfl | simp, by omega, fun h => G0.out (by omega), fun h => G1.out (by omega), fun h => G2.out (by omega), fun _ => HN.out, HBEL.out.alloc HBEL.out.size _⟩
              case measure => simp [intOf]
            · rw [Bool.not_eq_true] at hB
              rw [hB, Bool.not_false] at F64
              by_cases hC : s = 0
              · have e1 : (s != 0) = false := by rw [hC]; rfl
                have HN : Hid (gdN b 64 s = true) := Lib.hid (gdN_ok (by omega) (.inr hC))
                clear hA hB hC
                go_wp2
                go_roundw
                case rel => exact ⟨4, by first | rfl | simp, by omega, fun h => G0.out (by omega), fun h => G1.out (by omega), fun h => G2.out (by omega), fun _ => HN.out, HBEL.out.alloc HBEL.out.size _⟩
                case measure => simp [intOf]
              · have e1 : (s != 0) = true := by rw [bne_iff_ne]; exact hC
                have HX0 := Lib.hid (HB64.out (gdN_bad (.inr ⟨hB, hC⟩)))
                clear hA hB hC
                go_wp2
                go_ret
                exact ⟨by rw [HX0.out] <;> rfl, HB2w.out.trans ((HBEL.out.alloc HBEL.out.size _).mono hg4)⟩
        · clear hj
          have HX0 := Lib.hid (HOK.out K0.out K1.out K2.out (G0.out (by omega)) (G1.out (by omega)) (G2.out (by omega)) (G3.out (by omega)))
          go_wp2
          go_ret
          exact ⟨by rw [HX0.out] <;> rfl, HB2w.out.trans (HBEL.out.mono hg4)⟩
theorem checkq_is (x : Rq) (w : World) (ht : Tab w) : Calls Tryd.prog 15 #[x.V] w fun e w' => e = .returned (.int .i64 (chkq x)) ∧ Below w.heap.size w w' := by
  by_cases h : 1 ≤ x.op ∧ x.op < 16
  · obtain ⟨id, op, t, k, v, o, n, p, s⟩ := x
    simp only at h
    obtain ⟨m, rfl⟩ : ∃ m : Nat, op = (m : Int) := ⟨op.toNat, by omega⟩
    exact checkq_op id m t k v o n p s w ht (by omega) (by omega)
  · exact checkq_noOp x w h
end Go.Proofs.YtljfmcgeiceagaaDoor

/- wire.EncodeRequest (printed by gen_rqenc.py). -/
namespace Go.Proofs.YtljfmcgeiceagaaDoor
open Go Go.RowKit
set_option linter.unusedVariables false
set_option linter.unusedSimpArgs false

/-- A request's box and the box of what it uses. -/
structure QB (W : World) (gr gl : Nat) (id op : Nat) (t k v : ByteArray) (o n p s b : Nat) : Prop where
  lt1 : gr < W.heap.size
  lt2 : gl < W.heap.size
  c0 : W.cell? ⟨gr, 0, none⟩ = some (.int .u32 (id : Int))
  c1 : W.cell? ⟨gr, 1, none⟩ = some (.int .i64 (op : Int))
  c2 : W.cell? ⟨gr, 2, none⟩ = some (.string t)
  c3 : W.cell? ⟨gr, 3, none⟩ = some (.string k)
  c4 : W.cell? ⟨gr, 4, none⟩ = some (.string v)
  c5 : W.cell? ⟨gr, 5, none⟩ = some (.int .i64 (o : Int))
  c6 : W.cell? ⟨gr, 6, none⟩ = some (.int .i64 (n : Int))
  c7 : W.cell? ⟨gr, 7, none⟩ = some (.int .i64 (p : Int))
  c8 : W.cell? ⟨gr, 8, none⟩ = some (.int .i64 (s : Int))
  cl : W.cell? ⟨gl, 0, none⟩ = some (.int .i64 (b : Int))
theorem QB.below {W W' : World} {gr gl id op : Nat} {t k v : ByteArray} {o n p s b B : Nat} (h : QB W gr gl id op t k v o n p s b) (hb : Below B W W') (h1 : gr < B) (h2 : gl < B) : QB W' gr gl id op t k v o n p s b :=
  ⟨Nat.lt_of_lt_of_le h.lt1 hb.size, Nat.lt_of_lt_of_le h.lt2 hb.size, (hb.cell (p := ⟨gr, 0, none⟩) h1).trans h.c0, (hb.cell (p := ⟨gr, 1, none⟩) h1).trans h.c1, (hb.cell (p := ⟨gr, 2, none⟩) h1).trans h.c2, (hb.cell (p := ⟨gr, 3, none⟩) h1).trans h.c3, (hb.cell (p := ⟨gr, 4, none⟩) h1).trans h.c4, (hb.cell (p := ⟨gr, 5, none⟩) h1).trans h.c5, (hb.cell (p := ⟨gr, 6, none⟩) h1).trans h.c6, (hb.cell (p := ⟨gr, 7, none⟩) h1).trans h.c7, (hb.cell (p := ⟨gr, 8, none⟩) h1).trans h.c8, (hb.cell (p := ⟨gl, 0, none⟩) h2).trans h.cl⟩
theorem Wr.cut {base g : Nat} {w wx : World} {T : TypeId} {v : Value} {xs ys : List Nat} (h : Wr base wx T g v xs) (e : xs = ys) (hb : Below base w wx) : ∃ v', Wr base wx T g v' ys ∧ Below base w wx := by subst e; exact ⟨v, h, hb⟩

set_option maxHeartbeats 4000000 in
set_option maxRecDepth 100000 in
theorem closq_is (base g gr gl id op : Nat) (t k v : ByteArray) (o n p s : Nat) (w : World) (h : Wr base w 120 g (.slice none 0 0) []) (hb : base ≤ w.heap.size) (hp : QB w gr gl id op t k v o n p s (useB op)) (h1 : gr < base) (h2 : gl < base) (hid : id < 4294967296) (hop : op < 16)
    (hlt : t.size ≤ 24) (hlk : k.size ≤ 64) (hlv : v.size ≤ 1024) (hlo : o < 9223372036854775808) (hln : n < 9223372036854775808) (hlp : p < 9223372036854775808) (hls : s < 9223372036854775808) :
    Calls Tryd.prog 28 #[.pointer (some ⟨g, 0, none⟩), .pointer (some ⟨gr, 0, none⟩), .pointer (some ⟨gl, 0, none⟩)] w fun e w' => e = .returned (.tuple #[]) ∧ (∃ v', Wr base w' 120 g v' (bdyq ⟨id, op, t, k, v, o, n, p, s⟩)) ∧ Below base w w' := by
  have V0 := Lib.hid h
  have D0 : Hid (Below base w w) := Lib.hid (Below.refl _ _)
  have HP := Lib.hid hp
  have HB := Lib.hid hb
  have hw1 : IntKind.u8.wrap (op : Int) = (op : Int) := by rw [IntKind.wrap_u8]; omega
  have hw3 : IntKind.u64.wrap (id : Int) = (id : Int) := by rw [IntKind.wrap_u64]; omega
  have hw_o : IntKind.u64.wrap (o : Int) = (o : Int) := by rw [IntKind.wrap_u64]; omega
  have hw_n : IntKind.u64.wrap (n : Int) = (n : Int) := by rw [IntKind.wrap_u64]; omega
  have hw_p : IntKind.u64.wrap (p : Int) = (p : Int) := by rw [IntKind.wrap_u64]; omega
  have hw_s : IntKind.u64.wrap (s : Int) = (s : Int) := by rw [IntKind.wrap_u64]; omega
  have FB := bitsq_ne hop
  have HQ : Hid (bdyq ⟨id, op, t, k, v, o, n, p, s⟩ = [81, op] ++ Uv.uv id ++ tf (useB op) 1 t ++ tf (useB op) 2 k ++ tf (useB op) 4 v ++ nf (useB op) 8 o ++ nf (useB op) 16 n ++ nf (useB op) 32 p ++ nf (useB op) 64 s) := Lib.hid (by simp only [bdyq, Int.toNat_natCast])
  obtain ⟨X, hX⟩ : ∃ X, X = bdyq ⟨id, op, t, k, v, o, n, p, s⟩ := ⟨_, rfl⟩
  rw [← hX] at HQ ⊢
  clear hX
  obtain ⟨b, hbb⟩ : ∃ b, b = useB op := ⟨_, rfl⟩
  rw [← hbb] at HP FB HQ
  obtain ⟨F1, F2, F4, F8, F16, F32, F64⟩ := FB
  have L0 : Hid ((Uv.uv id).length ≤ 5) := Lib.hid (Uv.uv_len_pow 4 id (by omega))
  have L1 : Hid ((tf b 1 t).length ≤ 2 + 24) := Lib.hid (tf_len (by omega) (by omega))
  have L2 : Hid ((tf b 2 k).length ≤ 2 + 64) := Lib.hid (tf_len (by omega) (by omega))
  have L4 : Hid ((tf b 4 v).length ≤ 2 + 1024) := Lib.hid (tf_len (by omega) (by omega))
  have L8 : Hid ((nf b 8 (o : Nat)).length ≤ 9) := Lib.hid (nf_len b 8 (by unfold r64; omega))
  have L16 : Hid ((nf b 16 (n : Nat)).length ≤ 9) := Lib.hid (nf_len b 16 (by unfold r64; omega))
  have L32 : Hid ((nf b 32 (p : Nat)).length ≤ 9) := Lib.hid (nf_len b 32 (by unfold r64; omega))
  have L64 : Hid ((nf b 64 (s : Nat)).length ≤ 9) := Lib.hid (nf_len b 64 (by unfold r64; omega))
  have S1 : Hid (t.size ≤ 1024) := Lib.hid (by omega)
  have S2 : Hid (k.size ≤ 1024) := Lib.hid (by omega)
  have S4 : Hid (v.size ≤ 1024) := Lib.hid (by omega)
  have S8 : Hid (o < 18446744073709551616) := Lib.hid (by omega)
  have S16 : Hid (n < 18446744073709551616) := Lib.hid (by omega)
  have S32 : Hid (p < 18446744073709551616) := Lib.hid (by omega)
  have S64 : Hid (s < 18446744073709551616) := Lib.hid (by omega)
  have SI : Hid (id < 18446744073709551616) := Lib.hid (by omega)
  clear h hb hp hid hbb hop hlt hlk hlv hlo hln hlp hls
  go_enter Tryd.func28, Tryd.ntmps28
  obtain ⟨x0, x1, x2, x3, x4, x5, x6, x7, x8, xl⟩ : _ ∧ _ ∧ _ ∧ _ ∧ _ ∧ _ ∧ _ ∧ _ ∧ _ ∧ _ := (fun q : QB w gr gl id op t k v o n p s b => ⟨q.c0, q.c1, q.c2, q.c3, q.c4, q.c5, q.c6, q.c7, q.c8, q.cl⟩) (HP.out.below D0.out h1 h2)
  go_wp2_with fail
  refine (byte_is base g (.slice none 0 0) [] 81 w V0.out (by simp) (Nat.le_trans HB.out D0.out.size)).mono ?_
  intro e w1 hw
  obtain ⟨v1, rfl, h, bb⟩ := hw.to' V0.out
  have V1 := Lib.hid h
  have D1 := Lib.hid (D0.out.trans bb)
  clear hw h bb
  clear x0 x1 x2 x3 x4 x5 x6 x7 x8 xl
  obtain ⟨x0, x1, x2, x3, x4, x5, x6, x7, x8, xl⟩ : _ ∧ _ ∧ _ ∧ _ ∧ _ ∧ _ ∧ _ ∧ _ ∧ _ ∧ _ := (fun q : QB w1 gr gl id op t k v o n p s b => ⟨q.c0, q.c1, q.c2, q.c3, q.c4, q.c5, q.c6, q.c7, q.c8, q.cl⟩) (HP.out.below D1.out h1 h2)
  go_wp2_with fail
  refine (byte_is base g v1 ([] ++ [81]) op w1 V1.out (by simp) (Nat.le_trans HB.out D1.out.size)).mono ?_
  intro e w2 hw
  obtain ⟨v2, rfl, h, bb⟩ := hw.to' V1.out
  have V2 := Lib.hid h
  have D2 := Lib.hid (D1.out.trans bb)
  clear hw h bb
  clear x0 x1 x2 x3 x4 x5 x6 x7 x8 xl
  obtain ⟨x0, x1, x2, x3, x4, x5, x6, x7, x8, xl⟩ : _ ∧ _ ∧ _ ∧ _ ∧ _ ∧ _ ∧ _ ∧ _ ∧ _ ∧ _ := (fun q : QB w2 gr gl id op t k v o n p s b => ⟨q.c0, q.c1, q.c2, q.c3, q.c4, q.c5, q.c6, q.c7, q.c8, q.cl⟩) (HP.out.below D2.out h1 h2)
  go_wp2_with fail
  refine (uvarint_w base g v2 ([] ++ [81] ++ [op]) id w2 V2.out SI.out (by simp) (Nat.le_trans HB.out D2.out.size)).mono ?_
  intro e w3 hw
  obtain ⟨v3, rfl, h, bb⟩ := hw.to' V2.out
  have V3 := Lib.hid h
  have D3 := Lib.hid (D2.out.trans bb)
  clear hw h bb
  clear x0 x1 x2 x3 x4 x5 x6 x7 x8 xl
  have V3c : Hid (Wr base w3 120 g v3 ([81, op] ++ Uv.uv id)) := Lib.hid (by have := V3.out; simpa using this)
  clear V0 V1 V2 V3 D0 D1 D2
  have V3 := V3c
  clear V3c
  obtain ⟨x0, x1, x2, x3, x4, x5, x6, x7, x8, xl⟩ : _ ∧ _ ∧ _ ∧ _ ∧ _ ∧ _ ∧ _ ∧ _ ∧ _ ∧ _ := (fun q : QB _ gr gl id op t k v o n p s b => ⟨q.c0, q.c1, q.c2, q.c3, q.c4, q.c5, q.c6, q.c7, q.c8, q.cl⟩) (HP.out.below D3.out h1 h2)
  go_upto_if 18 with (fail)
  go_cut [] from 4 (fun wx => ∃ v', Wr base wx 120 g v' ([81, op] ++ Uv.uv id ++ tf b 1 t) ∧ Below base w wx)
  case first =>
    cases hh : hasb b 1 with
    | true =>
      have HE := Lib.hid (tf_yes hh t)
      go_wp2_with fail
      refine (text_w base g v3 ([81, op] ++ Uv.uv id) t _ V3.out (by have := L0.out; have := S1.out; simp only [List.length_append, List.length_cons, List.length_nil]; omega) (Nat.le_trans HB.out D3.out.size)).mono ?_
      intro e wn hw
      obtain ⟨vn, rfl, h, bb⟩ := hw.to' V3.out
      have VN := Lib.hid h
      have DN := Lib.hid (D3.out.trans bb)
      clear hw h bb
      go_wp2_with fail
      go_meet
      case rel => exact VN.out.cut (by rw [HE.out]; simp only [List.append_assoc]) DN.out
    | false =>
      have HE := Lib.hid (tf_no (by rw [hh]; decide) t : tf b 1 t = [])
      go_wp2_with fail
      go_meet
      case rel => exact V3.out.cut (by rw [HE.out, List.append_nil]) D3.out
  case' rest => obtain ⟨v4, hvn, hdn⟩ := hcut; have V4 := Lib.hid hvn; have D4 := Lib.hid hdn; clear x0 x1 x2 x3 x4 x5 x6 x7 x8 xl; clear hvn hdn V3 D3 F1
  obtain ⟨x0, x1, x2, x3, x4, x5, x6, x7, x8, xl⟩ : _ ∧ _ ∧ _ ∧ _ ∧ _ ∧ _ ∧ _ ∧ _ ∧ _ ∧ _ := (fun q : QB _ gr gl id op t k v o n p s b => ⟨q.c0, q.c1, q.c2, q.c3, q.c4, q.c5, q.c6, q.c7, q.c8, q.cl⟩) (HP.out.below D4.out h1 h2)
  go_upto_if 25 with (fail)
  go_cut [] from 4 (fun wx => ∃ v', Wr base wx 120 g v' ([81, op] ++ Uv.uv id ++ tf b 1 t ++ tf b 2 k) ∧ Below base w wx)
  case first =>
    cases hh : hasb b 2 with
    | true =>
      have HE := Lib.hid (tf_yes hh k)
      go_wp2_with fail
      refine (text_w base g v4 ([81, op] ++ Uv.uv id ++ tf b 1 t) k _ V4.out (by have := L0.out; have := L1.out; have := S2.out; simp only [List.length_append, List.length_cons, List.length_nil]; omega) (Nat.le_trans HB.out D4.out.size)).mono ?_
      intro e wn hw
      obtain ⟨vn, rfl, h, bb⟩ := hw.to' V4.out
      have VN := Lib.hid h
      have DN := Lib.hid (D4.out.trans bb)
      clear hw h bb
      go_wp2_with fail
      go_meet
      case rel => exact VN.out.cut (by rw [HE.out]; simp only [List.append_assoc]) DN.out
    | false =>
      have HE := Lib.hid (tf_no (by rw [hh]; decide) k : tf b 2 k = [])
      go_wp2_with fail
      go_meet
      case rel => exact V4.out.cut (by rw [HE.out, List.append_nil]) D4.out
  case' rest => obtain ⟨v5, hvn, hdn⟩ := hcut; have V5 := Lib.hid hvn; have D5 := Lib.hid hdn; clear x0 x1 x2 x3 x4 x5 x6 x7 x8 xl; clear hvn hdn V4 D4 F2
  obtain ⟨x0, x1, x2, x3, x4, x5, x6, x7, x8, xl⟩ : _ ∧ _ ∧ _ ∧ _ ∧ _ ∧ _ ∧ _ ∧ _ ∧ _ ∧ _ := (fun q : QB _ gr gl id op t k v o n p s b => ⟨q.c0, q.c1, q.c2, q.c3, q.c4, q.c5, q.c6, q.c7, q.c8, q.cl⟩) (HP.out.below D5.out h1 h2)
  go_upto_if 32 with (fail)
  go_cut [] from 4 (fun wx => ∃ v', Wr base wx 120 g v' ([81, op] ++ Uv.uv id ++ tf b 1 t ++ tf b 2 k ++ tf b 4 v) ∧ Below base w wx)
  case first =>
    cases hh : hasb b 4 with
    | true =>
      have HE := Lib.hid (tf_yes hh v)
      go_wp2_with fail
      refine (text_w base g v5 ([81, op] ++ Uv.uv id ++ tf b 1 t ++ tf b 2 k) v _ V5.out (by have := L0.out; have := L1.out; have := L2.out; have := S4.out; simp only [List.length_append, List.length_cons, List.length_nil]; omega) (Nat.le_trans HB.out D5.out.size)).mono ?_
      intro e wn hw
      obtain ⟨vn, rfl, h, bb⟩ := hw.to' V5.out
      have VN := Lib.hid h
      have DN := Lib.hid (D5.out.trans bb)
      clear hw h bb
      go_wp2_with fail
      go_meet
      case rel => exact VN.out.cut (by rw [HE.out]; simp only [List.append_assoc]) DN.out
    | false =>
      have HE := Lib.hid (tf_no (by rw [hh]; decide) v : tf b 4 v = [])
      go_wp2_with fail
      go_meet
      case rel => exact V5.out.cut (by rw [HE.out, List.append_nil]) D5.out
  case' rest => obtain ⟨v6, hvn, hdn⟩ := hcut; have V6 := Lib.hid hvn; have D6 := Lib.hid hdn; clear x0 x1 x2 x3 x4 x5 x6 x7 x8 xl; clear hvn hdn V5 D5 F4
  obtain ⟨x0, x1, x2, x3, x4, x5, x6, x7, x8, xl⟩ : _ ∧ _ ∧ _ ∧ _ ∧ _ ∧ _ ∧ _ ∧ _ ∧ _ ∧ _ := (fun q : QB _ gr gl id op t k v o n p s b => ⟨q.c0, q.c1, q.c2, q.c3, q.c4, q.c5, q.c6, q.c7, q.c8, q.cl⟩) (HP.out.below D6.out h1 h2)
  go_upto_if 39 with (fail)
  go_cut [] from 4 (fun wx => ∃ v', Wr base wx 120 g v' ([81, op] ++ Uv.uv id ++ tf b 1 t ++ tf b 2 k ++ tf b 4 v ++ nf b 8 (o : Nat)) ∧ Below base w wx)
  case first =>
    cases hh : hasb b 8 with
    | true =>
      have HE := Lib.hid (nf_yes hh (o : Nat))
      go_wp2_with fail
      refine (uvarint_w base g v6 ([81, op] ++ Uv.uv id ++ tf b 1 t ++ tf b 2 k ++ tf b 4 v) o _ V6.out S8.out (by have := L0.out; have := L1.out; have := L2.out; have := L4.out; have := S8.out; simp only [List.length_append, List.length_cons, List.length_nil]; omega) (Nat.le_trans HB.out D6.out.size)).mono ?_
      intro e wn hw
      obtain ⟨vn, rfl, h, bb⟩ := hw.to' V6.out
      have VN := Lib.hid h
      have DN := Lib.hid (D6.out.trans bb)
      clear hw h bb
      go_wp2_with fail
      go_meet
      case rel => exact VN.out.cut (by rw [HE.out]; rfl) DN.out
    | false =>
      have HE := Lib.hid (nf_no (by rw [hh]; decide) (o : Nat) : nf b 8 (o : Nat) = [])
      go_wp2_with fail
      go_meet
      case rel => exact V6.out.cut (by rw [HE.out, List.append_nil]) D6.out
  case' rest => obtain ⟨v7, hvn, hdn⟩ := hcut; have V7 := Lib.hid hvn; have D7 := Lib.hid hdn; clear x0 x1 x2 x3 x4 x5 x6 x7 x8 xl; clear hvn hdn V6 D6 F8
  obtain ⟨x0, x1, x2, x3, x4, x5, x6, x7, x8, xl⟩ : _ ∧ _ ∧ _ ∧ _ ∧ _ ∧ _ ∧ _ ∧ _ ∧ _ ∧ _ := (fun q : QB _ gr gl id op t k v o n p s b => ⟨q.c0, q.c1, q.c2, q.c3, q.c4, q.c5, q.c6, q.c7, q.c8, q.cl⟩) (HP.out.below D7.out h1 h2)
  go_upto_if 47 with (fail)
  go_cut [] from 4 (fun wx => ∃ v', Wr base wx 120 g v' ([81, op] ++ Uv.uv id ++ tf b 1 t ++ tf b 2 k ++ tf b 4 v ++ nf b 8 (o : Nat) ++ nf b 16 (n : Nat)) ∧ Below base w wx)
  case first =>
    cases hh : hasb b 16 with
    | true =>
      have HE := Lib.hid (nf_yes hh (n : Nat))
      go_wp2_with fail
      refine (uvarint_w base g v7 ([81, op] ++ Uv.uv id ++ tf b 1 t ++ tf b 2 k ++ tf b 4 v ++ nf b 8 (o : Nat)) n _ V7.out S16.out (by have := L0.out; have := L1.out; have := L2.out; have := L4.out; have := L8.out; have := S16.out; simp only [List.length_append, List.length_cons, List.length_nil]; omega) (Nat.le_trans HB.out D7.out.size)).mono ?_
      intro e wn hw
      obtain ⟨vn, rfl, h, bb⟩ := hw.to' V7.out
      have VN := Lib.hid h
      have DN := Lib.hid (D7.out.trans bb)
      clear hw h bb
      go_wp2_with fail
      go_meet
      case rel => exact VN.out.cut (by rw [HE.out]; rfl) DN.out
    | false =>
      have HE := Lib.hid (nf_no (by rw [hh]; decide) (n : Nat) : nf b 16 (n : Nat) = [])
      go_wp2_with fail
      go_meet
      case rel => exact V7.out.cut (by rw [HE.out, List.append_nil]) D7.out
  case' rest => obtain ⟨v8, hvn, hdn⟩ := hcut; have V8 := Lib.hid hvn; have D8 := Lib.hid hdn; clear x0 x1 x2 x3 x4 x5 x6 x7 x8 xl; clear hvn hdn V7 D7 F16
  obtain ⟨x0, x1, x2, x3, x4, x5, x6, x7, x8, xl⟩ : _ ∧ _ ∧ _ ∧ _ ∧ _ ∧ _ ∧ _ ∧ _ ∧ _ ∧ _ := (fun q : QB _ gr gl id op t k v o n p s b => ⟨q.c0, q.c1, q.c2, q.c3, q.c4, q.c5, q.c6, q.c7, q.c8, q.cl⟩) (HP.out.below D8.out h1 h2)
  go_upto_if 55 with (fail)
  go_cut [] from 4 (fun wx => ∃ v', Wr base wx 120 g v' ([81, op] ++ Uv.uv id ++ tf b 1 t ++ tf b 2 k ++ tf b 4 v ++ nf b 8 (o : Nat) ++ nf b 16 (n : Nat) ++ nf b 32 (p : Nat)) ∧ Below base w wx)
  case first =>
    cases hh : hasb b 32 with
    | true =>
      have HE := Lib.hid (nf_yes hh (p : Nat))
      go_wp2_with fail
      refine (uvarint_w base g v8 ([81, op] ++ Uv.uv id ++ tf b 1 t ++ tf b 2 k ++ tf b 4 v ++ nf b 8 (o : Nat) ++ nf b 16 (n : Nat)) p _ V8.out S32.out (by have := L0.out; have := L1.out; have := L2.out; have := L4.out; have := L8.out; have := L16.out; have := S32.out; simp only [List.length_append, List.length_cons, List.length_nil]; omega) (Nat.le_trans HB.out D8.out.size)).mono ?_
      intro e wn hw
      obtain ⟨vn, rfl, h, bb⟩ := hw.to' V8.out
      have VN := Lib.hid h
      have DN := Lib.hid (D8.out.trans bb)
      clear hw h bb
      go_wp2_with fail
      go_meet
      case rel => exact VN.out.cut (by rw [HE.out]; rfl) DN.out
    | false =>
      have HE := Lib.hid (nf_no (by rw [hh]; decide) (p : Nat) : nf b 32 (p : Nat) = [])
      go_wp2_with fail
      go_meet
      case rel => exact V8.out.cut (by rw [HE.out, List.append_nil]) D8.out
  case' rest => obtain ⟨v9, hvn, hdn⟩ := hcut; have V9 := Lib.hid hvn; have D9 := Lib.hid hdn; clear x0 x1 x2 x3 x4 x5 x6 x7 x8 xl; clear hvn hdn V8 D8 F32
  obtain ⟨x0, x1, x2, x3, x4, x5, x6, x7, x8, xl⟩ : _ ∧ _ ∧ _ ∧ _ ∧ _ ∧ _ ∧ _ ∧ _ ∧ _ ∧ _ := (fun q : QB _ gr gl id op t k v o n p s b => ⟨q.c0, q.c1, q.c2, q.c3, q.c4, q.c5, q.c6, q.c7, q.c8, q.cl⟩) (HP.out.below D9.out h1 h2)
  go_upto_if 63 with (fail)
  cases hh : hasb b 64 with
  | true =>
    have HE := Lib.hid (nf_yes hh (s : Nat))
    go_wp2_with fail
    refine (uvarint_w base g v9 ([81, op] ++ Uv.uv id ++ tf b 1 t ++ tf b 2 k ++ tf b 4 v ++ nf b 8 (o : Nat) ++ nf b 16 (n : Nat) ++ nf b 32 (p : Nat)) s _ V9.out S64.out (by have := L0.out; have := L1.out; have := L2.out; have := L4.out; have := L8.out; have := L16.out; have := L32.out; have := S64.out; simp only [List.length_append, List.length_cons, List.length_nil]; omega) (Nat.le_trans HB.out D9.out.size)).mono ?_
    intro e wn hw
    obtain ⟨vn, rfl, h, bb⟩ := hw.to' V9.out
    have VN := Lib.hid h
    have DN := Lib.hid (D9.out.trans bb)
    clear hw h bb
    go_wp2_with fail
    go_end0
    exact ⟨rfl, VN.out.cut (by rw [HQ.out, HE.out]; rfl) (Below.refl _ _) |>.imp fun _ h => h.1, DN.out⟩
  | false =>
    have HE := Lib.hid (nf_no (by rw [hh]; decide) (s : Nat) : nf b 64 (s : Nat) = [])
    go_wp2_with fail
    go_end0
    exact ⟨rfl, V9.out.cut (by rw [HQ.out, HE.out, List.append_nil]) (Below.refl _ _) |>.imp fun _ h => h.1, D9.out⟩

set_option maxHeartbeats 4000000 in
set_option maxRecDepth 100000 in
theorem framedq_is (gr gl id op : Nat) (t k v : ByteArray) (o n p s : Nat) (w : World) (hp : QB w gr gl id op t k v o n p s (useB op)) (hm : MayQ ⟨id, op, t, k, v, o, n, p, s⟩) (hk : Rq.Ok ⟨id, op, t, k, v, o, n, p, s⟩) :
    Calls Tryd.prog 27 #[.func (.func 28) #[] #[.pointer (some ⟨gr, 0, none⟩), .pointer (some ⟨gl, 0, none⟩)]] w (FramePost w (wrap 197 (bdyq ⟨id, op, t, k, v, o, n, p, s⟩), 0)) := by
  have HY := Lib.hid (bdyq_by hm)
  have hlen := bdyq_len hm hk
  have HP := Lib.hid hp
  have hl1 := hp.lt1
  have hl2 := hp.lt2
  have e1 := hm.op
  have e2 := (gdT_le hm.t).1
  have e3 := (gdT_le hm.k).1
  have e4 := (gdT_le hm.v).1
  obtain ⟨a1, _, _, _, _, a6, a7, a8, a9⟩ := hk
  unfold r64 at a6 a7 a8 a9
  simp only at a1 a6 a7 a8 a9 e1
  have PC := Lib.hid (fun g W (h : Wr w.heap.size W 120 g (.slice none 0 0) []) (hb : w.heap.size ≤ W.heap.size) (hq : QB W gr gl id op t k v o n p s (useB op)) => closq_is w.heap.size g gr gl id op t k v o n p s W h hb hq hl1 hl2 a1 (by omega) e2 e3 e4 (by omega) (by omega) (by omega) (by omega))
  obtain ⟨X, hX⟩ : ∃ X, X = bdyq ⟨id, op, t, k, v, o, n, p, s⟩ := ⟨_, rfl⟩
  rw [← hX] at PC HY hlen ⊢
  have HF : Hid (frm X = (wrap 197 X, 0)) := Lib.hid (by unfold frm; rw [if_neg (by omega), if_neg (by omega)])
  have HL := Lib.hid hlen
  clear hp hm e1 e2 e3 e4 a1 a6 a7 a8 a9 hX hlen
  go_enter Tryd.func27, Tryd.ntmps27
  go_wp2_with fail
  refine (new_is w).mono ?_
  rintro e w1 ⟨rfl, hw1⟩
  have V1 : Hid (Wr w.heap.size w1 120 w.heap.size (.slice none 0 0) []) := Lib.hid (by rw [hw1]; exact new_wr w.heap.size w (Nat.le_refl _))
  have B1 : Hid (Below w.heap.size w w1) := Lib.hid (by rw [hw1]; exact (Below.refl _ _).alloc (Nat.le_refl _) _)
  have HP1 := Lib.hid (HP.out.below B1.out hl1 hl2)
  clear hw1
  go_wp2_with fail
  refine (PC.out _ w1 V1.out B1.out.size HP1.out).mono ?_
  rintro e w2 ⟨rfl, ⟨v2, hv2⟩, hb2⟩
  have V2 := Lib.hid hv2
  have B2 := Lib.hid (B1.out.trans hb2)
  clear hv2 hb2 PC
  go_wp2_with fail
  refine (bytes_w w.heap.size w.heap.size v2 _ w2 V2.out (by have := HL.out; omega)).mono ?_
  rintro e w3 ⟨A3, c3, rfl, ho3, hb3⟩
  have HO3 := Lib.hid ho3
  have B3 := Lib.hid (B2.out.trans (hb3.mono B2.out.size))
  clear ho3 hb3
  have PF := frame_is A3 X.length c3 X w3 (rd_own HO3.out) rfl HY.out (by have := HL.out; omega)
  rw [HF.out] at PF
  have PFF := Lib.hid PF
  clear PF
  go_wp2_with fail
  refine PFF.out.mono ?_
  rintro e w4 ⟨A4, c4, rfl, ho4, hb4⟩
  have HO4 := Lib.hid ho4
  have B4 := Lib.hid (B3.out.trans (hb4.mono B3.out.size))
  have hs := B3.out.size
  clear ho4 hb4 PFF
  go_wp2_with fail
  go_ret2
  exact ⟨A4, c4, rfl, own_lower HO4.out hs, B4.out⟩
theorem framePost_eq {w : World} {q r : List Nat × Int} {e : Ending} {w' : World} (h : FramePost w q e w') (hq : q = r) : FramePost w r e w' := hq ▸ h
set_option maxHeartbeats 4000000 in
set_option maxRecDepth 100000 in
theorem encodeq_is (x : Rq) (w : World) (ht : Tab w) (hk : x.Ok) :
    Calls Tryd.prog 8 #[x.V] w (FramePost w (renq x)) := by
  have PC := Lib.hid (fun W (h : Tab W) => checkq_is x W h)
  by_cases hm : MayQ x
  · have HQ : Hid (renq x = (wrap 197 (bdyq x), 0)) := Lib.hid (if_pos (okq_may.2 hm))
    rw [chkq_yes hm] at PC
    obtain ⟨id, op, t, k, v, o, n, p, s⟩ := x
    have hop := hm.op
    obtain ⟨op, rfl⟩ : ∃ m : Nat, op = (m : Int) := ⟨op.toNat, by simp only at hop; omega⟩
    obtain ⟨o, rfl⟩ : ∃ m : Nat, o = (m : Int) := ⟨o.toNat, by have := (gdN_le hm.o).1; simp only at this; omega⟩
    obtain ⟨n, rfl⟩ : ∃ m : Nat, n = (m : Int) := ⟨n.toNat, by have := (gdN_le hm.n).1; simp only at this; omega⟩
    obtain ⟨p, rfl⟩ : ∃ m : Nat, p = (m : Int) := ⟨p.toNat, by have := (gdN_le hm.p).1; simp only at this; omega⟩
    obtain ⟨s, rfl⟩ : ∃ m : Nat, s = (m : Int) := ⟨s.toNat, by have := (gdN_le hm.s).1; simp only at this; omega⟩
    have PF := Lib.hid (fun gr gl W (h : QB W gr gl id op t k v o n p s (useB op)) => framedq_is gr gl id op t k v o n p s W h hm hk)
    rw [HQ.out]
    have HT := Lib.hid ht
    simp only at hop
    have h16 : op < 16 := by omega
    have i0 : (0 : Int) ≤ (op : Int) := by omega
    have i16 : (op : Int) < 16 := by omega
    unfold Rq.V at PC ⊢
    simp only at PC ⊢
    obtain ⟨X, hX⟩ : ∃ X, X = (wrap 197 (bdyq ⟨id, op, t, k, v, o, n, p, s⟩), (0 : Int)) := ⟨_, rfl⟩
    rw [← hX] at PF ⊢
    have hX2 : X.2 = 0 := by rw [hX]
    unfold FramePost at PF ⊢
    rw [hX2] at PF ⊢
    obtain ⟨b, hbb⟩ : ∃ b, b = useB op := ⟨_, rfl⟩
    rw [← hbb] at PF
    have HC : Hid (∀ W, Tab W → W.cell? ⟨0, op, none⟩ = some (.int .i64 (b : Int))) := Lib.hid (fun W h => by rw [hbb]; exact h.c op h16)
    clear hX hX2 hm hk HQ ht hop h16 hbb
    have HBX := Lib.hid (show QBox _ w.heap.size ⟨id, op, t, k, v, o, n, p, s⟩ from heap_alloc_new w _)
    have HB0 := Lib.hid ((Below.refl w.heap.size w).alloc (Nat.le_refl _) (.cells #[.int .u32 (id : Int), .int .i64 (op : Int), .string t, .string k, .string v, .int .i64 (o : Int), .int .i64 (n : Int), .int .i64 (p : Int), .int .i64 (s : Int)] 24))
    go_enter Tryd.func8, Tryd.ntmps8
    go_wp2_with fail
    refine (PC.out _ (HT.out.bel HB0.out)).mono ?_
    rintro e w1 ⟨rfl, hb1⟩
    have HBX1 := Lib.hid (HBX.out.below hb1 (by simp))
    have HB1 := Lib.hid (HB0.out.trans (hb1.mono (by simp)))
    have hg : w.heap.size < w1.heap.size := HBX1.out.lt
    clear hb1 HBX HB0 PC
    have hc := HC.out w1 (HT.out.bel HB1.out)
    obtain ⟨y0, y1, y2, y3, y4, y5, y6, y7, y8⟩ := HBX1.out.facts
    go_wp2_with fail
    clear y0 y1 y2 y3 y4 y5 y6 y7 y8 hc
    have HBA := Lib.hid ((Below.refl w1.heap.size w1).alloc (Nat.le_refl _) (.cells #[.int .i64 (b : Int)] 3))
    obtain ⟨y0, y1, y2, y3, y4, y5, y6, y7, y8⟩ := (HBX1.out.below HBA.out hg).facts
    refine (PF.out w.heap.size w1.heap.size _ ⟨by simp; omega, by simp, y0, y1, y2, y3, y4, y5, y6, y7, y8, by simp⟩).mono ?_
    rintro e w2 ⟨A2, c2, rfl, ho2, hb2⟩
    have HO2 := Lib.hid (own_lower ho2 (show w.heap.size ≤ _ by simp; omega))
    have HB2 := Lib.hid ((HB1.out.trans (HBA.out.mono (Nat.le_of_lt hg))).trans (hb2.mono (by simp; omega)))
    clear ho2 hb2 y0 y1 y2 y3 y4 y5 y6 y7 y8
    go_wp2_with fail
    go_ret2
    exact ⟨A2, c2, rfl, HO2.out, HB2.out⟩
  · have HQ : Hid (renq x = ([], 161)) := Lib.hid (if_neg (fun e => hm (okq_may.1 e)))
    rw [chkq_no hm] at PC
    rw [HQ.out]
    have HT := Lib.hid ht
    obtain ⟨id, op, t, k, v, o, n, p, s⟩ := x
    unfold Rq.V at PC ⊢
    simp only at PC ⊢
    clear hm hk HQ ht
    have HB0 := Lib.hid ((Below.refl w.heap.size w).alloc (Nat.le_refl _) (.cells #[.int .u32 (id : Int), .int .i64 op, .string t, .string k, .string v, .int .i64 o, .int .i64 n, .int .i64 p, .int .i64 s] 24))
    go_enter Tryd.func8, Tryd.ntmps8
    go_wp2_with fail
    refine (PC.out _ (HT.out.bel HB0.out)).mono ?_
    rintro e w1 ⟨rfl, hb1⟩
    have HB1 := Lib.hid (HB0.out.trans (hb1.mono (by simp)))
    clear hb1
    go_wp2_with fail
    go_ret2
    exact ⟨none, 0, rfl, World.ownsRow_nil _ _ _ _, HB1.out⟩
end Go.Proofs.YtljfmcgeiceagaaDoor

/- Reading a request's body: what is carried; wire.reader's id and number. -/
namespace Go.Proofs.YtljfmcgeiceagaaDoor
open Go Go.RowKit
set_option linter.unusedVariables false
set_option linter.unusedSimpArgs false

theorem q63_hi {s : Rs} (h : 9223372036854775808 ≤ s.num.1) : q63 s = (sg s.num.1, s.num.2.fail 4) := by unfold q63; rw [if_pos h]
theorem q63_lo {s : Rs} (h : ¬ 9223372036854775808 ≤ s.num.1) : q63 s = (sg s.num.1, s.num.2) := by unfold q63; rw [if_neg h]
theorem q32_hi {s : Rs} (h : 4294967296 ≤ s.num.1) : q32 s = (s.num.1 % 4294967296, s.num.2.fail 4) := by unfold q32; rw [if_pos h]
theorem q32_lo {s : Rs} (h : ¬ 4294967296 ≤ s.num.1) : q32 s = (s.num.1 % 4294967296, s.num.2) := by unfold q32; rw [if_neg h]
theorem Turned.behind {base g : Nat} {w w1 w2 : World} {T : TypeId} {cf : Rs → Value → Array Value} {v : Value} {s : Rs} (hb : Below w.heap.size w w1) (ht : Turned base w1 T cf g v s w2) : Turned base w T cf g v s w2 :=
  ⟨ht.rd, (KeptS.of_below hb _).trans ht.kept (fun q hq => .inl hq)⟩
set_option maxRecDepth 100000 in
theorem number16_is (base g : Nat) (v : Value) (s : Rs) (w : World) (h : Rdr base w 104 Rs.cells g v s) :
    Calls Tryd.prog 44 #[.agg #[.pointer (some ⟨g, 0, none⟩)]] w (Gave base w 104 Rs.cells g v (.int .i64 (q63 s).1) (q63 s).2) := by
  have HA := Lib.hid ((Below.refl w.heap.size w).alloc (Nat.le_refl _) (.cells #[.pointer (some ⟨g, 0, none⟩)] 70))
  have P1 := Lib.hid (uv_r base g v s _ (h.below HA.out))
  have hz := h.ok.num.2.1
  have HG := Lib.hid h.lt
  have HW : Hid (wrap64 (s.num.1 : Int) = sg s.num.1) := Lib.hid (wrap64_sg hz)
  by_cases hb : 9223372036854775808 ≤ s.num.1
  · rw [q63_hi hb]
    have PF := Lib.hid (fun W (h : Rdr base W 104 Rs.cells g v s.num.2) => fail_is base g v s.num.2 4 W h (by omega))
    obtain ⟨z, hzz⟩ : ∃ z, z = s.num.1 := ⟨_, rfl⟩
    obtain ⟨s2, hs2⟩ : ∃ s2, s2 = s.num.2 := ⟨_, rfl⟩
    rw [← hzz, ← hs2] at P1
    rw [← hs2] at PF ⊢
    rw [← hzz] at HW hb hz ⊢
    unfold Gave at P1 ⊢
    unfold Step0 at PF
    clear hzz hs2 h
    have hb2 : decide ((9223372036854775808 : Int) ≤ (z : Int)) = true := by rw [decide_eq_true_eq]; omega
    clear hb hz
    obtain ⟨u, hu⟩ : ∃ u, u = sg z := ⟨_, rfl⟩
    rw [← hu] at HW ⊢
    go_enter Tryd.func44, Tryd.ntmps44
    go_wp2_with fail
    refine P1.out.mono ?_
    rintro e w1 ⟨rfl, ht1⟩
    have HT1 := Lib.hid ht1
    have HC : Hid (w1.heap[w.heap.size]? = some (.cells #[.pointer (some ⟨g, 0, none⟩)] 70 (0, 0))) := Lib.hid ((ht1.kept.block w.heap.size (by simp) (fun e => by have := HG.out; omega)).trans (heap_alloc_new w _))
    have hc := cell_of_row w1 w.heap.size 0 _ _ _ HC.out
    clear ht1
    go_wp2_with fail
    refine (PF.out w1 HT1.out.rd).mono ?_
    rintro e w2 ⟨rfl, ht2⟩
    have HT2 := Lib.hid (Turned.behind HA.out (HT1.out.then ht2))
    clear ht2
    go_wp2_with fail
    go_ret
    exact ⟨ret_i HW.out, HT2.out⟩
  · rw [q63_lo hb]
    obtain ⟨z, hzz⟩ : ∃ z, z = s.num.1 := ⟨_, rfl⟩
    obtain ⟨s2, hs2⟩ : ∃ s2, s2 = s.num.2 := ⟨_, rfl⟩
    rw [← hzz, ← hs2] at P1
    rw [← hs2]
    rw [← hzz] at HW hb hz ⊢
    unfold Gave at P1 ⊢
    clear hzz hs2 h
    have hb2 : decide ((9223372036854775808 : Int) ≤ (z : Int)) = false := by rw [decide_eq_false_iff_not]; omega
    clear hb hz
    obtain ⟨u, hu⟩ : ∃ u, u = sg z := ⟨_, rfl⟩
    rw [← hu] at HW ⊢
    go_enter Tryd.func44, Tryd.ntmps44
    go_wp2_with fail
    refine P1.out.mono ?_
    rintro e w1 ⟨rfl, ht1⟩
    have HT1 := Lib.hid (Turned.behind HA.out ht1)
    clear ht1
    go_wp2_with fail
    go_ret
    exact ⟨ret_i HW.out, HT1.out⟩
theorem ret_u {k : IntKind} {a b : Int} (h : a = b) : Ending.returned (.int k a) = .returned (.int k b) := by rw [h]
set_option maxRecDepth 100000 in
theorem id16_is (base g : Nat) (v : Value) (s : Rs) (w : World) (h : Rdr base w 104 Rs.cells g v s) :
    Calls Tryd.prog 42 #[.agg #[.pointer (some ⟨g, 0, none⟩)]] w (Gave base w 104 Rs.cells g v (.int .u32 ((q32 s).1 : Nat)) (q32 s).2) := by
  have HA := Lib.hid ((Below.refl w.heap.size w).alloc (Nat.le_refl _) (.cells #[.pointer (some ⟨g, 0, none⟩)] 70))
  have P1 := Lib.hid (uv_r base g v s _ (h.below HA.out))
  have hz := h.ok.num.2.1
  have HG := Lib.hid h.lt
  have HW : Hid (IntKind.u32.wrap (s.num.1 : Int) = ((s.num.1 % 4294967296 : Nat) : Int)) := Lib.hid (by rw [IntKind.wrap_u32]; omega)
  by_cases hb : 4294967296 ≤ s.num.1
  · rw [q32_hi hb]
    have PF := Lib.hid (fun W (h : Rdr base W 104 Rs.cells g v s.num.2) => fail_is base g v s.num.2 4 W h (by omega))
    obtain ⟨z, hzz⟩ : ∃ z, z = s.num.1 := ⟨_, rfl⟩
    obtain ⟨s2, hs2⟩ : ∃ s2, s2 = s.num.2 := ⟨_, rfl⟩
    rw [← hzz, ← hs2] at P1
    rw [← hs2] at PF ⊢
    rw [← hzz] at HW hb hz ⊢
    unfold Gave at P1 ⊢
    unfold Step0 at PF
    clear hzz hs2 h
    have hb2 : decide ((4294967295 : Int) < (z : Int)) = true := by rw [decide_eq_true_eq]; omega
    clear hb hz
    obtain ⟨u, hu⟩ : ∃ u, u = z % 4294967296 := ⟨_, rfl⟩
    rw [← hu] at HW ⊢
    clear hu
    go_enter Tryd.func42, Tryd.ntmps42
    go_wp2_with fail
    refine P1.out.mono ?_
    rintro e w1 ⟨rfl, ht1⟩
    have HT1 := Lib.hid ht1
    have HC : Hid (w1.heap[w.heap.size]? = some (.cells #[.pointer (some ⟨g, 0, none⟩)] 70 (0, 0))) := Lib.hid ((ht1.kept.block w.heap.size (by simp) (fun e => by have := HG.out; omega)).trans (heap_alloc_new w _))
    have hc := cell_of_row w1 w.heap.size 0 _ _ _ HC.out
    clear ht1
    go_wp2_with fail
    refine (PF.out w1 HT1.out.rd).mono ?_
    rintro e w2 ⟨rfl, ht2⟩
    have HT2 := Lib.hid (Turned.behind HA.out (HT1.out.then ht2))
    clear ht2
    go_wp2_with fail
    go_ret
    exact ⟨ret_u HW.out, HT2.out⟩
  · rw [q32_lo hb]
    obtain ⟨z, hzz⟩ : ∃ z, z = s.num.1 := ⟨_, rfl⟩
    obtain ⟨s2, hs2⟩ : ∃ s2, s2 = s.num.2 := ⟨_, rfl⟩
    rw [← hzz, ← hs2] at P1
    rw [← hs2]
    rw [← hzz] at HW hb hz ⊢
    unfold Gave at P1 ⊢
    clear hzz hs2 h
    have hb2 : decide ((4294967295 : Int) < (z : Int)) = false := by rw [decide_eq_false_iff_not]; omega
    clear hb hz
    obtain ⟨u, hu⟩ : ∃ u, u = z % 4294967296 := ⟨_, rfl⟩
    rw [← hu] at HW ⊢
    clear hu
    go_enter Tryd.func42, Tryd.ntmps42
    go_wp2_with fail
    refine P1.out.mono ?_
    rintro e w1 ⟨rfl, ht1⟩
    have HT1 := Lib.hid (Turned.behind HA.out ht1)
    clear ht1
    go_wp2_with fail
    go_ret
    exact ⟨ret_u HW.out, HT1.out⟩

/-- A reader, and the box that holds it. -/
structure RdI (w0 W : World) (g : Nat) (v : Value) (s : Rs) (gi : Nat) : Prop where
  rd : Rdr w0.heap.size W 104 Rs.cells g v s
  ci : W.heap[gi]? = some (.cells #[.pointer (some ⟨g, 0, none⟩)] 70 (0, 0))
  n1 : gi ≠ g
  nv : ∀ q, v.ownBlock = some q → q ≠ gi
  b0 : w0.heap.size ≤ gi
  be : Below w0.heap.size w0 W
section
variable {w0 W W' : World} {g : Nat} {v : Value} {s s' : Rs} {gi b : Nat} {x x' : Rq}
theorem RdI.lt (h : RdI w0 W g v s gi) : gi < W.heap.size := lt_of_block h.ci
theorem RdI.cell (h : RdI w0 W g v s gi) : W.cell? ⟨gi, 0, none⟩ = some (.pointer (some ⟨g, 0, none⟩)) := cell_of_row W gi 0 _ _ _ h.ci
theorem RdI.new (h : Rdr w0.heap.size W 104 Rs.cells g v s) (hb : Below w0.heap.size w0 W) : RdI w0 (W.alloc (.cells #[.pointer (some ⟨g, 0, none⟩)] 70)) g v s W.heap.size :=
  ⟨h.below ((Below.refl _ _).alloc (Nat.le_refl _) _), heap_alloc_new W _, fun e => by have := h.lt; omega, fun q hq e => by have := (h.own.lt q hq).2; omega, hb.size, hb.alloc hb.size _⟩
theorem RdI.turn (h : RdI w0 W g v s gi) (ht : Turned w0.heap.size W 104 Rs.cells g v s' W') : RdI w0 W' g v s' gi :=
  ⟨ht.rd, (ht.kept.block gi h.lt h.n1).trans h.ci, h.n1, h.nv, h.b0, h.be.trans (ht.low h.be.size)⟩
theorem RdI.below (h : RdI w0 W g v s gi) (hb : Below W.heap.size W W') : RdI w0 W' g v s gi :=
  ⟨h.rd.below hb, (hb.block gi h.lt).trans h.ci, h.n1, h.nv, h.b0, h.be.trans (hb.mono h.be.size)⟩
/-- .. and a request's box beside it. -/
structure RdQ (w0 W : World) (g : Nat) (v : Value) (s : Rs) (gi b : Nat) (x : Rq) : Prop where
  ri : RdI w0 W g v s gi
  bx : QBox W b x
  bb : w0.heap.size ≤ b
  ng : b ≠ g
  ni : b ≠ gi
  nv : ∀ q, v.ownBlock = some q → q ≠ b
theorem RdQ.new (h : RdI w0 W g v s gi) (x : Rq) : RdQ w0 (W.alloc (.cells #[.int .u32 (x.id : Int), .int .i64 x.op, .string x.t, .string x.k, .string x.v, .int .i64 x.o, .int .i64 x.n, .int .i64 x.p, .int .i64 x.s] 24)) g v s gi W.heap.size x :=
  ⟨h.below ((Below.refl _ _).alloc (Nat.le_refl _) _), heap_alloc_new W _, h.be.size, fun e => by have := h.rd.lt; omega, fun e => by have := h.lt; omega, fun q hq e => by have := (h.rd.own.lt q hq).2; omega⟩
theorem RdQ.turn (h : RdQ w0 W g v s gi b x) (ht : Turned w0.heap.size W 104 Rs.cells g v s' W') : RdQ w0 W' g v s' gi b x :=
  ⟨h.ri.turn ht, (ht.kept.block b h.bx.lt h.ng).trans h.bx, h.bb, h.ng, h.ni, h.nv⟩
theorem RdQ.below (h : RdQ w0 W g v s gi b x) (hb : Below W.heap.size W W') : RdQ w0 W' g v s gi b x :=
  ⟨h.ri.below hb, h.bx.below hb h.bx.lt, h.bb, h.ng, h.ni, h.nv⟩
theorem QBox.put {j : Nat} {u : Value} (h : QBox W b x) (hx : (#[.int .u32 (x.id : Int), .int .i64 x.op, .string x.t, .string x.k, .string x.v, .int .i64 x.o, .int .i64 x.n, .int .i64 x.p, .int .i64 x.s] : Array Value).setIfInBounds j u = #[.int .u32 (x'.id : Int), .int .i64 x'.op, .string x'.t, .string x'.k, .string x'.v, .int .i64 x'.o, .int .i64 x'.n, .int .i64 x'.p, .int .i64 x'.s]) : QBox (W.setCell ⟨b, j, none⟩ u) b x' := by
  have := set1 (j := j) (u := u) h
  rw [hx] at this
  exact this
theorem RdQ.put {j : Nat} {u : Value} (h : RdQ w0 W g v s gi b x) (x' : Rq) (hx : (#[.int .u32 (x.id : Int), .int .i64 x.op, .string x.t, .string x.k, .string x.v, .int .i64 x.o, .int .i64 x.n, .int .i64 x.p, .int .i64 x.s] : Array Value).setIfInBounds j u = #[.int .u32 (x'.id : Int), .int .i64 x'.op, .string x'.t, .string x'.k, .string x'.v, .int .i64 x'.o, .int .i64 x'.n, .int .i64 x'.p, .int .i64 x'.s] := by rfl) : RdQ w0 (W.setCell ⟨b, j, none⟩ u) g v s gi b x' :=
  ⟨⟨h.ri.rd.keptS (kept1_set W b j u) (fun e => h.ng e.symm) (fun q hq e => h.nv q hq e), ((kept1_set W b j u).block gi h.ri.lt (fun e => h.ni e.symm)).trans h.ri.ci, h.ri.n1, h.ri.nv, h.ri.b0, h.ri.be.setCell h.bb _⟩, h.bx.put hx, h.bb, h.ng, h.ni, h.nv⟩
end
/-- A request stored into block r. -/
abbrev W9 (W : World) (r : Nat) (x : Rq) : World := ((((((((W.setCell ⟨r, 0, none⟩ (.int .u32 (x.id : Int))).setCell ⟨r, 1, none⟩ (.int .i64 x.op)).setCell ⟨r, 2, none⟩ (.string x.t)).setCell ⟨r, 3, none⟩ (.string x.k)).setCell ⟨r, 4, none⟩ (.string x.v)).setCell ⟨r, 5, none⟩ (.int .i64 x.o)).setCell ⟨r, 6, none⟩ (.int .i64 x.n)).setCell ⟨r, 7, none⟩ (.int .i64 x.p)).setCell ⟨r, 8, none⟩ (.int .i64 x.s)
theorem below_w9 {w W : World} {r : Nat} (x : Rq) (h : Below w.heap.size w W) (hr : w.heap.size ≤ r) : Below w.heap.size w (W9 W r x) :=
  ((((((((h.setCell hr _).setCell hr _).setCell hr _).setCell hr _).setCell hr _).setCell hr _).setCell hr _).setCell hr _).setCell hr _
def DecQ (w : World) (q : Rq × Int) (e : Ending) (w' : World) : Prop := e = .returned (.tuple #[q.1.V, .int .i64 q.2]) ∧ Below w.heap.size w w'
end Go.Proofs.YtljfmcgeiceagaaDoor

/- wire.DecodeRequest (printed by gen_rqdec.py). -/
namespace Go.Proofs.YtljfmcgeiceagaaDoor
open Go Go.RowKit
set_option linter.unusedVariables false
set_option linter.unusedSimpArgs false

set_option maxHeartbeats 4000000 in
set_option maxRecDepth 100000 in
theorem decodeq_noBody (A : Option Addr) (n c : Nat) (b : List Nat) (w : World) (hr : Rd w A (b8 b)) (hn : b.length = n) (hnc : n ≤ c) (hby : By b) (hl : n ≤ 140737488355328) (h : (bd b).2 ≠ 0) :
    Calls Tryd.prog 12 #[.slice A n c] w (DecQ w (decq b)) := by
  have HD : Hid (decq b = (rq0, 160)) := Lib.hid (by unfold decq; rw [if_pos h])
  have HB0 := Lib.hid ((Below.refl w.heap.size w).alloc (Nat.le_refl _) (.cells #[.int .u32 0, .int .i64 0, .string ⟨#[]⟩, .string ⟨#[]⟩, .string ⟨#[]⟩, .int .i64 0, .int .i64 0, .int .i64 0, .int .i64 0] 24))
  have PB := Lib.hid (body_is A n c b _ (hr.below HB0.out) hn hnc hby hl)
  have HZ0 : Hid (QBox (w.alloc (.cells #[.int .u32 0, .int .i64 0, .string ⟨#[]⟩, .string ⟨#[]⟩, .string ⟨#[]⟩, .int .i64 0, .int .i64 0, .int .i64 0, .int .i64 0] 24)) w.heap.size rq0) := Lib.hid (heap_alloc_new w _)
  obtain ⟨⟨bs, x⟩, hx⟩ : ∃ p, p = bd b := ⟨_, rfl⟩
  rw [← hx] at PB h
  simp only at h
  have hxb : (x != 0) = true := by rw [bne_iff_ne]; exact h
  unfold FramePost at PB
  simp only at PB
  unfold DecQ
  clear hr hn hnc hby hl hx h
  go_enter Tryd.func12, Tryd.ntmps12
  go_wp2_with fail
  refine PB.out.mono ?_
  rintro e w1 ⟨A1, c1, rfl, ho1, hb1⟩
  have HZ := HZ0.out.below hb1 (by simp)
  have HB1 := Lib.hid (HB0.out.trans (hb1.mono (by simp)))
  clear ho1 hb1
  obtain ⟨z0, z1, z2, z3, z4, z5, z6, z7, z8⟩ := HZ.facts
  obtain ⟨r0, r1, r2, r3, r4, r5, r6, r7, r8⟩ := HZ.free
  simp only [rq0] at z0 z1 z2 z3 z4 z5 z6 z7 z8
  go_wp2_with fail
  refine bodyPost_ret (v := .tuple #[.agg #[.int .u32 0, .int .i64 0, .string ⟨#[]⟩, .string ⟨#[]⟩, .string ⟨#[]⟩, .int .i64 0, .int .i64 0, .int .i64 0, .int .i64 0], .int .i64 160]) (by simp [results, Tryd.results12, go_sem, z0, z1, z2, z3, z4, z5, z6, z7, z8]) rfl ⟨by rw [HD.out]; rfl, ?_⟩
  exact below_w9 rq0 (HB1.out) (Nat.le_refl _)
set_option maxHeartbeats 8000000 in
set_option maxRecDepth 100000 in
theorem decodeq_body (A : Option Addr) (n c : Nat) (b : List Nat) (w : World) (hr : Rd w A (b8 b)) (hn : b.length = n) (hnc : n ≤ c) (hby : By b) (hl : n ≤ 140737488351232) (ht : Tab w) (h : (bd b).2 = 0) :
    Calls Tryd.prog 12 #[.slice A n c] w (DecQ w (decq b)) := by
  have HB0 := Lib.hid ((Below.refl w.heap.size w).alloc (Nat.le_refl _) (.cells #[.int .u32 0, .int .i64 0, .string ⟨#[]⟩, .string ⟨#[]⟩, .string ⟨#[]⟩, .int .i64 0, .int .i64 0, .int .i64 0, .int .i64 0] 24))
  have PB := Lib.hid (body_is A n c b _ (hr.below HB0.out) hn hnc hby (by omega))
  have HZ0 : Hid (QBox (w.alloc (.cells #[.int .u32 0, .int .i64 0, .string ⟨#[]⟩, .string ⟨#[]⟩, .string ⟨#[]⟩, .int .i64 0, .int .i64 0, .int .i64 0, .int .i64 0] 24)) w.heap.size rq0) := Lib.hid (heap_alloc_new w _)
  obtain ⟨hw, h9, hdr⟩ := bd_wrapped hby h
  have HD : Hid (decq b = outq (prq (bd b).1)) := Lib.hid (by unfold decq; rw [if_neg (by simpa using h)])
  obtain ⟨⟨bs, x⟩, hx⟩ : ∃ p, p = bd b := ⟨_, rfl⟩
  rw [← hx] at PB h HD hdr
  simp only at h HD hdr
  subst h
  have hyb : By bs := by rw [hdr]; exact by_drop hby 9
  have hlb : bs.length ≤ 140737488351232 := by rw [hdr, List.length_drop]; omega
  unfold FramePost at PB
  simp only at PB
  have PN := Lib.hid (fun A c W (h : Rd W A (b8 bs)) => newReader_is A bs.length c bs W h rfl hyb hlb)
  unfold Newed at PN
  have ok0 := ok_new hyb hlb
  obtain ⟨⟨fl, s1⟩, hF⟩ : ∃ p, (⟨bs, 0, 0, 0⟩ : Rs).take 1 = p := ⟨_, rfl⟩
  have ok1 : s1.Ok := by have := ok0.take 1; rw [hF] at this; exact this
  have fby : By fl := by have := Rs.take_by ok0 1; rw [hF] at this; exact this
  obtain ⟨⟨ol, s2⟩, hO⟩ : ∃ p, s1.take 1 = p := ⟨_, rfl⟩
  have ok2 : s2.Ok := by have := ok1.take 1; rw [hO] at this; exact this
  have oby : By ol := by have := Rs.take_by ok1 1; rw [hO] at this; exact this
  have PB1 := Lib.hid (fun base g v W (h : Rdr base W 104 Rs.cells g v ⟨bs, 0, 0, 0⟩) => byte_r base g v ⟨bs, 0, 0, 0⟩ W h)
  rw [hF] at PB1
  have PB2 := Lib.hid (fun base g v W (h : Rdr base W 104 Rs.cells g v s1) => byte_r base g v s1 W h)
  rw [hO] at PB2
  unfold Gave at PB1 PB2
  simp only at PB1 PB2
  obtain ⟨f, hf⟩ : ∃ f, f = fl.headD 0 := ⟨_, rfl⟩
  obtain ⟨op, hop⟩ : ∃ f, f = ol.headD 0 := ⟨_, rfl⟩
  have hf8 : f < 256 := by rw [hf]; cases h1 : fl with | nil => simp | cons y r => exact fby y (by rw [h1]; simp)
  have hop8 : op < 256 := by rw [hop]; cases h1 : ol with | nil => simp | cons y r => exact oby y (by rw [h1]; simp)
  have HP : Hid (prq bs = prq1 f op s2) := Lib.hid (by unfold prq; rw [hF]; simp only; rw [hO, hf, hop])
  rw [← hf] at PB1
  rw [← hop] at PB2
  have hwo : IntKind.i64.wrap (op : Int) = (op : Int) := by rw [IntKind.wrap_i64]; omega
  have HT := Lib.hid ht
  clear hr hn hnc hby hl hx hw h9 hdr hyb hlb ok0 hF fby oby hO hf hop ht
  have HQ : Hid (∀ q, prq bs = q → decq b = outq q) := Lib.hid (fun q h => by rw [HD.out, h])
  clear HD
  obtain ⟨D, hD⟩ : ∃ D, D = decq b := ⟨_, rfl⟩
  rw [← hD] at HQ ⊢
  clear hD
  obtain ⟨P, hP⟩ : ∃ P, P = prq bs := ⟨_, rfl⟩
  rw [← hP] at HP HQ
  clear hP
  unfold DecQ
  have PI := Lib.hid (fun W => isOp_is (op : Int) W)
  go_enter Tryd.func12, Tryd.ntmps12
  go_wp2_with fail
  refine PB.out.mono ?_
  rintro e w1 ⟨A1, c1, rfl, ho1, hb1⟩
  have HZ := Lib.hid (HZ0.out.below hb1 (by simp))
  have HB1 := Lib.hid (HB0.out.trans (hb1.mono (by simp)))
  have HT1 := Lib.hid (HT.out.bel HB1.out)
  have HO1 := Lib.hid ho1
  have hgz := HZ.out.lt
  clear ho1 hb1 PB HZ0 HB0 HT
  go_wp2_with fail
  refine (PN.out A1 c1 w1 (rd_own HO1.out)).mono ?_
  rintro e w2 ⟨g, v, rfl, hr2, hb2⟩
  have H3 := Lib.hid (RdI.new hr2 hb2)
  clear hr2 hb2 PN HO1
  have x0 := H3.out.cell
  go_wp2_with fail
  refine (PB1.out _ g v _ H3.out.rd).mono ?_
  rintro e w4 ⟨rfl, ht4⟩
  have H4 := Lib.hid (H3.out.turn ht4)
  clear ht4 H3 PB1 x0
  have x0 := H4.out.cell
  go_wp2_with fail
  refine (PB2.out _ g v _ H4.out.rd).mono ?_
  rintro e w5 ⟨rfl, ht5⟩
  have H5 := Lib.hid (H4.out.turn ht5)
  clear ht5 H4 PB2 x0
  have H6 : Hid (RdQ w1 (w5.alloc (.cells #[.int .u32 0, .int .i64 (op : Int), .string ⟨#[]⟩, .string ⟨#[]⟩, .string ⟨#[]⟩, .int .i64 0, .int .i64 0, .int .i64 0, .int .i64 0] 24)) g v s2 w2.heap.size w5.heap.size ⟨0, op, ⟨#[]⟩, ⟨#[]⟩, ⟨#[]⟩, 0, 0, 0, 0⟩) := Lib.hid (RdQ.new H5.out ⟨0, op, ⟨#[]⟩, ⟨#[]⟩, ⟨#[]⟩, 0, 0, 0, 0⟩)
  clear H5
  by_cases hf81 : f = 81
  · have e1 : ((f : Int) != 81) = false := by rw [hf81]; rfl
    by_cases hop1 : 1 ≤ (op : Int) ∧ (op : Int) < 16
    · rw [decide_eq_true hop1] at PI
      have HP2 : Hid (P = if (prq2 (useB op) op s2).2.fin.1 ≠ 0 ∨ okq (prq2 (useB op) op s2).1 = false then none else some (prq2 (useB op) op s2).1) := Lib.hid (by rw [HP.out]; unfold prq1; rw [if_neg (by omega)])
      obtain ⟨F1, F2, F4, F8, F16, F32, F64⟩ := bitsq_ne (op := op) (by omega)
      have HC : Hid (∀ W, Tab W → W.cell? ⟨0, op, none⟩ = some (.int .i64 ((useB op : Nat) : Int))) := Lib.hid (fun W h => h.c op (by omega))
      have i0 : (0 : Int) ≤ (op : Int) := by omega
      have i16 : (op : Int) < 16 := by omega
      obtain ⟨bb, hbb⟩ : ∃ b, b = useB op := ⟨_, rfl⟩
      rw [← hbb] at HP2 F1 F2 F4 F8 F16 F32 F64 HC
      clear hf81 hop1 hop8 hf8 HP hbb

      obtain ⟨⟨ii, s3⟩, hI⟩ : ∃ a, q32 s2 = a := ⟨_, rfl⟩
      have ok3 : s3.Ok := by have := q32_ok ok2; rw [hI] at this; exact this
      obtain ⟨⟨yt, s4⟩, hEt⟩ : ∃ a, tr bb 1 24 s3 = a := ⟨_, rfl⟩
      have ok4 : s4.Ok := by have := (tr_ok (b := bb) (m := 1) (most := 24) ok3).1; rw [hEt] at this; exact this
      obtain ⟨⟨yk, s5⟩, hEk⟩ : ∃ a, tr bb 2 64 s4 = a := ⟨_, rfl⟩
      have ok5 : s5.Ok := by have := (tr_ok (b := bb) (m := 2) (most := 64) ok4).1; rw [hEk] at this; exact this
      obtain ⟨⟨yv, s6⟩, hEv⟩ : ∃ a, tr bb 4 1024 s5 = a := ⟨_, rfl⟩
      have ok6 : s6.Ok := by have := (tr_ok (b := bb) (m := 4) (most := 1024) ok5).1; rw [hEv] at this; exact this
      obtain ⟨⟨yo, s7⟩, hEo⟩ : ∃ a, nr bb 8 s6 = a := ⟨_, rfl⟩
      have ok7 : s7.Ok := by have := nr_ok (b := bb) (m := 8) ok6; rw [hEo] at this; exact this
      obtain ⟨⟨yn, s8⟩, hEn⟩ : ∃ a, nr bb 16 s7 = a := ⟨_, rfl⟩
      have ok8 : s8.Ok := by have := nr_ok (b := bb) (m := 16) ok7; rw [hEn] at this; exact this
      obtain ⟨⟨yp, s9⟩, hEp⟩ : ∃ a, nr bb 32 s8 = a := ⟨_, rfl⟩
      have ok9 : s9.Ok := by have := nr_ok (b := bb) (m := 32) ok8; rw [hEp] at this; exact this
      obtain ⟨⟨ys, s10⟩, hEs⟩ : ∃ a, nr bb 64 s9 = a := ⟨_, rfl⟩
      have ok10 : s10.Ok := by have := nr_ok (b := bb) (m := 64) ok9; rw [hEs] at this; exact this
      have HP3 : Hid (P = if s10.fin.1 ≠ 0 ∨ okq ⟨ii, op, strOf yt, strOf yk, strOf yv, yo, yn, yp, ys⟩ = false then none else some ⟨ii, op, strOf yt, strOf yk, strOf yv, yo, yn, yp, ys⟩) := Lib.hid (by rw [HP2.out]; unfold prq2; simp only [hI, hEt, hEk, hEv, hEo, hEn, hEp, hEs])
      clear HP2
      clear ok2 ok3 ok4 ok5 ok6 ok7 ok8 ok9
      obtain ⟨x0, x1, x2, x3, x4, x5, x6, x7, x8⟩ := H6.out.bx.facts
      simp only at x1
      go_wp2_with fail
      refine (PI.out _).mono ?_
      rintro e w7 ⟨rfl, rfl⟩
      have hc := HC.out _ (HT1.out.bel H6.out.ri.be)
      have xc := H6.out.ri.cell
      have PID := Lib.hid (fun W (h : Rdr w1.heap.size W 104 Rs.cells g v s2) => id16_is w1.heap.size g v s2 W h)
      rw [hI] at PID
      unfold Gave at PID
      simp only at PID
      go_wp2_with fail
      refine (PID.out _ H6.out.ri.rd).mono ?_
      rintro e w8 ⟨rfl, ht8⟩
      have H7 := Lib.hid (H6.out.turn ht8)
      clear ht8 H6 x0 x1 x2 x3 x4 x5 x6 x7 x8 hc PI HC i0 i16 xc PID
      obtain ⟨x0, x1, x2, x3, x4, x5, x6, x7, x8⟩ := H7.out.bx.facts
      obtain ⟨y_0, y_1, y_2, y_3, y_4, y_5, y_6, y_7, y_8⟩ := H7.out.bx.free
      simp only at x0 x1 x2 x3 x4 x5 x6 x7 x8
      have H8 := Lib.hid (H7.out.put (j := 0) (u := .int .u32 (ii : Int)) ⟨ii, op, ⟨#[]⟩, ⟨#[]⟩, ⟨#[]⟩, 0, 0, 0, 0⟩)
      go_upto_if 48 with (fail)
      clear x0 x1 x2 x3 x4 x5 x6 x7 x8 y_0 y_1 y_2 y_3 y_4 y_5 y_6 y_7 y_8
      clear H7
      go_cut [] from 10 (fun wx => RdQ w1 wx g v s4 w2.heap.size w5.heap.size ⟨ii, op, strOf yt, ⟨#[]⟩, ⟨#[]⟩, 0, 0, 0, 0⟩)
      case first =>
        cases hh : hasb bb 1 with
        | true =>
          rw [tr_yes hh] at hEt
          have PT := Lib.hid (fun W (h : Rdr w1.heap.size W 104 Rs.cells g v s3) => text_r w1.heap.size g v s3 24 W h (by omega))
          rw [hEt] at PT
          unfold Gave at PT
          simp only at PT
          have xc := H8.out.ri.cell
          go_wp2_with fail
          refine (PT.out _ H8.out.ri.rd).mono ?_
          rintro e wn ⟨rfl, htn⟩
          have HN1 := Lib.hid (H8.out.turn htn)
          clear htn PT xc
          obtain ⟨x0, x1, x2, x3, x4, x5, x6, x7, x8⟩ := HN1.out.bx.facts
          obtain ⟨y_0, y_1, y_2, y_3, y_4, y_5, y_6, y_7, y_8⟩ := HN1.out.bx.free
          simp only at x0 x1 x2 x3 x4 x5 x6 x7 x8
          have HN2 := Lib.hid (HN1.out.put (j := 2) (u := .string (strOf yt)) ⟨ii, op, strOf yt, ⟨#[]⟩, ⟨#[]⟩, 0, 0, 0, 0⟩)
          go_wp2_with fail
          go_meet
          case rel => exact HN2.out
        | false =>
          rw [tr_no (by rw [hh]; decide)] at hEt
          injection hEt with q1 q2
          subst q1 q2
          go_wp2_with fail
          go_meet
          case rel => exact H8.out
      case' rest => have HQ1 := Lib.hid hcut; clear hcut H8 hEt F1
      go_upto_if 55 with (fail)
      go_cut [] from 10 (fun wx => RdQ w1 wx g v s5 w2.heap.size w5.heap.size ⟨ii, op, strOf yt, strOf yk, ⟨#[]⟩, 0, 0, 0, 0⟩)
      case first =>
        cases hh : hasb bb 2 with
        | true =>
          rw [tr_yes hh] at hEk
          have PT := Lib.hid (fun W (h : Rdr w1.heap.size W 104 Rs.cells g v s4) => text_r w1.heap.size g v s4 64 W h (by omega))
          rw [hEk] at PT
          unfold Gave at PT
          simp only at PT
          have xc := HQ1.out.ri.cell
          go_wp2_with fail
          refine (PT.out _ HQ1.out.ri.rd).mono ?_
          rintro e wn ⟨rfl, htn⟩
          have HN1 := Lib.hid (HQ1.out.turn htn)
          clear htn PT xc
          obtain ⟨x0, x1, x2, x3, x4, x5, x6, x7, x8⟩ := HN1.out.bx.facts
          obtain ⟨y_0, y_1, y_2, y_3, y_4, y_5, y_6, y_7, y_8⟩ := HN1.out.bx.free
          simp only at x0 x1 x2 x3 x4 x5 x6 x7 x8
          have HN2 := Lib.hid (HN1.out.put (j := 3) (u := .string (strOf yk)) ⟨ii, op, strOf yt, strOf yk, ⟨#[]⟩, 0, 0, 0, 0⟩)
          go_wp2_with fail
          go_meet
          case rel => exact HN2.out
        | false =>
          rw [tr_no (by rw [hh]; decide)] at hEk
          injection hEk with q1 q2
          subst q1 q2
          go_wp2_with fail
          go_meet
          case rel => exact HQ1.out
      case' rest => have HQ2 := Lib.hid hcut; clear hcut HQ1 hEk F2
      go_upto_if 62 with (fail)
      go_cut [] from 10 (fun wx => RdQ w1 wx g v s6 w2.heap.size w5.heap.size ⟨ii, op, strOf yt, strOf yk, strOf yv, 0, 0, 0, 0⟩)
      case first =>
        cases hh : hasb bb 4 with
        | true =>
          rw [tr_yes hh] at hEv
          have PT := Lib.hid (fun W (h : Rdr w1.heap.size W 104 Rs.cells g v s5) => text_r w1.heap.size g v s5 1024 W h (by omega))
          rw [hEv] at PT
          unfold Gave at PT
          simp only at PT
          have xc := HQ2.out.ri.cell
          go_wp2_with fail
          refine (PT.out _ HQ2.out.ri.rd).mono ?_
          rintro e wn ⟨rfl, htn⟩
          have HN1 := Lib.hid (HQ2.out.turn htn)
          clear htn PT xc
          obtain ⟨x0, x1, x2, x3, x4, x5, x6, x7, x8⟩ := HN1.out.bx.facts
          obtain ⟨y_0, y_1, y_2, y_3, y_4, y_5, y_6, y_7, y_8⟩ := HN1.out.bx.free
          simp only at x0 x1 x2 x3 x4 x5 x6 x7 x8
          have HN2 := Lib.hid (HN1.out.put (j := 4) (u := .string (strOf yv)) ⟨ii, op, strOf yt, strOf yk, strOf yv, 0, 0, 0, 0⟩)
          go_wp2_with fail
          go_meet
          case rel => exact HN2.out
        | false =>
          rw [tr_no (by rw [hh]; decide)] at hEv
          injection hEv with q1 q2
          subst q1 q2
          go_wp2_with fail
          go_meet
          case rel => exact HQ2.out
      case' rest => have HQ4 := Lib.hid hcut; clear hcut HQ2 hEv F4
      go_upto_if 69 with (fail)
      go_cut [] from 10 (fun wx => RdQ w1 wx g v s7 w2.heap.size w5.heap.size ⟨ii, op, strOf yt, strOf yk, strOf yv, yo, 0, 0, 0⟩)
      case first =>
        cases hh : hasb bb 8 with
        | true =>
          rw [nr_yes hh] at hEo
          have PT := Lib.hid (fun W (h : Rdr w1.heap.size W 104 Rs.cells g v s6) => number16_is w1.heap.size g v s6 W h)
          rw [hEo] at PT
          unfold Gave at PT
          simp only at PT
          have xc := HQ4.out.ri.cell
          go_wp2_with fail
          refine (PT.out _ HQ4.out.ri.rd).mono ?_
          rintro e wn ⟨rfl, htn⟩
          have HN1 := Lib.hid (HQ4.out.turn htn)
          clear htn PT xc
          obtain ⟨x0, x1, x2, x3, x4, x5, x6, x7, x8⟩ := HN1.out.bx.facts
          obtain ⟨y_0, y_1, y_2, y_3, y_4, y_5, y_6, y_7, y_8⟩ := HN1.out.bx.free
          simp only at x0 x1 x2 x3 x4 x5 x6 x7 x8
          have HN2 := Lib.hid (HN1.out.put (j := 5) (u := .int .i64 yo) ⟨ii, op, strOf yt, strOf yk, strOf yv, yo, 0, 0, 0⟩)
          go_wp2_with fail
          go_meet
          case rel => exact HN2.out
        | false =>
          rw [nr_no (by rw [hh]; decide)] at hEo
          injection hEo with q1 q2
          subst q1 q2
          go_wp2_with fail
          go_meet
          case rel => exact HQ4.out
      case' rest => have HQ8 := Lib.hid hcut; clear hcut HQ4 hEo F8
      go_upto_if 75 with (fail)
      go_cut [] from 10 (fun wx => RdQ w1 wx g v s8 w2.heap.size w5.heap.size ⟨ii, op, strOf yt, strOf yk, strOf yv, yo, yn, 0, 0⟩)
      case first =>
        cases hh : hasb bb 16 with
        | true =>
          rw [nr_yes hh] at hEn
          have PT := Lib.hid (fun W (h : Rdr w1.heap.size W 104 Rs.cells g v s7) => number16_is w1.heap.size g v s7 W h)
          rw [hEn] at PT
          unfold Gave at PT
          simp only at PT
          have xc := HQ8.out.ri.cell
          go_wp2_with fail
          refine (PT.out _ HQ8.out.ri.rd).mono ?_
          rintro e wn ⟨rfl, htn⟩
          have HN1 := Lib.hid (HQ8.out.turn htn)
          clear htn PT xc
          obtain ⟨x0, x1, x2, x3, x4, x5, x6, x7, x8⟩ := HN1.out.bx.facts
          obtain ⟨y_0, y_1, y_2, y_3, y_4, y_5, y_6, y_7, y_8⟩ := HN1.out.bx.free
          simp only at x0 x1 x2 x3 x4 x5 x6 x7 x8
          have HN2 := Lib.hid (HN1.out.put (j := 6) (u := .int .i64 yn) ⟨ii, op, strOf yt, strOf yk, strOf yv, yo, yn, 0, 0⟩)
          go_wp2_with fail
          go_meet
          case rel => exact HN2.out
        | false =>
          rw [nr_no (by rw [hh]; decide)] at hEn
          injection hEn with q1 q2
          subst q1 q2
          go_wp2_with fail
          go_meet
          case rel => exact HQ8.out
      case' rest => have HQ16 := Lib.hid hcut; clear hcut HQ8 hEn F16
      go_upto_if 81 with (fail)
      go_cut [] from 10 (fun wx => RdQ w1 wx g v s9 w2.heap.size w5.heap.size ⟨ii, op, strOf yt, strOf yk, strOf yv, yo, yn, yp, 0⟩)
      case first =>
        cases hh : hasb bb 32 with
        | true =>
          rw [nr_yes hh] at hEp
          have PT := Lib.hid (fun W (h : Rdr w1.heap.size W 104 Rs.cells g v s8) => number16_is w1.heap.size g v s8 W h)
          rw [hEp] at PT
          unfold Gave at PT
          simp only at PT
          have xc := HQ16.out.ri.cell
          go_wp2_with fail
          refine (PT.out _ HQ16.out.ri.rd).mono ?_
          rintro e wn ⟨rfl, htn⟩
          have HN1 := Lib.hid (HQ16.out.turn htn)
          clear htn PT xc
          obtain ⟨x0, x1, x2, x3, x4, x5, x6, x7, x8⟩ := HN1.out.bx.facts
          obtain ⟨y_0, y_1, y_2, y_3, y_4, y_5, y_6, y_7, y_8⟩ := HN1.out.bx.free
          simp only at x0 x1 x2 x3 x4 x5 x6 x7 x8
          have HN2 := Lib.hid (HN1.out.put (j := 7) (u := .int .i64 yp) ⟨ii, op, strOf yt, strOf yk, strOf yv, yo, yn, yp, 0⟩)
          go_wp2_with fail
          go_meet
          case rel => exact HN2.out
        | false =>
          rw [nr_no (by rw [hh]; decide)] at hEp
          injection hEp with q1 q2
          subst q1 q2
          go_wp2_with fail
          go_meet
          case rel => exact HQ16.out
      case' rest => have HQ32 := Lib.hid hcut; clear hcut HQ16 hEp F32
      go_upto_if 87 with (fail)
      go_cut [] from 10 (fun wx => RdQ w1 wx g v s10 w2.heap.size w5.heap.size ⟨ii, op, strOf yt, strOf yk, strOf yv, yo, yn, yp, ys⟩)
      case first =>
        cases hh : hasb bb 64 with
        | true =>
          rw [nr_yes hh] at hEs
          have PT := Lib.hid (fun W (h : Rdr w1.heap.size W 104 Rs.cells g v s9) => number16_is w1.heap.size g v s9 W h)
          rw [hEs] at PT
          unfold Gave at PT
          simp only at PT
          have xc := HQ32.out.ri.cell
          go_wp2_with fail
          refine (PT.out _ HQ32.out.ri.rd).mono ?_
          rintro e wn ⟨rfl, htn⟩
          have HN1 := Lib.hid (HQ32.out.turn htn)
          clear htn PT xc
          obtain ⟨x0, x1, x2, x3, x4, x5, x6, x7, x8⟩ := HN1.out.bx.facts
          obtain ⟨y_0, y_1, y_2, y_3, y_4, y_5, y_6, y_7, y_8⟩ := HN1.out.bx.free
          simp only at x0 x1 x2 x3 x4 x5 x6 x7 x8
          have HN2 := Lib.hid (HN1.out.put (j := 8) (u := .int .i64 ys) ⟨ii, op, strOf yt, strOf yk, strOf yv, yo, yn, yp, ys⟩)
          go_wp2_with fail
          go_meet
          case rel => exact HN2.out
        | false =>
          rw [nr_no (by rw [hh]; decide)] at hEs
          injection hEs with q1 q2
          subst q1 q2
          go_wp2_with fail
          go_meet
          case rel => exact HQ32.out
      case' rest => have HQ64 := Lib.hid hcut; clear hcut HQ32 hEs F64
      have PD := Lib.hid (fun W (h : Rdr w1.heap.size W 104 Rs.cells g v s10) => end_r w1.heap.size g v s10 W h)
      obtain ⟨⟨u1, u2⟩, hU⟩ : ∃ p, s10.fin = p := ⟨_, rfl⟩
      rw [hU] at PD HP3
      simp only at PD HP3
      have PCQ := Lib.hid (fun W (h : Tab W) => checkq_is ⟨ii, op, strOf yt, strOf yk, strOf yv, yo, yn, yp, ys⟩ W h)
      unfold Rq.V at PCQ
      simp only at PCQ
      have hfld := fun W => run_field0 u1 ((u2 : Nat) : Int) W
      have xc := HQ64.out.ri.cell
      clear hU hI
      by_cases hu : u1 = 0
      · have hu0 : (u1 != 0) = false := by rw [hu]; rfl
        cases hok : okq ⟨ii, op, strOf yt, strOf yk, strOf yv, yo, yn, yp, ys⟩ with
        | true =>
          have HQD : Hid (D = (⟨ii, op, strOf yt, strOf yk, strOf yv, yo, yn, yp, ys⟩, 0)) := Lib.hid (by rw [HQ.out P rfl, HP3.out, if_neg (by rw [hok]; simp [hu])]; rfl)
          rw [chkq_yes (okq_may.1 hok)] at PCQ
          clear hu hok
          go_wp2_with fail
          refine (PD.out _ HQ64.out.ri.rd).mono ?_
          rintro e w11 ⟨rfl, hb11⟩
          have H11 := Lib.hid (HQ64.out.below hb11)
          clear hb11 HQ64 xc
          obtain ⟨x0, x1, x2, x3, x4, x5, x6, x7, x8⟩ := H11.out.bx.facts
          simp only at x0 x1 x2 x3 x4 x5 x6 x7 x8
          go_wp2_with fail
          refine (PCQ.out _ (HT1.out.bel H11.out.ri.be)).mono ?_
          rintro e w12 ⟨rfl, hb12⟩
          have H12 := Lib.hid (H11.out.below hb12)
          clear hb12 H11 x0 x1 x2 x3 x4 x5 x6 x7 x8
          obtain ⟨x0, x1, x2, x3, x4, x5, x6, x7, x8⟩ := H12.out.bx.facts
          simp only at x0 x1 x2 x3 x4 x5 x6 x7 x8
          have HZZ := Lib.hid (HZ.out.below H12.out.ri.be hgz)
          obtain ⟨z0, z1, z2, z3, z4, z5, z6, z7, z8⟩ := HZZ.out.facts
          obtain ⟨r0, r1, r2, r3, r4, r5, r6, r7, r8⟩ := HZZ.out.free
          simp only [rq0] at z0 z1 z2 z3 z4 z5 z6 z7 z8
          go_wp2_with fail
          refine bodyPost_ret (v := .tuple #[.agg #[.int .u32 (ii : Int), .int .i64 (op : Int), .string (strOf yt), .string (strOf yk), .string (strOf yv), .int .i64 yo, .int .i64 yn, .int .i64 yp, .int .i64 ys], .int .i64 0]) (by simp [results, Tryd.results12, go_sem, z0, z1, z2, z3, z4, z5, z6, z7, z8]) rfl ⟨by rw [HQD.out]; rfl, ?_⟩
          exact below_w9 ⟨ii, op, strOf yt, strOf yk, strOf yv, yo, yn, yp, ys⟩ (HB1.out.trans (H12.out.ri.be.mono HB1.out.size)) (Nat.le_refl _)
        | false =>
          have HQD : Hid (D = (rq0, 161)) := Lib.hid (by rw [HQ.out P rfl, HP3.out, if_pos (.inr hok)]; rfl)
          rw [chkq_no (fun m => by have := okq_may.2 m; rw [hok] at this; cases this)] at PCQ
          clear hu hok
          go_wp2_with fail
          refine (PD.out _ HQ64.out.ri.rd).mono ?_
          rintro e w11 ⟨rfl, hb11⟩
          have H11 := Lib.hid (HQ64.out.below hb11)
          clear hb11 HQ64 xc
          obtain ⟨x0, x1, x2, x3, x4, x5, x6, x7, x8⟩ := H11.out.bx.facts
          simp only at x0 x1 x2 x3 x4 x5 x6 x7 x8
          go_wp2_with fail
          refine (PCQ.out _ (HT1.out.bel H11.out.ri.be)).mono ?_
          rintro e w12 ⟨rfl, hb12⟩
          have H12 := Lib.hid (H11.out.below hb12)
          clear hb12 H11 x0 x1 x2 x3 x4 x5 x6 x7 x8
          have HZZ := Lib.hid (HZ.out.below H12.out.ri.be hgz)
          obtain ⟨z0, z1, z2, z3, z4, z5, z6, z7, z8⟩ := HZZ.out.facts
          obtain ⟨r0, r1, r2, r3, r4, r5, r6, r7, r8⟩ := HZZ.out.free
          simp only [rq0] at z0 z1 z2 z3 z4 z5 z6 z7 z8
          go_wp2_with fail
          refine bodyPost_ret (v := .tuple #[.agg #[.int .u32 0, .int .i64 0, .string ⟨#[]⟩, .string ⟨#[]⟩, .string ⟨#[]⟩, .int .i64 0, .int .i64 0, .int .i64 0, .int .i64 0], .int .i64 161]) (by simp [results, Tryd.results12, go_sem, z0, z1, z2, z3, z4, z5, z6, z7, z8]) rfl ⟨by rw [HQD.out]; rfl, ?_⟩
          exact below_w9 rq0 (HB1.out.trans (H12.out.ri.be.mono HB1.out.size)) (Nat.le_refl _)
      · have hu0 : (u1 != 0) = true := by rw [bne_iff_ne]; exact hu
        have HQD : Hid (D = (rq0, 161)) := Lib.hid (by rw [HQ.out P rfl, HP3.out, if_pos (.inl hu)]; rfl)
        clear hu
        go_wp2_with fail
        refine (PD.out _ HQ64.out.ri.rd).mono ?_
        rintro e w11 ⟨rfl, hb11⟩
        have H11 := Lib.hid (HQ64.out.below hb11)
        clear hb11 HQ64 xc
        have HZZ := Lib.hid (HZ.out.below H11.out.ri.be hgz)
        obtain ⟨z0, z1, z2, z3, z4, z5, z6, z7, z8⟩ := HZZ.out.facts
        obtain ⟨r0, r1, r2, r3, r4, r5, r6, r7, r8⟩ := HZZ.out.free
        simp only [rq0] at z0 z1 z2 z3 z4 z5 z6 z7 z8
        go_wp2_with fail
        refine bodyPost_ret (v := .tuple #[.agg #[.int .u32 0, .int .i64 0, .string ⟨#[]⟩, .string ⟨#[]⟩, .string ⟨#[]⟩, .int .i64 0, .int .i64 0, .int .i64 0, .int .i64 0], .int .i64 161]) (by simp [results, Tryd.results12, go_sem, z0, z1, z2, z3, z4, z5, z6, z7, z8]) rfl ⟨by rw [HQD.out]; rfl, ?_⟩
        exact below_w9 rq0 (HB1.out.trans (H11.out.ri.be.mono HB1.out.size)) (Nat.le_refl _)
    · rw [decide_eq_false hop1] at PI
      have HQD : Hid (D = (rq0, 161)) := Lib.hid (by rw [HQ.out P rfl, HP.out]; unfold prq1; rw [if_pos (.inr (by omega))]; rfl)
      obtain ⟨x0, x1, x2, x3, x4, x5, x6, x7, x8⟩ := H6.out.bx.facts
      simp only at x1
      clear hop1 hop8
      go_wp2_with fail
      refine (PI.out _).mono ?_
      rintro e w7 ⟨rfl, rfl⟩
      clear x0 x1 x2 x3 x4 x5 x6 x7 x8
      have HZZ := Lib.hid (HZ.out.below H6.out.ri.be hgz)
      obtain ⟨z0, z1, z2, z3, z4, z5, z6, z7, z8⟩ := HZZ.out.facts
      obtain ⟨r0, r1, r2, r3, r4, r5, r6, r7, r8⟩ := HZZ.out.free
      simp only [rq0] at z0 z1 z2 z3 z4 z5 z6 z7 z8
      go_wp2_with fail
      refine bodyPost_ret (v := .tuple #[.agg #[.int .u32 0, .int .i64 0, .string ⟨#[]⟩, .string ⟨#[]⟩, .string ⟨#[]⟩, .int .i64 0, .int .i64 0, .int .i64 0, .int .i64 0], .int .i64 161]) (by simp [results, Tryd.results12, go_sem, z0, z1, z2, z3, z4, z5, z6, z7, z8]) rfl ⟨by rw [HQD.out]; rfl, ?_⟩
      exact below_w9 rq0 (HB1.out.trans (H6.out.ri.be.mono HB1.out.size)) (Nat.le_refl _)
  · have e1 : ((f : Int) != 81) = true := by rw [bne_iff_ne]; omega
    have HQD : Hid (D = (rq0, 161)) := Lib.hid (by rw [HQ.out P rfl, HP.out]; unfold prq1; rw [if_pos (.inl hf81)]; rfl)
    clear hf81
    have HZZ := Lib.hid (HZ.out.below H6.out.ri.be hgz)
    obtain ⟨z0, z1, z2, z3, z4, z5, z6, z7, z8⟩ := HZZ.out.facts
    obtain ⟨r0, r1, r2, r3, r4, r5, r6, r7, r8⟩ := HZZ.out.free
    simp only [rq0] at z0 z1 z2 z3 z4 z5 z6 z7 z8
    go_wp2_with fail
    refine bodyPost_ret (v := .tuple #[.agg #[.int .u32 0, .int .i64 0, .string ⟨#[]⟩, .string ⟨#[]⟩, .string ⟨#[]⟩, .int .i64 0, .int .i64 0, .int .i64 0, .int .i64 0], .int .i64 161]) (by simp [results, Tryd.results12, go_sem, z0, z1, z2, z3, z4, z5, z6, z7, z8]) rfl ⟨by rw [HQD.out]; rfl, ?_⟩
    exact below_w9 rq0 (HB1.out.trans (H6.out.ri.be.mono HB1.out.size)) (Nat.le_refl _)
set_option maxRecDepth 100000 in
theorem decodeq_is (A : Option Addr) (n c : Nat) (b : List Nat) (w : World) (hr : Rd w A (b8 b)) (hn : b.length = n) (hnc : n ≤ c) (hby : By b) (hl : n ≤ 140737488351232) (ht : Tab w) :
    Calls Tryd.prog 12 #[.slice A n c] w (DecQ w (decq b)) := by
  by_cases h : (bd b).2 = 0
  · exact decodeq_body A n c b w hr hn hnc hby hl ht h
  · exact decodeq_noBody A n c b w hr hn hnc hby (by omega) h
end Go.Proofs.YtljfmcgeiceagaaDoor
