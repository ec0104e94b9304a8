/- Responses: in plain words; rows of texts, rows of rows. -/
import Derived.Test.YtljfmcgeiceagaaGreatQ1
import Derived.Test.YtljfmcgeiceagaaGreatD3
import Derived.Test.YtljfmcgeiceagaaGreatX6
namespace Go.Proofs.YtljfmcgeiceagaaGreat
open Go Go.RowKit
set_option linter.unusedVariables false
set_option linter.unusedSimpArgs false

structure Rp where
  id : Nat
  op : Int
  code : Int
  off : Int
  num : Int
  more : Bool
  names : List ByteArray
  recs : List Rc
/-- A response as it lies: its lists' slices beside. -/
def Rp.V (x : Rp) (vr vn : Value) : Value := .agg #[.int .u32 (x.id : Int), .int .i64 x.op, .int .i64 x.code, .int .i64 x.off, .int .i64 x.num, .bool x.more, vr, vn]
structure Rp.Nm (x : Rp) : Prop where
  id : x.id < 4294967296
  op : r64 x.op
  code : r64 x.code
  off : r64 x.off
  num : r64 x.num
def strs (l : List ByteArray) : List Value := l.map Value.string
theorem strs_length (l : List ByteArray) : (strs l).length = l.length := by simp [strs]
/-- What a response's head may be. -/
def hdp (x : Rp) : Prop := ((1 ≤ x.op ∧ x.op < 16) ∨ x.op = 64) ∧ 0 ≤ x.code ∧ x.code ≤ 11 ∧ x.names.length ≤ 16
structure MayP (x : Rp) : Prop where
  hd : hdp x
  names : ∀ s ∈ x.names, s.size ≤ 24
  recs : ∀ r ∈ x.recs, chk r = 0
def txt (s : ByteArray) : List Nat := Uv.uv s.size ++ sb s
def encs (r : Rc) : List Nat := (renc r).1
def headp (x : Rp) : List Nat := [82, x.op.toNat, x.code.toNat] ++ Uv.uv x.id ++ Uv.uv (Uv.zig x.off).toNat ++ Uv.uv (Uv.zig x.num).toNat ++ [if x.more = true then 1 else 0] ++ Uv.uv x.names.length
def bdyp (x : Rp) : List Nat := headp x ++ x.names.flatMap txt ++ Uv.uv x.recs.length ++ x.recs.flatMap encs
open Classical in
noncomputable def renp (x : Rp) : List Nat × Int := if MayP x then frm (bdyp x) else ([], 162)
theorem renp_yes {x : Rp} (h : MayP x) : renp x = frm (bdyp x) := if_pos h
theorem renp_no {x : Rp} (h : ¬ MayP x) : renp x = ([], 162) := if_neg h
theorem txt_by (s : ByteArray) : By (txt s) := By.append (Uv.uv_lt _) (sb_by _)
theorem flat_by {α : Type} {f : α → List Nat} (l : List α) (h : ∀ x ∈ l, By (f x)) : By (l.flatMap f) := by
  intro b hb
  obtain ⟨x, hx, hbx⟩ := List.mem_flatMap.1 hb
  exact h x hx b hbx
theorem encs_by {r : Rc} (h : chk r = 0) : By (encs r) := by
  unfold encs
  rw [renc_ok h]
  exact wrap_by (by omega) (bdy_by (chk_may h))
theorem headp_by {x : Rp} (h : hdp x) : By (headp x) := by
  obtain ⟨h1, h2, h3, h4⟩ := h
  unfold headp
  refine By.append (By.append (By.append (By.append (By.append ?_ (Uv.uv_lt _)) (Uv.uv_lt _)) (Uv.uv_lt _)) ?_) (Uv.uv_lt _)
  · intro b hb
    simp only [List.mem_cons, List.not_mem_nil, or_false] at hb
    omega
  · intro b hb
    simp only [List.mem_singleton] at hb
    subst hb
    split <;> omega
theorem bdyp_by {x : Rp} (h : MayP x) : By (bdyp x) := by
  unfold bdyp
  exact By.append (By.append (By.append (headp_by h.hd) (flat_by _ fun s _ => txt_by s)) (Uv.uv_lt _)) (flat_by _ fun r hr => encs_by (h.recs r hr))
theorem txt_len {s : ByteArray} (h : s.size ≤ 24) : (txt s).length ≤ 25 := by
  unfold txt
  rw [List.length_append, sb_length, Uv.uv_small (by omega)]
  simp
  omega
theorem names_len : ∀ (l : List ByteArray), (∀ s ∈ l, s.size ≤ 24) → (l.flatMap txt).length ≤ l.length * 25
  | [], _ => by simp
  | s :: r, h => by
    rw [List.flatMap_cons, List.length_append, List.length_cons]
    have h1 := txt_len (h s (by simp))
    have h2 := names_len r (fun q hq => h q (by simp [hq]))
    omega
theorem headp_len {x : Rp} (hk : x.Nm) (h : x.names.length ≤ 16) : (headp x).length ≤ 30 := by
  have h1 := Uv.uv_len_pow 4 x.id (by have := hk.id; omega)
  have z1 := (zig_nat x.off hk.off).2
  have z2 := (zig_nat x.num hk.num).2
  have h2 := Uv.uv_len_64 _ z1
  have h3 := Uv.uv_len_64 _ z2
  unfold headp
  rw [Uv.uv_small (v := x.names.length) (by omega)]
  simp only [List.length_append, List.length_cons, List.length_nil]
  omega
theorem flatT {α : Type} {f : α → List Nat} {l : List α} {k : Nat} {x : α} (h : l[k]? = some x) : (l.take (k + 1)).flatMap f = (l.take k).flatMap f ++ f x := by
  rw [List.take_add_one, h]
  simp [List.flatMap_append]
theorem flat_take_le {α : Type} {f : α → List Nat} (l : List α) (k : Nat) : ((l.take k).flatMap f).length ≤ (l.flatMap f).length := by
  conv => rhs; rw [← List.take_append_drop k l]
  rw [List.flatMap_append, List.length_append]
  omega
/-- Slices whose rows read so. -/
def SlR (W : World) (vs : List Value) (bss : List (List Nat)) : Prop := vs.length = bss.length ∧ ∀ (j : Nat) (bs : List Nat), bss[j]? = some bs → ∃ (A : Option Addr) (c : Nat), vs[j]? = some (Value.slice A bs.length c) ∧ Rd W A (b8 bs)
theorem SlR.below {W W' : World} {vs : List Value} {bss : List (List Nat)} (h : SlR W vs bss) (hb : Below W.heap.size W W') : SlR W' vs bss :=
  ⟨h.1, fun j bs hj => by obtain ⟨A, c, h1, h2⟩ := h.2 j bs hj; exact ⟨A, c, h1, h2.below hb⟩⟩
theorem SlR.nil (W : World) : SlR W [] [] := ⟨rfl, fun j bs hj => by simp at hj⟩
/-- A cell of a row of values. -/
theorem Rd.val_ {w : World} {A : Option Addr} {vs : List Value} (h : Rd w A vs) {k : Nat} {v : Value} (hk : vs[k]? = some v) :
    ∃ g off, A = some ⟨g, off, none⟩ ∧ g < w.heap.size ∧ w.cell? ⟨g, off + k, none⟩ = some v := by
  obtain ⟨g, off, e, hg, hc⟩ := h (by rintro rfl; simp at hk)
  exact ⟨g, off, e, hg, hc k v hk⟩
theorem strs_get {l : List ByteArray} {k : Nat} {s : ByteArray} (h : l[k]? = some s) : (strs l)[k]? = some (.string s) := by unfold strs; rw [List.getElem?_map, h]; rfl
theorem infoB : (Tryz.prog.info? 27).map (fun i => (i.zero, i.size, i.bytes)) = some (some (.slice none 0 0), 1, 24) := by kernel_rfl
/-- One slice of bytes behind a row of such. -/
theorem pushB (w : World) {ops : Array Oper} {rest : List Oper} {o : Oper} {a : Act} {Q : Exit → Act → World → Prop} (hgd : o.guard = none) (s x : Operand)
    (ho : o.op = .call { callee := .builtin .append, args := #[s, x], argTypes := #[68, 68] })
    (base : Nat) (v : Value) (n : Nat) (xs : List Value) (hs : a.eval s = v) (hown : w.ownsRow base 27 1 v n xs) (y : Value) (hy : y.oneCell' = true) (q : Nat) (hq : q = w.heap.size)
    (hx : a.eval x = .slice (some ⟨q, 0, none⟩) 1 1)
    (hbytes : (n + 1) * 24 ≤ 140737488355328) (hbase : base ≤ w.heap.size)
    (h : ∀ v' w', w'.ownsRow base 27 1 v' (n + 1) (xs ++ [y]) → w.grownBy w' v.ownBlock → (v'.ownBlock = v.ownBlock ∨ ∃ k, v'.ownBlock = some k ∧ w.heap.size ≤ k) → wpList Tryz.prog ops Q rest (a.put o.dst v') w') :
    wpList Tryz.prog ops Q (o :: rest) a (w.alloc (.cells #[y] 27)) := by
  subst hq
  obtain ⟨i0, hi, hz0, hz1, hz2⟩ := info_parts infoB
  have hb : Below w.heap.size w (w.alloc (.cells #[y] 27)) := (Below.refl _ _).alloc (Nat.le_refl _) _
  refine wpList_app (w.alloc (.cells #[y] 27)) hgd s x 68 ho base 27 i0 _ 1 24 Tryz.underlying68 hi hz0 hz1 hz2 rfl (by omega) v n xs hs (hown.alloc _) (some ⟨w.heap.size, 0, none⟩) 1 1 [y] hx rfl (rd_lit w _ _) (by intro u hu; simp at hu; rw [hu]; exact hy) hbytes (by unfold maxLen; omega) (Nat.le_trans hbase hb.size) ?_
  intro v' w' h1 h2 h3
  refine h v' w' h1 ⟨h2.os.trans hb.os, h2.tape.trans hb.tape, h2.output.trans hb.output, Nat.le_trans hb.size h2.size, fun k hk hne => (h2.block k (Nat.lt_of_lt_of_le hk hb.size) hne).trans (hb.block k hk)⟩ ?_
  rcases h3 with h3 | ⟨k, h3, hk⟩
  · exact .inl h3
  · exact .inr ⟨k, h3, Nat.le_trans hb.size hk⟩
end Go.Proofs.YtljfmcgeiceagaaGreat
