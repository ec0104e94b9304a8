/- wire.framed, written, EncodeResponse, CheckResponse at any response. -/
import Derived.Test.YtljfmcgeiceagaaGreatRsCl
namespace Go.Proofs.YtljfmcgeiceagaaGreat
open Go Go.RowKit
set_option linter.unusedVariables false
set_option linter.unusedSimpArgs false

set_option maxHeartbeats 4000000 in
set_option maxRecDepth 100000 in
theorem framedp_is (gr gl : Nat) (x : Rp) (vr : Value) (AN AL : Option Addr) (nn nr cn cl : Nat) (vs : List Value) (w : World) (hp : PG w gr gl x vr (.slice AN nn cn) (.slice AL nr cl))
    (hrn : Rd w AN (strs x.names)) (hnn : x.names.length = nn) (hrl : Rd w AL vs) (hsl : SlR w vs (x.recs.map encs)) (hnr : x.recs.length = nr) (hm : MayP x) (hk : x.Nm) (hnl : nr ≤ 2000000000000) (htot : (x.recs.flatMap encs).length ≤ 140737488350000) :
    Calls Tryz.prog 47 #[.func (.func 48) #[] #[.pointer (some ⟨gr, 0, none⟩), .pointer (some ⟨gl, 0, none⟩)]] w (FramePost w (frm (bdyp x))) := by
  have HY := Lib.hid (bdyp_by hm)
  have hl1 := hp.lt1
  have hl2 := hp.lt2
  obtain ⟨hop, hc0, hc1, hn16⟩ := hm.hd
  have hlen : (bdyp x).length ≤ 140737488350440 := by
    have h1 := headp_len hk hn16
    have h2 := names_len x.names hm.names
    have h3 := Uv.uv_len_64 x.recs.length (by omega)
    unfold bdyp
    simp only [List.length_append]
    omega
  have h24 := hm.names
  obtain ⟨id, op, code, off, num, more, names, recs⟩ := x
  obtain ⟨k1, k2, k3, k4, k5⟩ := hk
  simp only at hop hc0 hc1 hn16 hnn hnr hrn hsl htot k1 k4 k5 h24
  obtain ⟨op, rfl⟩ : ∃ m : Nat, op = (m : Int) := ⟨op.toNat, by omega⟩
  obtain ⟨code, rfl⟩ : ∃ m : Nat, code = (m : Int) := ⟨code.toNat, by omega⟩
  have PC := Lib.hid (fun g W (h : Wr w.heap.size W 106 g (.slice none 0 0) []) (hb : Below w.heap.size w W) => closp_is g gr gl id op code off num more names recs vr AN AL nn nr cn cl vs w W h hb hp hrn hnn hrl hsl hnr k1 (by omega) (by omega) k4 k5 (by omega) h24 hnl htot)
  obtain ⟨X, hX⟩ : ∃ X, X = bdyp ⟨id, op, code, off, num, more, names, recs⟩ := ⟨_, rfl⟩
  rw [← hX] at PC HY hlen ⊢
  have HL := Lib.hid hlen
  unfold FramePost
  obtain ⟨Y, hY⟩ : ∃ Y, Y = frm X := ⟨_, rfl⟩
  rw [← hY]
  have HYY := Lib.hid hY
  clear hp hm hX hlen hrn hnn hrl hsl hnr hnl htot hop hc0 hc1 hn16 h24 k1 k2 k3 k4 k5 hY
  go_enter Tryz.func47, Tryz.ntmps47
  go_wp2_with fail
  refine (new_is w).mono ?_
  rintro e w1 ⟨rfl, hw1⟩
  have V1 : Hid (Wr w.heap.size w1 106 w.heap.size (.slice none 0 0) []) := Lib.hid (by rw [hw1]; exact new_wr w.heap.size w (Nat.le_refl _))
  have B1 : Hid (Below w.heap.size w w1) := Lib.hid (by rw [hw1]; exact (Below.refl _ _).alloc (Nat.le_refl _) _)
  clear hw1
  go_wp2_with fail
  refine (PC.out _ w1 V1.out B1.out).mono ?_
  rintro e w2 ⟨rfl, ⟨v2, hv2⟩, hb2⟩
  have V2 := Lib.hid hv2
  have B2 := Lib.hid hb2
  clear hv2 hb2 PC
  go_wp2_with fail
  refine (bytes_w w.heap.size w.heap.size v2 _ w2 V2.out (by have := HL.out; omega)).mono ?_
  rintro e w3 ⟨A3, c3, rfl, ho3, hb3⟩
  have HO3 := Lib.hid ho3
  have B3 := Lib.hid (B2.out.trans (hb3.mono B2.out.size))
  clear ho3 hb3
  have PF := frame_is A3 X.length c3 X w3 (rd_own HO3.out) rfl HY.out (by have := HL.out; omega)
  unfold FramePost at PF
  rw [← HYY.out] at PF
  have PFF := Lib.hid PF
  clear PF
  go_wp2_with fail
  refine PFF.out.mono ?_
  rintro e w4 ⟨A4, c4, rfl, ho4, hb4⟩
  have HO4 := Lib.hid ho4
  have B4 := Lib.hid (B3.out.trans (hb4.mono B3.out.size))
  have hs := B3.out.size
  clear ho4 hb4 PFF
  go_wp2_with fail
  go_ret2
  exact ⟨A4, c4, rfl, own_lower HO4.out hs, B4.out⟩

/-- A box of a row of the call's own rows of bytes. -/
structure LB (base : Nat) (W : World) (gl : Nat) (v : Value) (vs : List Value) (bss : List (List Nat)) : Prop where
  cell : W.heap[gl]? = some (.cells #[v] 68 (0, 0))
  own : W.ownsRow base 27 1 v vs.length vs
  len : vs.length = bss.length
  rows : ∀ (j : Nat) (bs : List Nat), bss[j]? = some bs → ∃ (A : Option Addr) (c : Nat), vs[j]? = some (Value.slice A bs.length c) ∧ W.ownsRow base 5 1 (.slice A bs.length c) bs.length (b8 bs)
  gb : gl < base
theorem LB.lt {base : Nat} {W : World} {gl : Nat} {v : Value} {vs : List Value} {bss : List (List Nat)} (h : LB base W gl v vs bss) : gl < W.heap.size := lt_of_block h.cell
theorem LB.below {base : Nat} {W W' : World} {gl : Nat} {v : Value} {vs : List Value} {bss : List (List Nat)} (h : LB base W gl v vs bss) (hb : Below W.heap.size W W') : LB base W' gl v vs bss :=
  ⟨(hb.block gl h.lt).trans h.cell, own_below h.own hb, h.len, fun j bs hj => by obtain ⟨A, c, h1, h2⟩ := h.rows j bs hj; exact ⟨A, c, h1, own_below h2 hb⟩, h.gb⟩
theorem LB.facts {base : Nat} {W : World} {gl : Nat} {v : Value} {vs : List Value} {bss : List (List Nat)} (h : LB base W gl v vs bss) : W.cell? ⟨gl, 0, none⟩ = some v ∧ W.frozen? ⟨gl, 0, none⟩ = false := ⟨cell_of_one h.cell, free_of_one h.cell⟩
theorem LB.slr {base : Nat} {W : World} {gl : Nat} {v : Value} {vs : List Value} {bss : List (List Nat)} (h : LB base W gl v vs bss) : SlR W vs bss :=
  ⟨h.len, fun j bs hj => by obtain ⟨A, c, h1, h2⟩ := h.rows j bs hj; exact ⟨A, c, h1, rd_own h2⟩⟩
theorem own_types {W : World} {base b2 : Nat} {e1 e2 : TypeId} {s1 s2 n1 n2 : Nat} {v1 v2 : Value} {x1 x2 : List Value} (h1 : W.ownsRow base e1 s1 v1 n1 x1) (h2 : W.ownsRow b2 e2 s2 v2 n2 x2) (hne : e1 ≠ e2) : v1.ownBlock = none ∨ v1.ownBlock ≠ v2.ownBlock := by
  rcases h1.2 with ⟨rfl, _⟩ | ⟨g1, c1, u1, rfl, _, hh1, _⟩
  · exact .inl rfl
  · rcases h2.2 with ⟨rfl, _⟩ | ⟨g2, c2, u2, rfl, _, hh2, _⟩
    · exact .inr (by simp [Value.ownBlock])
    · refine .inr (fun e => hne ?_)
      simp only [Value.ownBlock, Option.some.injEq] at e
      subst e
      rw [hh1] at hh2
      simp at hh2
      exact hh2.2
theorem own_ge {W : World} {base : Nat} {e : TypeId} {s n : Nat} {v : Value} {xs : List Value} (h : W.ownsRow base e s v n xs) {q : Nat} (hq : v.ownBlock = some q) : base ≤ q := by
  rcases h.2 with ⟨rfl, _⟩ | ⟨g1, c1, u1, rfl, hb, _⟩
  · cases hq
  · simp only [Value.ownBlock, Option.some.injEq] at hq
    omega
theorem LB.push {base : Nat} {W W' : World} {gl : Nat} {v v' : Value} {vs : List Value} {bss : List (List Nat)} (h : LB base W gl v vs bss) {A : Option Addr} {c m : Nat} {bs : List Nat} (hm : bs.length = m)
    (hr : W.ownsRow base 5 1 (.slice A m c) m (b8 bs)) {n : Nat} (hn : n = vs.length + 1) (ho : W'.ownsRow base 27 1 v' n (vs ++ [Value.slice A m c])) (hg : W.grownBy W' v.ownBlock) :
    LB base (W'.setCell ⟨gl, 0, none⟩ v') gl v' (vs ++ [Value.slice A m c]) (bss ++ [bs]) := by
  subst hm hn
  have hvg : v.ownBlock ≠ some gl := fun e => by have := own_ge h.own e; have := h.gb; omega
  have hc : W'.heap[gl]? = some (.cells #[v] 68 (0, 0)) := (hg.block gl h.lt (fun e => hvg e.symm)).trans h.cell
  have hrow : ∀ {A : Option Addr} {c : Nat} {bs : List Nat}, W.ownsRow base 5 1 (.slice A bs.length c) bs.length (b8 bs) → (W'.setCell ⟨gl, 0, none⟩ v').ownsRow base 5 1 (.slice A bs.length c) bs.length (b8 bs) := fun hq =>
    ownsRow_setCell_other (hq.kept hg (own_types hq h.own (by decide))) (a := ⟨gl, 0, none⟩) (fun e => by have hh : base ≤ gl := own_ge hq e; have := h.gb; omega) _
  refine ⟨one_setCell hc, ?_, by simp [h.len], fun j ys hj => ?_, h.gb⟩
  · rw [List.length_append]
    exact ownsRow_setCell_other ho (a := ⟨gl, 0, none⟩) (fun e => by have hh : base ≤ gl := own_ge ho e; have := h.gb; omega) _
  · by_cases hlt : j < bss.length
    · rw [List.getElem?_append_left hlt] at hj
      obtain ⟨B, d, h1, h2⟩ := h.rows j ys hj
      exact ⟨B, d, by rw [List.getElem?_append_left (by rw [h.len]; exact hlt)]; exact h1, hrow h2⟩
    · rw [List.getElem?_append_right (by omega)] at hj
      have hj0 : j - bss.length = 0 := by
        have := (List.getElem?_eq_some_iff.1 hj).1
        simp at this
        omega
      rw [hj0] at hj
      simp at hj
      subst hj
      exact ⟨A, c, by rw [List.getElem?_append_right (by rw [h.len]; omega), h.len, hj0]; rfl, hrow hr⟩
theorem LB.bel {base : Nat} {W W' : World} {gl : Nat} {v v' : Value} {vs : List Value} {bss : List (List Nat)} (h : LB base W gl v vs bss) {B : Nat} {w1 : World} (hb : Below B w1 W) (hB : B ≤ gl) (hg : W.grownBy W' v.ownBlock) : Below B w1 (W'.setCell ⟨gl, 0, none⟩ v') := by
  refine Below.setCell ⟨hg.os.trans hb.os, hg.tape.trans hb.tape, hg.output.trans hb.output, Nat.le_trans hb.size hg.size, fun k hk => ?_⟩ (by simpa using hB) _
  exact (hg.block k (Nat.lt_of_lt_of_le h.lt (Nat.le_refl _) |> fun hh => by omega) (fun e => by have := own_ge h.own e.symm; have := h.gb; omega)).trans (hb.block k hk)
end Go.Proofs.YtljfmcgeiceagaaGreat
