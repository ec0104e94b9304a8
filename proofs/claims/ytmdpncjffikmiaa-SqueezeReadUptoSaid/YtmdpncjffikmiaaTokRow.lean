/- Rows of tokens of the call's own; chroniclelaw2.other. -/
import Derived.Test.YtmdpncjffikmiaaLm2
namespace Go.Proofs.Ytmdpncjffikmiaa
open Go Go.RowKit
set_option linter.unusedVariables false
set_option linter.unusedSimpArgs false

/-- Tokens behind a row of the call's own. -/
theorem appT (w : World) {ops : Array Oper} {rest : List Oper} {o : Oper} {a : Act} {Q : Exit → Act → World → Prop} (hgd : o.guard = none) (s x : Operand)
    (ho : o.op = .call { callee := .builtin .append, args := #[s, x], argTypes := #[22, 22] })
    (base : Nat) (v : Value) (n : Nat) (xs : List TkV) (hs : a.eval s = v) (hown : w.ownsRow base 37 3 v n (tkCells xs))
    (A : Option Addr) (m c : Nat) (news : List TkV) (hx : a.eval x = .slice A m c) (hl : news.length = m) (hr : Rd w A (tkCells news))
    (hbytes : (n + m) * 40 ≤ 140737488355328) (hbase : base ≤ w.heap.size)
    (h : ∀ v' w', w'.ownsRow base 37 3 v' (n + m) (tkCells (xs ++ news)) → w.grownBy w' v.ownBlock → (v'.ownBlock = v.ownBlock ∨ ∃ k, v'.ownBlock = some k ∧ w.heap.size ≤ k) → wpList Try.prog ops Q rest (a.put o.dst v') w') :
    wpList Try.prog ops Q (o :: rest) a w := by
  obtain ⟨i0, hi, hz0, hz1, hz2⟩ := info_parts infoTok
  refine wpList_app w hgd s x 22 ho base 37 i0 _ 3 40 Try.underlying22 hi hz0 hz1 hz2 rfl (by omega) v n (tkCells xs) hs hown A m c (tkCells news) hx (by rw [tkCells_length, hl]) hr (tkCells_one _) hbytes (by unfold maxLen; omega) hbase ?_
  intro v' w' h1 h2 h3
  exact h v' w' (by rw [tkCells_append]; exact h1) h2 h3

/-- One token, a literal slice of one. -/
theorem pushT (w : World) {ops : Array Oper} {rest : List Oper} {o : Oper} {a : Act} {Q : Exit → Act → World → Prop} (hgd : o.guard = none) (s x : Operand)
    (ho : o.op = .call { callee := .builtin .append, args := #[s, x], argTypes := #[22, 22] })
    (base : Nat) (v : Value) (n : Nat) (xs : List TkV) (hs : a.eval s = v) (hown : w.ownsRow base 37 3 v n (tkCells xs)) (y : TkV) (q : Nat) (hq : q = w.heap.size)
    (hx : a.eval x = .slice (some ⟨q, 0, none⟩) 1 1)
    (hbytes : (n + 1) * 40 ≤ 140737488355328) (hbase : base ≤ w.heap.size)
    (h : ∀ v' w', w'.ownsRow base 37 3 v' (n + 1) (tkCells (xs ++ [y])) → w.grownBy w' v.ownBlock → (v'.ownBlock = v.ownBlock ∨ ∃ k, v'.ownBlock = some k ∧ w.heap.size ≤ k) → wpList Try.prog ops Q rest (a.put o.dst v') w') :
    wpList Try.prog ops Q (o :: rest) a (w.alloc (.cells #[.slice y.A y.lit.length y.c, .int .i64 y.d, .int .i64 y.l] 37)) := by
  subst hq
  have hb : Below w.heap.size w (w.alloc (.cells #[.slice y.A y.lit.length y.c, .int .i64 y.d, .int .i64 y.l] 37)) := (Below.refl _ _).alloc (Nat.le_refl _) _
  refine appT (w.alloc (.cells #[.slice y.A y.lit.length y.c, .int .i64 y.d, .int .i64 y.l] 37)) hgd s x ho base v n xs hs (hown.alloc _) (some ⟨w.heap.size, 0, none⟩) 1 1 [y] hx rfl (rd_lit w _ _) hbytes (Nat.le_trans hbase hb.size) ?_
  intro v' w' h1 h2 h3
  refine h v' w' h1 ⟨h2.os.trans hb.os, h2.tape.trans hb.tape, h2.output.trans hb.output, Nat.le_trans hb.size h2.size, fun k hk hne => (h2.block k (Nat.lt_of_lt_of_le hk hb.size) hne).trans (hb.block k hk)⟩ ?_
  rcases h3 with h3 | ⟨k, h3, hk⟩
  · exact .inl h3
  · exact .inr ⟨k, h3, Nat.le_trans hb.size hk⟩

/-- Another token. -/
def bumpT (x : TkV) : TkV := if 0 < x.l ∧ x.l < 1000 then ⟨x.A, x.c, x.lit, x.d, x.l + 1⟩ else x
def oth (l : List TkV) : List TkV := (l.map bumpT).reverse
theorem oth_length (l : List TkV) : (oth l).length = l.length := by simp [oth]
theorem bumpT_ok {w : World} {x : TkV} (h : x.Ok w) : (bumpT x).Ok w := by
  unfold bumpT
  split
  · exact ⟨h.cap, h.cm, h.rd, h.by_, h.sz, h.d64, by simp only; omega⟩
  · exact h
theorem oth_ok {w : World} {l : List TkV} (h : ∀ x ∈ l, x.Ok w) : ∀ x ∈ oth l, x.Ok w := by
  intro x hx
  unfold oth at hx
  rw [List.mem_reverse, List.mem_map] at hx
  obtain ⟨y, hy, rfl⟩ := hx
  exact bumpT_ok (h y hy)
theorem oth_drop {l : List TkV} {j : Nat} {x : TkV} (h : l[j]? = some x) : oth (l.drop j) = oth (l.drop (j + 1)) ++ [bumpT x] := by
  obtain ⟨hl, rfl⟩ := List.getElem?_eq_some_iff.1 h
  unfold oth
  rw [List.drop_eq_getElem_cons hl, List.map_cons, List.reverse_cons]

def GotT (w : World) (l : List TkV) (n : Nat) (e : Ending) (w' : World) : Prop :=
  ∃ A c, e = .returned (.slice A n c) ∧ w'.ownsRow w.heap.size 37 3 (.slice A n c) n (tkCells l) ∧ Below w.heap.size w w'

set_option maxHeartbeats 1000000 in
set_option maxRecDepth 100000 in
theorem other_is (A : Option Addr) (n c : Nat) (l : List TkV) (w : World) (hr : Rd w A (tkCells l)) (hn : l.length = n) (ok : ∀ x ∈ l, x.Ok w) (hl : n * 40 ≤ 140737488351232) :
    Calls Try.prog 49 #[.slice A n c] w (GotT w (oth l) n) := by
  have HR := Lib.hid hr
  have HN := Lib.hid hn
  have OK := Lib.hid ok
  clear hr hn ok
  go_enter Try.func49, Try.ntmps49
  go_wp2
  go_loopw [3, 4, 5] (fun v i p wr => ∃ (j N : Nat) (ys : List TkV), j ≤ n ∧ Hid (N + j = n) ∧ i = .int .i64 ((j : Int) - 1) ∧ Hid (ys = oth (l.drop j)) ∧ Hid (wr.ownsRow w.heap.size 37 3 v N (tkCells ys)) ∧ Hid (Below w.heap.size w wr)) (fun _ i _ _ => (intOf i + 1).toNat)
  case atStart => exact ⟨n, 0, [], Nat.le_refl _, Lib.hid (by omega), rfl, Lib.hid (by rw [List.drop_eq_nil_of_le (by rw [HN.out]; omega)]; rfl), Lib.hid (World.ownsRow_nil _ _ _ _), Lib.hid (Below.refl _ _)⟩
  case round =>
    obtain ⟨j, N, ys, hj, HNJ, rfl, HY, HO, HB⟩ := hrel
    have hsz := HB.out.size
    have hNn : N ≤ n := by have := HNJ.out; omega
    by_cases h0 : j = 0
    · subst h0
      have HF : Hid (u3 = u3 ∧ wr.ownsRow w.heap.size 37 3 u3 n (tkCells (oth l))) := Lib.hid (by
        have h := HY.out
        rw [List.drop_zero] at h
        have e := HNJ.out
        rw [Nat.add_zero] at e
        rw [← h, ← e]
        exact ⟨rfl, HO.out⟩)
      obtain ⟨A9, c9, hv, _⟩ := own_shape HF.out.2
      clear HY HNJ
      subst hv
      go_wp2
      go_ret
      exact ⟨A9, c9, rfl, HF.out.2, HB.out⟩
    · obtain ⟨k, rfl⟩ : ∃ k, j = k + 1 := ⟨j - 1, by omega⟩
      obtain ⟨x, hx⟩ : ∃ x, l[k]? = some x := ⟨_, List.getElem?_eq_getElem (by rw [HN.out]; omega)⟩
      obtain ⟨g, off, rfl, hg, hc0, hc1, hc2⟩ := HR.out.tok hx
      replace hc0 := (HB.out.cell (p := ⟨g, off + k * 3, none⟩) hg).trans hc0
      replace hc1 := (HB.out.cell (p := ⟨g, off + k * 3 + 1, none⟩) hg).trans hc1
      replace hc2 := (HB.out.cell (p := ⟨g, off + k * 3 + 2, none⟩) hg).trans hc2
      have HST : Hid (ys ++ [bumpT x] = oth (l.drop k)) := Lib.hid (by rw [oth_drop hx, ← HY.out])
      have hl64 := (OK.out x (List.mem_of_getElem? hx)).l64
      have hki : (((k + 1 : Nat) : Int) - 1) = (k : Int) := by omega
      rw [hki]
      obtain ⟨xA, xc, lit, xd, xl⟩ := x
      simp only at hc0 hc1 hc2 hl64
      have i0 : (0 : Int) ≤ (k : Int) := by omega
      have i1 : (k : Int) < (n : Int) := by omega
      have HB0 := Lib.hid (Bt.new wr ⟨xA, xc, lit, xd, xl⟩)
      clear hx HY
      by_cases hp : 0 < xl ∧ xl < 1000
      · have HBU : Hid (bumpT ⟨xA, xc, lit, xd, xl⟩ = ⟨xA, xc, lit, xd, xl + 1⟩) := Lib.hid (by unfold bumpT; rw [if_pos hp])
        obtain ⟨hp1, hp2⟩ := hp
        go_wp2_with (at_builtin; go_loud ((refine pushT (wr.alloc (.cells #[.slice xA lit.length xc, .int .i64 xd, .int .i64 (xl + 1)] 37)) rfl (.tmp 29) (.tmp 31) (by rfl) w.heap.size _ N ys (by rfl) (HO.out.alloc _) ⟨xA, xc, lit, xd, xl + 1⟩ (wr.heap.size + 1) (by simp) (by rfl) (by omega) (by simp; omega) ?_); intro v2 w2 ho2 hg2 hn2; have HO2 := Lib.hid ho2; have HB2 := Lib.hid ((HB.out.alloc hsz (.cells #[.slice xA lit.length xc, .int .i64 xd, .int .i64 (xl + 1)] 37)).trans (below_of_grown hg2 (by simp; omega) (fun k hk => (HO.out.lt k hk).1))); clear ho2 hg2 hn2))
        go_roundw
        case rel => exact ⟨k, N + 1, _, by omega, Lib.hid (by have := HNJ.out; omega), by go_num, Lib.hid (by rw [← HST.out, HBU.out]), HO2, HB2⟩
        case measure => simp [intOf]
      · have HBU : Hid (bumpT ⟨xA, xc, lit, xd, xl⟩ = ⟨xA, xc, lit, xd, xl⟩) := Lib.hid (by unfold bumpT; rw [if_neg hp])
        by_cases hp1 : 0 < xl
        · have hp2 : ¬ xl < 1000 := fun h => hp ⟨hp1, h⟩
          clear hp
          go_wp2_with (at_builtin; go_loud ((refine pushT (wr.alloc (.cells #[.slice xA lit.length xc, .int .i64 xd, .int .i64 (xl)] 37)) rfl (.tmp 29) (.tmp 31) (by rfl) w.heap.size _ N ys (by rfl) (HO.out.alloc _) ⟨xA, xc, lit, xd, xl⟩ (wr.heap.size + 1) (by simp) (by rfl) (by omega) (by simp; omega) ?_); intro v2 w2 ho2 hg2 hn2; have HO2 := Lib.hid ho2; have HB2 := Lib.hid ((HB.out.alloc hsz (.cells #[.slice xA lit.length xc, .int .i64 xd, .int .i64 (xl)] 37)).trans (below_of_grown hg2 (by simp; omega) (fun k hk => (HO.out.lt k hk).1))); clear ho2 hg2 hn2))
          go_roundw
          case rel => exact ⟨k, N + 1, _, by omega, Lib.hid (by have := HNJ.out; omega), by go_num, Lib.hid (by rw [← HST.out, HBU.out]), HO2, HB2⟩
          case measure => simp [intOf]
        · clear hp
          go_wp2_with (at_builtin; go_loud ((refine pushT (wr.alloc (.cells #[.slice xA lit.length xc, .int .i64 xd, .int .i64 (xl)] 37)) rfl (.tmp 29) (.tmp 31) (by rfl) w.heap.size _ N ys (by rfl) (HO.out.alloc _) ⟨xA, xc, lit, xd, xl⟩ (wr.heap.size + 1) (by simp) (by rfl) (by omega) (by simp; omega) ?_); intro v2 w2 ho2 hg2 hn2; have HO2 := Lib.hid ho2; have HB2 := Lib.hid ((HB.out.alloc hsz (.cells #[.slice xA lit.length xc, .int .i64 xd, .int .i64 (xl)] 37)).trans (below_of_grown hg2 (by simp; omega) (fun k hk => (HO.out.lt k hk).1))); clear ho2 hg2 hn2))
          go_roundw
          case rel => exact ⟨k, N + 1, _, by omega, Lib.hid (by have := HNJ.out; omega), by go_num, Lib.hid (by rw [← HST.out, HBU.out]), HO2, HB2⟩
          case measure => simp [intOf]
end Go.Proofs.Ytmdpncjffikmiaa
