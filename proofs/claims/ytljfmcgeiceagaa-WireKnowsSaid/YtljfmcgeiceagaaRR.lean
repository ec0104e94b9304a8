/- Several texts in one: AppStep, RRdr, RRdr2, RRdr3, RRdr4, RRdr5. -/
import Derived.Test.YtljfmcgeiceagaaF1
import Derived.Test.YtljfmcgeiceagaaF2
import Derived.Deep.RegionHeld3
import Derived.Lib.AppendStr
import Derived.Test.YtljfmcgeiceagaaF4
import Derived.StillTailTactics
/- append as one step of a region that draws. -/
namespace Go.Proofs.Ytljfmcgeiceagaa
open Go Go.RowKit
set_option linter.unusedVariables false

section
variable {P : Program}
/-- One step: the value and the world. -/
theorem oper_app (w : World) {o : Oper} {a : Act} {Q : Exit → Act → World → Prop} {K : Act → World → Prop} (s x : Operand) (t u : TypeId)
    (ho : o.op = .call { callee := .builtin .append, args := #[s, x], argTypes := #[t, u] }) (v y v' : Value) (w' : World) (hs : a.eval s = v) (hx : a.eval x = y)
    (hrun : (Builtin.append_ #[t, u] o.type #[v, y]).run P w = .ok v' w') (hK : K (a.put o.dst v') w') : Oper.wp P o a w K Q := by
  unfold Oper.wp execOp
  simp only [ho, resolve, invoke, builtin, Sem.run_bind, Sem.run_pure, Result.andThen_ok, List.map_toArray, List.map_cons, List.map_nil, hs, hx, hrun]
  exact hK
theorem run_app (w : World) (base : Nat) (t ty e : TypeId) (i : TypeInfo) (z : Value) (size bytes : Nat) (ht : P.underlying t = some (.slice e)) (hi : P.info? e = some i) (hz : i.zero = some z)
    (hsize : i.size = size) (hby : i.bytes = bytes) (hzs : z.cells.size = size) (hsz : 0 < size)
    (v : Value) (n : Nat) (xs : List Value) (hown : w.ownsRow base e size v n xs)
    (A : Option Addr) (m c : Nat) (news : List Value) (hl : news.length = m * size) (hr : Rd w A news) (h1 : ∀ u ∈ news, u.oneCell' = true)
    (hbytes : (n + m) * bytes ≤ 140737488355328) (h63 : n + m ≤ maxLen) (hbase : base ≤ w.heap.size) :
    ∃ v' w', (Builtin.append_ #[t, t] ty #[v, .slice A m c]).run P w = .ok v' w' ∧ w'.ownsRow base e size v' (n + m) (xs ++ news) ∧ w.grownBy w' v.ownBlock ∧ (v'.ownBlock = v.ownBlock ∨ ∃ k, v'.ownBlock = some k ∧ w.heap.size ≤ k) := by
  rcases A with _ | ad
  · have hn : news = [] := by
      apply Classical.byContradiction
      intro hne
      obtain ⟨g, off, hh, _⟩ := hr hne
      cases hh
    subst hn
    have hm : m = 0 := by
      rcases Nat.eq_zero_or_pos m with h0 | h0
      · exact h0
      · have := Nat.mul_pos h0 hsz
        simp at hl
        omega
    subst hm
    refine ⟨v, w, ?_, by simpa using hown, ⟨rfl, rfl, rfl, Nat.le_refl _, fun _ _ _ => rfl⟩, .inl rfl⟩
    rcases hown.2 with ⟨rfl, rfl⟩ | ⟨g, cap, cur, rfl, _, _, hnc, _⟩
    · simp [Builtin.append_, run_underlying ht, sizeOf, typeInfo, hi, Builtin.lenOf, Builtin.firstCells]
    · simp [Builtin.append_, run_underlying ht, sizeOf, typeInfo, hi, Builtin.lenOf, Builtin.firstCells, hnc, storeCells]
  · have hcells : ∀ j u, news[j]? = some u → w.cell? (ad.add j) = some u := by
      intro j u hu
      obtain ⟨g, off, hh, _, hc⟩ := hr (by rintro rfl; simp at hu)
      injection hh with hh
      subst hh
      rw [add_zero_off]
      exact hc j u hu
    obtain ⟨v', w', hrun, h2, h3, _, h5⟩ := run_append_own_at (P := P) w base t ty e i z size bytes ht hi hz hsize hby hzs hsz v n xs hown ad m c news hl hcells h1 h63 hbytes hbase
    refine ⟨v', w', hrun, h2, h3, ?_⟩
    rcases h5 with h5 | h5
    · exact .inl h5
    · exact .inr ⟨_, h5, by omega⟩
theorem wanted_plain {o : Oper} (hg : o.guard = none) (l : List Bool) (ops : Array Oper) (a : Act) : Region.wanted o (yielded ops a.tmps) = true := by simp [Region.wanted, hg]
end

section
variable {ops : Array Oper} {o : Oper} {a : Act} {K : Act → World → Prop} {Q : Exit → Act → World → Prop} {E : Prop}
theorem step_app8 (w : World) (hg : o.guard = none) (s x : Operand)
    (ho : o.op = .call { callee := .builtin .append, args := #[s, x], argTypes := #[25, 25] })
    (base : Nat) (v : Value) (n : Nat) (xs : List Nat) (hs : a.eval s = v) (hown : w.ownsRow base 5 1 v n (b8 xs))
    (A : Option Addr) (m c : Nat) (news : List Nat) (hx : a.eval x = .slice A m c) (hl : news.length = m) (hr : Rd w A (b8 news))
    (hbytes : n + m ≤ 140737488355328) (hbase : base ≤ w.heap.size)
    (h : ∀ v' w', w'.ownsRow base 5 1 v' (n + m) (b8 (xs ++ news)) → w.grownBy w' v.ownBlock → (v'.ownBlock = v.ownBlock ∨ ∃ k, v'.ownBlock = some k ∧ w.heap.size ≤ k) → K (a.put o.dst v') w') :
    if Region.wanted o (yielded ops a.tmps) = true then Oper.wp Try.prog o a w K Q else E := by
  rw [if_pos (by simp [Region.wanted, hg])]
  obtain ⟨i0, hi, hz0, hz1, hz2⟩ := info_parts info8
  obtain ⟨v', w', hrun, h1, h2, h3⟩ := run_app (P := Try.prog) w base 25 o.type 5 i0 (.int .u8 0) 1 1 Try.underlying25 hi hz0 hz1 hz2 rfl (by omega) v n (b8 xs) hown A m c (b8 news) (by rw [b8_length]; omega) hr (b8_one _) (by omega) (by unfold maxLen; omega) hbase
  exact oper_app w s x _ _ ho v _ v' w' hs hx hrun (h v' w' (by rw [b8_append]; exact h1) h2 h3)

theorem step_push8 (w : World) (hg : o.guard = none) (s x : Operand)
    (ho : o.op = .call { callee := .builtin .append, args := #[s, x], argTypes := #[25, 25] })
    (base : Nat) (v : Value) (n : Nat) (xs : List Nat) (hs : a.eval s = v) (hown : w.ownsRow base 5 1 v n (b8 xs)) (z : Int) (b : Nat) (hz : z = (b : Int))
    (hx : a.eval x = .slice (some ⟨w.heap.size, 0, none⟩) 1 1)
    (hbytes : n + 1 ≤ 140737488355328) (hbase : base ≤ w.heap.size)
    (h : ∀ v' w', w'.ownsRow base 5 1 v' (n + 1) (b8 (xs ++ [b])) → w.grownBy w' v.ownBlock → (v'.ownBlock = v.ownBlock ∨ ∃ k, v'.ownBlock = some k ∧ w.heap.size ≤ k) → K (a.put o.dst v') w') :
    if Region.wanted o (yielded ops a.tmps) = true then Oper.wp Try.prog o a (w.alloc (.cells #[.int .u8 z] 5)) K Q else E := by
  subst hz
  refine step_app8 (w.alloc (.cells #[.int .u8 (b : Int)] 5)) hg s x ho base v n xs hs (hown.alloc _) (some ⟨w.heap.size, 0, none⟩) 1 1 [b] hx rfl (rd_lit w (b8 [b]) _) hbytes (by simp; omega) ?_
  intro v' w' h1 h2 h3
  refine h v' w' h1 (grown_trans (World.grownBy_alloc w _ _) h2) ?_
  rcases h3 with h3 | ⟨k, h3, h4⟩
  · exact .inl h3
  · exact .inr ⟨k, h3, by simp at h4; omega⟩

theorem strCells_b8 (s : ByteArray) : Lib.strCells s = b8 (sb s) := by simp [Lib.strCells, b8, sb]

theorem step_appS (w : World) (hg : o.guard = none) (s x : Operand)
    (ho : o.op = .call { callee := .builtin .append, args := #[s, x], argTypes := #[25, 9] })
    (base : Nat) (v : Value) (n : Nat) (xs : List Nat) (hs : a.eval s = v) (hown : w.ownsRow base 5 1 v n (b8 xs))
    (st : ByteArray) (hx : a.eval x = .string st)
    (hbytes : n + st.size ≤ 140737488355328) (hbase : base ≤ w.heap.size)
    (h : ∀ v' w', w'.ownsRow base 5 1 v' (n + st.size) (b8 (xs ++ sb st)) → w.grownBy w' v.ownBlock → K (a.put o.dst v') w') :
    if Region.wanted o (yielded ops a.tmps) = true then Oper.wp Try.prog o a w K Q else E := by
  rw [if_pos (by simp [Region.wanted, hg])]
  obtain ⟨i0, hi, hz0, hz1, hz2⟩ := info_parts info8
  obtain ⟨v', w', hrun, h1, h2, _⟩ := Lib.run_append_own_string (P := Try.prog) w base 25 9 o.type 5 i0 Try.underlying25 Try.underlying9 hi hz0 hz1 hz2 v n (b8 xs) hown st (by unfold maxLen; omega) hbytes hbase
  exact oper_app w s x _ _ ho v _ v' w' hs hx hrun (h v' w' (by rw [b8_append, ← strCells_b8]; exact h1) h2)
end
end Go.Proofs.Ytljfmcgeiceagaa

/- The document's readers in memory. -/
namespace Go.Proofs.Ytljfmcgeiceagaa
open Go Go.RowKit
set_option linter.unusedVariables false
set_option linter.unusedSimpArgs false
set_option linter.unusedSectionVars false

/-- Its cells. -/
structure RF (W : World) (g : Nat) (v : Value) (p : Int) (e : Int) (q : Int) : Prop where
  c0 : W.cell? ⟨g, 0, none⟩ = some v
  c1 : W.cell? ⟨g, 1, none⟩ = some (.int .i64 p)
  c2 : W.cell? ⟨g, 2, none⟩ = some (.int .i64 e)
  c3 : W.cell? ⟨g, 3, none⟩ = some (.int .i64 q)
  f1 : W.frozen? ⟨g, 1, none⟩ = false
  f2 : W.frozen? ⟨g, 2, none⟩ = false
  f3 : W.frozen? ⟨g, 3, none⟩ = false
theorem Rdr.rf {base : Nat} {W : World} {T : TypeId} {g : Nat} {v : Value} {s : Rs} (h : Rdr base W T Rs.rcells g v s) : RF W g v s.p s.err s.ea := by
  have hc := h.cell
  unfold Rs.rcells at hc
  constructor <;> first | (rw [cell_of_row W g _ _ _ _ hc]; rfl) | simp [World.frozen?, hc]

end Go.Proofs.Ytljfmcgeiceagaa

/- The document's readers: Raw, and numbers of four and eight bytes. (Printed by gen_rrdr2.py.) -/
namespace Go.Proofs.Ytljfmcgeiceagaa
open Go Go.RowKit
set_option linter.unusedVariables false
set_option linter.unusedSimpArgs false
set_option linter.unusedSectionVars false

end Go.Proofs.Ytljfmcgeiceagaa

/- The document's readers: Raw, Byte, U32, U64, End, NewReader. -/
namespace Go.Proofs.Ytljfmcgeiceagaa
open Go Go.RowKit
set_option linter.unusedVariables false
set_option linter.unusedSimpArgs false
set_option linter.unusedSectionVars false

theorem val_one {s : Rs} : val (s.take 1).1 = (s.take 1).1.headD 0 := by
  have h := s.take_len4 1
  have e1 : ((1 : Nat) : Int) = 1 := rfl
  rw [e1] at h
  cases hq : (s.take 1).1 with
  | nil => rfl
  | cons x r =>
    rw [hq] at h
    have : r = [] := by simpa using h
    subst this
    simp [val]
theorem Rs.val1 {s : Rs} (h : s.Ok) : val (s.take 1).1 < 256 := by
  have h1 := val_lt _ _ (s.take_by h 1) rfl
  have h2 := s.take_len4 1
  have h3 : (256 : Nat) ^ (s.take 1).1.length ≤ 256 ^ 1 := Nat.pow_le_pow_right (by omega) h2
  omega

end Go.Proofs.Ytljfmcgeiceagaa

/- Readers: Uvarint. (Printed by gen_rrdr4.py.) -/
namespace Go.Proofs.Ytljfmcgeiceagaa
open Go Go.RowKit
set_option linter.unusedVariables false
set_option linter.unusedSimpArgs false

end Go.Proofs.Ytljfmcgeiceagaa

/- The document's readers: Text. (Printed by gen_rrdr5.py.) -/
namespace Go.Proofs.Ytljfmcgeiceagaa
open Go Go.RowKit
set_option linter.unusedVariables false
set_option linter.unusedSimpArgs false

theorem at_world {P : Program} {C : Code} {Q : Exit → Act → World → Prop} {a : Act} {w : World} (F : World → Prop) (hF : F w) (h : ∀ W, F W → Code.wp P C Q a W) : Code.wp P C Q a w := h w hF
theorem ru_nil_no {z k : Nat} (h : Uv.ru 0 0 [] = (z, k, 0)) : False := by simp [Uv.ru] at h
end Go.Proofs.Ytljfmcgeiceagaa
