/- Appends that tell what becomes of the old row; tokens whose bytes are written over. -/
import Derived.Test.YtmdpncjffikmiaaSqTs
import Derived.Test.YtmdpncjffikmiaaS2
namespace Go.Proofs.Ytmdpncjffikmiaa
open Go Go.RowKit
set_option linter.unusedVariables false
set_option linter.unusedSimpArgs false

section
variable {P : Program}
theorem run_append_K (w : World) (base : Nat) (t ty e : TypeId) (i : TypeInfo) (z : Value) (bytes : Nat) (ht : P.underlying t = some (.slice e)) (hi : P.info? e = some i) (hz : i.zero = some z)
    (hsize : i.size = 1) (hby : i.bytes = bytes) (hzs : z.cells.size = 1)
    (v : Value) (n : Nat) (xs : List Value) (hown : w.ownsRow base e 1 v n xs)
    (a : Addr) (m c : Nat) (news : List Value) (hl : news.length = m) (hnews : ∀ j u, news[j]? = some u → w.cell? (a.add j) = some u) (h1 : ∀ u ∈ news, u.oneCell' = true)
    (h63 : n + m ≤ maxLen) (hbytes : (n + m) * bytes ≤ 140737488355328) (hbase : base ≤ w.heap.size) :
    ∃ v' w', (Builtin.append_ #[t, t] ty #[v, .slice (some a) m c]).run P w = .ok v' w' ∧ w'.ownsRow base e 1 v' (n + m) (xs ++ news) ∧
      ((v'.ownBlock = v.ownBlock ∧ w.grownBy w' v.ownBlock) ∨ (v'.ownBlock = some w.heap.size ∧ Below w.heap.size w w')) := by
  obtain ⟨v', w', hr, h2, h3, _, h5⟩ := run_append_own_at (P := P) w base t ty e i z 1 bytes ht hi hz hsize hby hzs (by omega) v n xs hown a m c news (by omega) hnews h1 h63 hbytes hbase
  have hxl : xs.length = n := by have := hown.1; omega
  rcases hown.2 with ⟨rfl, rfl⟩ | ⟨g, cap, cur, rfl, hbg, hg, hnc, hcm, hcs, htake⟩
  · refine ⟨v', w', hr, h2, ?_⟩
    rcases h5 with h5 | h5
    · exact .inl ⟨h5, h3⟩
    · exact .inr ⟨h5, below_of_grown h3 (Nat.le_refl _) (fun k hk => by simp [Value.ownBlock] at hk)⟩
  · by_cases hroom : n + m ≤ cap
    · have hr2 := run_append_room (P := P) w t ty e i ht hi g n cap cur hg a m c news (by rw [hsize]; omega) hnews h1 hroom (by rw [hsize]; omega)
      have e0 := hr2.symm.trans hr
      injection e0 with e1 e2
      subst e1 e2
      exact ⟨_, _, hr, h2, .inl ⟨rfl, h3⟩⟩
    · have hr2 := run_append_grow (P := P) w t ty e i z ht hi hz ⟨g, 0, none⟩ n cap xs (by rw [hsize]; omega) (hown.cells (g := g) rfl) a m c news (by rw [hsize]; omega) hnews (by omega) (by simp only [maxLen] at h63; omega) (by rw [hby]; exact growslice_fits (by omega) hbytes)
      have e0 := hr2.symm.trans hr
      injection e0 with e1 e2
      subst e1 e2
      exact ⟨_, _, hr, h2, .inr ⟨rfl, undrew ((Below.refl w.heap.size w.drew).alloc (Nat.le_refl _) _)⟩⟩
end

theorem push8K (w : World) {ops : Array Oper} {rest : List Oper} {o : Oper} {a : Act} {Q : Exit → Act → World → Prop} (hgd : o.guard = none) (s x : Operand)
    (ho : o.op = .call { callee := .builtin .append, args := #[s, x], argTypes := #[23, 23] })
    (base : Nat) (v : Value) (n : Nat) (xs : List Nat) (hs : a.eval s = v) (hown : w.ownsRow base 5 1 v n (b8 xs)) (z : Int) (b : Nat) (hz : z = (b : Int))
    (hx : a.eval x = .slice (some ⟨w.heap.size, 0, none⟩) 1 1)
    (hbytes : n + 1 ≤ 140737488355328) (hbase : base ≤ w.heap.size)
    (h : ∀ v' w', w'.ownsRow base 5 1 v' (n + 1) (b8 (xs ++ [b])) → ((v'.ownBlock = v.ownBlock ∧ w.grownBy w' v.ownBlock) ∨ (∃ k, v'.ownBlock = some k ∧ w.heap.size ≤ k ∧ Below w.heap.size w w')) → wpList Try.prog ops Q rest (a.put o.dst v') w') :
    wpList Try.prog ops Q (o :: rest) a (w.alloc (.cells #[.int .u8 z] 5)) := by
  subst hz
  obtain ⟨i0, hi, hz0, hz1, hz2⟩ := info_parts info8
  refine wpList_plain hgd fun K hK => ?_
  have hb : Below w.heap.size w (w.alloc (.cells #[.int .u8 (b : Int)] 5)) := (Below.refl _ _).alloc (Nat.le_refl _) _
  obtain ⟨v', w', hrun, h2, h5⟩ := run_append_K (P := Try.prog) (w.alloc (.cells #[.int .u8 (b : Int)] 5)) base 23 o.type 5 i0 (.int .u8 0) 1 Try.underlying23 hi hz0 hz1 hz2 rfl v n (b8 xs) (hown.alloc _) ⟨w.heap.size, 0, none⟩ 1 1 [.int .u8 (b : Int)] rfl
    (cell_one_new w _ _)
    (by intro u hu; rw [List.mem_singleton] at hu; subst hu; rfl) (by unfold maxLen; omega) (by omega) (by simp; omega)
  unfold Oper.wp execOp
  simp only [ho, resolve, invoke, builtin, Sem.run_bind, Sem.run_pure, Result.andThen_ok, List.map_toArray, List.map_cons, List.map_nil, hs, hx, hrun]
  refine hK _ _ (h v' w' (by rw [b8_append]; exact h2) ?_)
  rcases h5 with ⟨h5, h6⟩ | ⟨h5, h6⟩
  · exact .inl ⟨h5, grown_trans (grown_of_below hb _) h6⟩
  · refine .inr ⟨_, h5, by simp, hb.trans (h6.mono (by simp))⟩

/-- What is asked of tokens' places. -/
theorem map_A_set (l : List TkV) (i : Nat) (x y : TkV) (hi : l[i]? = some x) (hA : y.A = x.A) : (l.set i y).map (·.A) = l.map (·.A) := by
  apply List.ext_getElem?
  intro j
  rw [List.getElem?_map, List.getElem?_map, List.getElem?_set]
  split
  · rename_i h
    subst h
    rw [hi]
    split <;> simp [hA, (List.getElem?_eq_some_iff.1 hi).1]
    rename_i h2
    exact absurd (List.getElem?_eq_some_iff.1 hi).1 h2
  · rfl
theorem tkCells_same (l : List TkV) (i : Nat) (x y : TkV) (hi : l[i]? = some x) (hc : y.cells = x.cells) : tkCells (l.set i y) = tkCells l := by
  unfold tkCells
  rw [List.flatMap_def, List.flatMap_def]
  congr 1
  apply List.ext_getElem?
  intro j
  rw [List.getElem?_map, List.getElem?_map, List.getElem?_set]
  split
  · rename_i h
    subst h
    rw [hi]
    split
    · simp [hc]
    · rename_i h2
      exact absurd (List.getElem?_eq_some_iff.1 hi).1 h2
  · rfl
section
variable {W : World} {B N : Nat} {v : Value} {l : List TkV}
theorem Ts.ne (h : Ts W B v N l) {i j : Nat} {x y : TkV} (hi : l[i]? = some x) (hj : l[j]? = some y) (hne : i ≠ j) {a b : Addr} (ha : x.A = some a) (hb : y.A = some b) : a.block ≠ b.block := by
  have hp := List.pairwise_iff_getElem.1 h.pw
  obtain ⟨h1, rfl⟩ := List.getElem?_eq_some_iff.1 hi
  obtain ⟨h2, rfl⟩ := List.getElem?_eq_some_iff.1 hj
  rcases Nat.lt_or_ge i j with h3 | h3
  · have := hp i j h1 h2 h3 a b ha hb; omega
  · have := hp j i h2 h1 (by omega) b a hb ha; omega
theorem Ts.store (h : Ts W B v N l) {i : Nat} {x : TkV} (hi : l[i]? = some x) {g : Nat} (hA : x.A = some ⟨g, 0, none⟩) {k z : Nat} (hz : z < 256) {zi : Int} (hzi : zi = (z : Int)) :
    Ts (W.setCell ⟨g, k, none⟩ (.int .u8 zi)) B v N (l.set i ⟨x.A, x.c, x.lit.set k z, x.d, x.l⟩) := by
  subst hzi
  have hx := h.lit x (List.mem_of_getElem? hi)
  have hx' := hx
  unfold OwnTk at hx'
  rw [hA] at hx'
  have hst := hx'.stored k (.int .u8 (z : Int))
  have hpl := h.pl x (List.mem_of_getElem? hi)
  have hle : ∀ {j : Nat} {y : TkV}, (l.set i ⟨x.A, x.c, x.lit.set k z, x.d, x.l⟩)[j]? = some y → (j = i ∧ y = ⟨x.A, x.c, x.lit.set k z, x.d, x.l⟩) ∨ (j ≠ i ∧ l[j]? = some y) := by
    intro j y hy
    rw [List.getElem?_set] at hy
    split at hy
    · rename_i h1
      subst h1
      split at hy
      · injection hy with hy
        exact .inl ⟨rfl, hy.symm⟩
      · cases hy
    · rename_i h1
      exact .inr ⟨fun e => h1 e.symm, hy⟩
  refine ⟨?_, ?_, ?_, ?_, ?_⟩
  · rw [tkCells_same l i x _ hi (by simp [TkV.cells])]
    refine h.row.kept hst.2 ?_
    right
    exact fun e => h.off x (List.mem_of_getElem? hi) _ hA e
  · intro y hy
    obtain ⟨j, hj⟩ := List.getElem?_of_mem hy
    rcases hle hj with ⟨_, rfl⟩ | ⟨hne, hj'⟩
    · unfold OwnTk
      simp only
      rw [hA, List.length_set]
      have := hst.1
      rw [b8_set''] at this
      exact this
    · refine (h.lit y (List.mem_of_getElem? hj')).kept hst.2 ?_
      cases ha : y.A with
      | none => exact .inl rfl
      | some a =>
        right
        intro e
        simp only [Value.ownBlock, Option.some.injEq] at e
        exact h.ne hj' hi hne ha hA e
  · intro y hy
    obtain ⟨j, hj⟩ := List.getElem?_of_mem hy
    rcases hle hj with ⟨_, rfl⟩ | ⟨hne, hj'⟩
    · refine ⟨?_, by simp only [List.length_set]; exact hpl.2.1, hpl.2.2⟩
      intro b hb
      rcases List.mem_or_eq_of_mem_set hb with hb | rfl
      · exact hpl.1 b hb
      · exact hz
    · exact h.pl y (List.mem_of_getElem? hj')
  · have h1 := h.pw
    have e1 : ∀ l : List TkV, l.Pairwise (fun x y => ∀ a b : Addr, x.A = some a → y.A = some b → a.block < b.block) ↔ (l.map (·.A)).Pairwise (fun x y => ∀ a b : Addr, x = some a → y = some b → a.block < b.block) := fun l => by rw [List.pairwise_map]
    rw [e1, map_A_set l i x ⟨x.A, x.c, x.lit.set k z, x.d, x.l⟩ hi rfl, ← e1]
    exact h1
  · intro y hy
    obtain ⟨j, hj⟩ := List.getElem?_of_mem hy
    rcases hle hj with ⟨_, rfl⟩ | ⟨hne, hj'⟩
    · exact h.off x (List.mem_of_getElem? hi)
    · exact h.off y (List.mem_of_getElem? hj')
end
end Go.Proofs.Ytmdpncjffikmiaa
