/- Spread: the rows under way: shares, rests, places. -/
import Derived.Test.YthcmkjiemlfpcaaSpSort
import Derived.Test.YthcmkjiemlfpcaaWalkQuotaShares
import Derived.Maps.AppendAt
import Derived.Deep.RegionLaw
namespace Go.Proofs.Ythcmkjiemlfpcaa
open Go Go.RowKit
set_option linter.unusedVariables false
set_option linter.unusedSimpArgs false

theorem infoInt : (Try.prog.info? 3).map (fun i => (i.zero, i.size, i.bytes)) = some (some (.int .i64 0), 1, 8) := by kernel_rfl
theorem nats_one (l : List Nat) : ∀ u ∈ nats l, u.oneCell' = true := by
  intro u hu
  obtain ⟨k, _, rfl⟩ := List.mem_map.1 hu
  rfl
theorem nats_append (a b : List Nat) : nats (a ++ b) = nats a ++ nats b := by simp [nats]
set_option maxRecDepth 100000 in
/-- One number behind a row of the call's own, as a step of a region that draws. -/
theorem step_push64 (w : World) {ops : Array Oper} {o : Oper} {a : Act} {K : Act → World → Prop} {Q : Exit → Act → World → Prop} {E : Prop} (hgd : o.guard = none) (s x : Operand)
    (ho : o.op = .call { callee := .builtin .append, args := #[s, x], argTypes := #[36, 36] })
    (base : Nat) (v : Value) (n : Nat) (xs : List Int) (hs : a.eval s = v) (hown : w.ownsRow base 2 1 v n (i64s xs)) (z : Int) (q : Nat) (hq : q = w.heap.size)
    (hx : a.eval x = .slice (some ⟨q, 0, none⟩) 1 1)
    (hbytes : (n + 1) * 8 ≤ 140737488355328) (hbase : base ≤ w.heap.size)
    (h : ∀ v' w', w'.ownsRow base 2 1 v' (n + 1) (i64s (xs ++ [z])) → w.grownBy w' v.ownBlock → (v'.ownBlock = v.ownBlock ∨ ∃ k, v'.ownBlock = some k ∧ w.heap.size ≤ k) → K (a.put o.dst v') w') :
    if Region.wanted o (yielded ops a.tmps) = true then Oper.wp Try.prog o a (w.alloc (.cells #[.int .i64 z] 2)) K Q else E := by
  subst hq
  have hw : Region.wanted o (yielded ops a.tmps) = true := by simp [Region.wanted, hgd]
  rw [if_pos hw]
  obtain ⟨i0, hi, hz0, hz1, hz2⟩ := info_parts info64
  have hr : Rd (w.alloc (.cells #[.int .i64 z] 2)) (some ⟨w.heap.size, 0, none⟩) [.int .i64 z] := rd_lit64 w _ _
  obtain ⟨v', w', hrun, h2, h3, _, h5⟩ := run_append_own_at (P := Try.prog) (w.alloc (.cells #[.int .i64 z] 2)) base 36 o.type 2 i0 _ 1 8 Try.underlying36 hi hz0 hz1 hz2 rfl (by omega) v n (i64s xs) (hown.alloc _) ⟨w.heap.size, 0, none⟩ 1 1 [.int .i64 z] rfl
    (by
      intro j u hj
      obtain ⟨g, off, e, _, hc⟩ := hr (by simp)
      injection e with e
      injection e with e1 e2
      subst e1 e2
      have h1 := hc j u hj
      rw [Nat.zero_add] at h1
      have e3 : (⟨w.heap.size, 0, none⟩ : Addr).add j = ⟨w.heap.size, j, none⟩ := by
        unfold Addr.add
        split
        next h0 => rw [show j = 0 from h0]
        next h0 => simp
      rw [e3]
      exact h1)
    (fun u hu => by simp at hu; subst hu; rfl) (by unfold maxLen; omega) hbytes (by simp; omega)
  unfold Oper.wp execOp
  simp only [ho, resolve, invoke, builtin, Sem.run_bind, Sem.run_pure, Result.andThen_ok, List.map_toArray, List.map_cons, List.map_nil, hs, hx, hrun]
  exact h v' w' (by rw [i64s_append]; exact h2) (grown_then (World.grownBy_alloc w _ _) h3) (by
    rcases h5 with h5 | h5
    · exact .inl h5
    · exact .inr ⟨_, h5, by simp⟩)
/-- One place behind the row of places, as a step of a region that draws. -/
theorem step_pushI (w : World) {ops : Array Oper} {o : Oper} {a : Act} {K : Act → World → Prop} {Q : Exit → Act → World → Prop} {E : Prop} (hgd : o.guard = none) (s x : Operand)
    (ho : o.op = .call { callee := .builtin .append, args := #[s, x], argTypes := #[56, 56] })
    (base : Nat) (v : Value) (n : Nat) (xs : List Nat) (hs : a.eval s = v) (hown : w.ownsRow base 3 1 v n (nats xs)) (z : Nat) (q : Nat) (hq : q = w.heap.size)
    (hx : a.eval x = .slice (some ⟨q, 0, none⟩) 1 1)
    (hbytes : (n + 1) * 8 ≤ 140737488355328) (hbase : base ≤ w.heap.size)
    (h : ∀ v' w', w'.ownsRow base 3 1 v' (n + 1) (nats (xs ++ [z])) → w.grownBy w' v.ownBlock → (v'.ownBlock = v.ownBlock ∨ ∃ k, v'.ownBlock = some k ∧ w.heap.size ≤ k) → K (a.put o.dst v') w') :
    if Region.wanted o (yielded ops a.tmps) = true then Oper.wp Try.prog o a (w.alloc (.cells #[.int .i64 (z : Int)] 3)) K Q else E := by
  subst hq
  have hw : Region.wanted o (yielded ops a.tmps) = true := by simp [Region.wanted, hgd]
  rw [if_pos hw]
  obtain ⟨i0, hi, hz0, hz1, hz2⟩ := info_parts infoInt
  have hr : Rd (w.alloc (.cells #[.int .i64 (z : Int)] 3)) (some ⟨w.heap.size, 0, none⟩) [.int .i64 (z : Int)] := rd_lit64 w _ _
  obtain ⟨v', w', hrun, h2, h3, _, h5⟩ := run_append_own_at (P := Try.prog) (w.alloc (.cells #[.int .i64 (z : Int)] 3)) base 56 o.type 3 i0 _ 1 8 Try.underlying56 hi hz0 hz1 hz2 rfl (by omega) v n (nats xs) (hown.alloc _) ⟨w.heap.size, 0, none⟩ 1 1 [.int .i64 (z : Int)] rfl
    (by
      intro j u hj
      obtain ⟨g, off, e, _, hc⟩ := hr (by simp)
      injection e with e
      injection e with e1 e2
      subst e1 e2
      have h1 := hc j u hj
      rw [Nat.zero_add] at h1
      have e3 : (⟨w.heap.size, 0, none⟩ : Addr).add j = ⟨w.heap.size, j, none⟩ := by
        unfold Addr.add
        split
        next h0 => rw [show j = 0 from h0]
        next h0 => simp
      rw [e3]
      exact h1)
    (fun u hu => by simp at hu; subst hu; rfl) (by unfold maxLen; omega) hbytes (by simp; omega)
  unfold Oper.wp execOp
  simp only [ho, resolve, invoke, builtin, Sem.run_bind, Sem.run_pure, Result.andThen_ok, List.map_toArray, List.map_cons, List.map_nil, hs, hx, hrun]
  exact h v' w' (by rw [nats_append]; exact h2) (grown_then (World.grownBy_alloc w _ _) h3) (by
    rcases h5 with h5 | h5
    · exact .inl h5
    · exact .inr ⟨_, h5, by simp⟩)
theorem pushI (w : World) {ops : Array Oper} {rest : List Oper} {o : Oper} {a : Act} {Q : Exit → Act → World → Prop} (hgd : o.guard = none) (s x : Operand)
    (ho : o.op = .call { callee := .builtin .append, args := #[s, x], argTypes := #[56, 56] })
    (base : Nat) (v : Value) (n : Nat) (xs : List Nat) (hs : a.eval s = v) (hown : w.ownsRow base 3 1 v n (nats xs)) (z : Nat)
    (hx : a.eval x = .slice (some ⟨w.heap.size, 0, none⟩) 1 1)
    (hbytes : (n + 1) * 8 ≤ 140737488355328) (hbase : base ≤ w.heap.size)
    (h : ∀ v' w', w'.ownsRow base 3 1 v' (n + 1) (nats (xs ++ [z])) → w.grownBy w' v.ownBlock → (v'.ownBlock = v.ownBlock ∨ ∃ k, v'.ownBlock = some k ∧ w.heap.size ≤ k) → wpList Try.prog ops Q rest (a.put o.dst v') w') :
    wpList Try.prog ops Q (o :: rest) a (w.alloc (.cells #[.int .i64 (z : Int)] 3)) := by
  obtain ⟨i0, hi, hz0, hz1, hz2⟩ := info_parts infoInt
  refine wpList_push w hgd s x 56 ho base 3 i0 (.int .i64 0) 8 Try.underlying56 hi hz0 hz1 hz2 rfl v n (nats xs) hs hown (.int .i64 (z : Int)) rfl hx (by omega) (by unfold maxLen; omega) hbase ?_
  intro v' w' h1 h2 h3
  exact h v' w' (by rw [nats_append]; exact h1) h2 h3

theorem own_keepG {w w' : World} {base n : Nat} {e : TypeId} {size : Nat} {v : Value} {xs : List Value} {r : Option Nat} (h : w.ownsRow base e size v n xs) (hg : w.grownBy w' r) (hne : ∀ q, r = some q → v.ownBlock ≠ some q) : w'.ownsRow base e size v n xs :=
  h.kept hg (by
    cases hv : v.ownBlock with
    | none => exact .inl rfl
    | some q =>
      right
      intro hh
      exact hne q hh.symm hv)
theorem set_grown (W : World) (b k : Nat) (u : Value) : W.grownBy (W.setCell ⟨b, k, none⟩ u) (some b) := ⟨rfl, rfl, rfl, by simp, fun j _ hj => heap_setCell_other W ⟨b, k, none⟩ j u (fun e => hj (by rw [e]))⟩
/-- Under way: the box of the rests (block w), the box of the places (behind it), the three rows. -/
structure SpS (w W : World) (no nr nd : Nat) (xs rs : List Int) (os : List Nat) (vo vr vd : Value) : Prop where
  br : W.heap[w.heap.size]? = some (.cells #[vr] 36 (0, 0))
  bo : W.heap[w.heap.size + 1]? = some (.cells #[vd] 56 (0, 0))
  out : W.ownsRow (w.heap.size + 2) 2 1 vo no (i64s xs)
  rst : W.ownsRow (w.heap.size + 2) 2 1 vr nr (i64s rs)
  ord : W.ownsRow (w.heap.size + 2) 3 1 vd nd (nats os)
  n1 : ∀ q, vo.ownBlock = some q → vr.ownBlock ≠ some q
  n2 : ∀ q, vo.ownBlock = some q → vd.ownBlock ≠ some q
  n3 : ∀ q, vr.ownBlock = some q → vd.ownBlock ≠ some q
  be : Below w.heap.size w W
  lt : w.heap.size + 2 ≤ W.heap.size
section
variable {w W W' : World} {no nr nd : Nat} {xs rs : List Int} {os : List Nat} {vo vr vd v' : Value}
theorem SpS.start (w : World) : SpS w ((w.alloc (.cells #[.slice none 0 0] 36)).alloc (.cells #[.slice none 0 0] 56)) 0 0 0 [] [] [] (.slice none 0 0) (.slice none 0 0) (.slice none 0 0) where
  br := by
    have h1 := heap_alloc_new w (.cells #[.slice none 0 0] 36)
    have h2 := ((Below.refl _ _).alloc (Nat.le_refl _) (.cells #[.slice none 0 0] 56)).block w.heap.size (show w.heap.size < (w.alloc (.cells #[.slice none 0 0] 36)).heap.size by simp)
    exact h2.trans h1
  bo := by
    have h1 := heap_alloc_new (w.alloc (.cells #[.slice none 0 0] 36)) (.cells #[.slice none 0 0] 56)
    simpa using h1
  out := World.ownsRow_nil _ _ _ _
  rst := World.ownsRow_nil _ _ _ _
  ord := World.ownsRow_nil _ _ _ _
  n1 := fun q h => by simp [Value.ownBlock] at h
  n2 := fun q h => by simp [Value.ownBlock] at h
  n3 := fun q h => by simp [Value.ownBlock] at h
  be := ((Below.refl _ _).alloc (Nat.le_refl _) _).alloc (by simp) _
  lt := by simp
theorem SpS.boxes (h : SpS w W no nr nd xs rs os vo vr vd) : W.cell? ⟨w.heap.size, 0, none⟩ = some vr ∧ W.cell? ⟨w.heap.size + 1, 0, none⟩ = some vd ∧ W.frozen? ⟨w.heap.size, 0, none⟩ = false ∧ W.frozen? ⟨w.heap.size + 1, 0, none⟩ = false :=
  ⟨cell_of_row W _ 0 _ _ _ h.br, cell_of_row W _ 0 _ _ _ h.bo, frozen_of_row W _ 0 _ _ h.br, frozen_of_row W _ 0 _ _ h.bo⟩
/-- Another part of the memory grows. -/
theorem SpS.grown {r : Option Nat} (h : SpS w W no nr nd xs rs os vo vr vd) (hg : W.grownBy W' r) (h0 : ∀ q, r = some q → w.heap.size + 2 ≤ q) (h1 : ∀ q, r = some q → vo.ownBlock ≠ some q) (h2 : ∀ q, r = some q → vr.ownBlock ≠ some q) (h3 : ∀ q, r = some q → vd.ownBlock ≠ some q) : SpS w W' no nr nd xs rs os vo vr vd where
  br := (hg.block _ (by have := h.lt; omega) (fun e => by have := h0 _ e.symm; omega)).trans h.br
  bo := (hg.block _ (by have := h.lt; omega) (fun e => by have := h0 _ e.symm; omega)).trans h.bo
  out := own_keepG h.out hg h1
  rst := own_keepG h.rst hg h2
  ord := own_keepG h.ord hg h3
  n1 := h.n1
  n2 := h.n2
  n3 := h.n3
  be := h.be.trans (below_of_grown hg (by have := h.lt; omega) (fun q hq => by have := h0 q hq; omega))
  lt := Nat.le_trans h.lt hg.size
theorem SpS.quiet (h : SpS w W no nr nd xs rs os vo vr vd) (hg : W.grownBy W' none) : SpS w W' no nr nd xs rs os vo vr vd := h.grown hg (fun q e => by cases e) (fun q e => by cases e) (fun q e => by cases e) (fun q e => by cases e)
theorem SpS.drew (h : SpS w W no nr nd xs rs os vo vr vd) : SpS w W.drew no nr nd xs rs os vo vr vd := h.quiet ⟨rfl, rfl, rfl, Nat.le_refl _, fun _ _ _ => rfl⟩
theorem SpS.pushO {z : Int} (h : SpS w W no nr nd xs rs os vo vr vd) (ho : W'.ownsRow (w.heap.size + 2) 2 1 v' (no + 1) (i64s (xs ++ [z]))) (hg : W.grownBy W' vo.ownBlock) (how : v'.ownBlock = vo.ownBlock ∨ ∃ k, v'.ownBlock = some k ∧ W.heap.size ≤ k) : SpS w W' (no + 1) nr nd (xs ++ [z]) rs os v' vr vd := by
  have hlt := h.lt
  have n1 : ∀ q, v'.ownBlock = some q → vr.ownBlock ≠ some q := fun q hq => by
    rcases how with e | ⟨k, e, hk⟩
    · exact h.n1 q (e ▸ hq)
    · intro h2
      have := (h.rst.lt q h2).2
      rw [e] at hq
      injection hq with hq
      omega
  have n2 : ∀ q, v'.ownBlock = some q → vd.ownBlock ≠ some q := fun q hq => by
    rcases how with e | ⟨k, e, hk⟩
    · exact h.n2 q (e ▸ hq)
    · intro h2
      have := (h.ord.lt q h2).2
      rw [e] at hq
      injection hq with hq
      omega
  have k1 : ∀ q, vo.ownBlock = some q → w.heap.size + 2 ≤ q := fun q hq => (h.out.lt q hq).1
  exact ⟨(hg.block _ (by omega) (fun e => by have := k1 _ e.symm; omega)).trans h.br, (hg.block _ (by omega) (fun e => by have := k1 _ e.symm; omega)).trans h.bo, ho, own_keepG h.rst hg h.n1, own_keepG h.ord hg h.n2, n1, n2, h.n3,
    h.be.trans (below_of_grown hg (by omega) (fun q hq => by have := k1 q hq; omega)), Nat.le_trans hlt hg.size⟩
theorem SpS.pushR {z : Int} (h : SpS w W no nr nd xs rs os vo vr vd) (ho : W'.ownsRow (w.heap.size + 2) 2 1 v' (nr + 1) (i64s (rs ++ [z]))) (hg : W.grownBy W' vr.ownBlock) (how : v'.ownBlock = vr.ownBlock ∨ ∃ k, v'.ownBlock = some k ∧ W.heap.size ≤ k) :
    SpS w (W'.setCell ⟨w.heap.size, 0, none⟩ v') no (nr + 1) nd xs (rs ++ [z]) os vo v' vd := by
  have hlt := h.lt
  have n1 : ∀ q, vo.ownBlock = some q → v'.ownBlock ≠ some q := fun q hq h2 => by
    rcases how with e | ⟨k, e, hk⟩
    · exact h.n1 q hq (e ▸ h2)
    · have := (h.out.lt q hq).2
      rw [e] at h2
      injection h2 with h2
      omega
  have n3 : ∀ q, v'.ownBlock = some q → vd.ownBlock ≠ some q := fun q hq => by
    rcases how with e | ⟨k, e, hk⟩
    · exact h.n3 q (e ▸ hq)
    · intro h2
      have := (h.ord.lt q h2).2
      rw [e] at hq
      injection hq with hq
      omega
  have k1 : ∀ q, vr.ownBlock = some q → w.heap.size + 2 ≤ q := fun q hq => (h.rst.lt q hq).1
  have k2 : ∀ q, v'.ownBlock = some q → w.heap.size + 2 ≤ q := fun q hq => (ho.lt q hq).1
  have hsg := set_grown W' w.heap.size 0 v'
  have hbr' := (hg.block _ (by omega) (fun e => by have := k1 _ e.symm; omega)).trans h.br
  refine ⟨heap_setCell_same W' w.heap.size 0 _ _ v' hbr', (hsg.block _ (by have := hg.size; omega) (fun e => by injection e with e; omega)).trans ((hg.block _ (by omega) (fun e => by have := k1 _ e.symm; omega)).trans h.bo),
    own_keepG (own_keepG h.out hg (fun q hq hq2 => h.n1 q hq2 hq)) hsg (fun q hq hq2 => by injection hq with hq; have := (h.out.lt q hq2).1; omega), own_keepG ho hsg (fun q hq hq2 => by injection hq with hq; have := k2 q hq2; omega),
    own_keepG (own_keepG h.ord hg h.n3) hsg (fun q hq hq2 => by injection hq with hq; have := (h.ord.lt q hq2).1; omega), n1, h.n2, n3,
    (h.be.trans (below_of_grown hg (by omega) (fun q hq => by have := k1 q hq; omega))).setCell (Nat.le_refl _) _, by have := hg.size; simp; omega⟩
theorem SpS.pushD {z : Nat} (h : SpS w W no nr nd xs rs os vo vr vd) (ho : W'.ownsRow (w.heap.size + 2) 3 1 v' (nd + 1) (nats (os ++ [z]))) (hg : W.grownBy W' vd.ownBlock) (how : v'.ownBlock = vd.ownBlock ∨ ∃ k, v'.ownBlock = some k ∧ W.heap.size ≤ k) :
    SpS w (W'.setCell ⟨w.heap.size + 1, 0, none⟩ v') no nr (nd + 1) xs rs (os ++ [z]) vo vr v' := by
  have hlt := h.lt
  have n2 : ∀ q, vo.ownBlock = some q → v'.ownBlock ≠ some q := fun q hq h2 => by
    rcases how with e | ⟨k, e, hk⟩
    · exact h.n2 q hq (e ▸ h2)
    · have := (h.out.lt q hq).2
      rw [e] at h2
      injection h2 with h2
      omega
  have n3 : ∀ q, vr.ownBlock = some q → v'.ownBlock ≠ some q := fun q hq h2 => by
    rcases how with e | ⟨k, e, hk⟩
    · exact h.n3 q hq (e ▸ h2)
    · have := (h.rst.lt q hq).2
      rw [e] at h2
      injection h2 with h2
      omega
  have k1 : ∀ q, vd.ownBlock = some q → w.heap.size + 2 ≤ q := fun q hq => (h.ord.lt q hq).1
  have k2 : ∀ q, v'.ownBlock = some q → w.heap.size + 2 ≤ q := fun q hq => (ho.lt q hq).1
  have hsg := set_grown W' (w.heap.size + 1) 0 v'
  have hbo' := (hg.block _ (by omega) (fun e => by have := k1 _ e.symm; omega)).trans h.bo
  refine ⟨(hsg.block _ (by have := hg.size; omega) (fun e => by injection e with e; omega)).trans ((hg.block _ (by omega) (fun e => by have := k1 _ e.symm; omega)).trans h.br), heap_setCell_same W' (w.heap.size + 1) 0 _ _ v' hbo',
    own_keepG (own_keepG h.out hg (fun q hq hq2 => h.n2 q hq2 hq)) hsg (fun q hq hq2 => by injection hq with hq; have := (h.out.lt q hq2).1; omega),
    own_keepG (own_keepG h.rst hg (fun q hq hq2 => h.n3 q hq2 hq)) hsg (fun q hq hq2 => by injection hq with hq; have := (h.rst.lt q hq2).1; omega),
    own_keepG ho hsg (fun q hq hq2 => by injection hq with hq; have := k2 q hq2; omega), h.n1, n2, n3,
    (h.be.trans (below_of_grown hg (by omega) (fun q hq => by have := k1 q hq; omega))).setCell (Nat.le_succ _) _, by have := hg.size; simp; omega⟩
end
end Go.Proofs.Ythcmkjiemlfpcaa
