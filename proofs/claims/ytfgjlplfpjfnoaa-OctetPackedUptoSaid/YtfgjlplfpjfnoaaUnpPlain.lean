/- Unpack: what it comes to. -/
import Derived.Test.YtfgjlplfpjfnoaaRRdr5
import Derived.Test.YtfgjlplfpjfnoaaItemRow
import Derived.Test.YtfgjlplfpjfnoaaOpenInts
namespace Go.Proofs.Ytfgjlplfpjfnoaa
open Go Go.RowKit
set_option linter.unusedVariables false
set_option linter.unusedSimpArgs false

def rdItem (most : Int) (s : Rs) (k : Int) : Stp × Rs :=
  if k = 0 then (⟨0, (s.take 1).1.headD 0, ⟨#[]⟩⟩, (s.take 1).2)
  else if k = 1 then (⟨1, s.num.1, ⟨#[]⟩⟩, s.num.2)
  else if k = 2 then (⟨2, s.num.1, ⟨#[]⟩⟩, s.num.2)
  else if k = 3 then (⟨3, val (s.take 4).1, ⟨#[]⟩⟩, (s.take 4).2)
  else if k = 4 then (⟨4, val (s.take 8).1, ⟨#[]⟩⟩, (s.take 8).2)
  else (⟨k, 0, strOf (s.text most).1⟩, (s.text most).2)
def rdStep (most : Int) (a : List Stp × Rs) (k : Int) : List Stp × Rs := (a.1 ++ [(rdItem most a.2 k).1], (rdItem most a.2 k).2)
def rdAll (most : Int) (ks : List Int) (s : Rs) : List Stp × Rs := ks.foldl (rdStep most) ([], s)
def kindOk (k : Int) : Bool := decide (0 ≤ k ∧ k ≤ 5)
def unp (ks : List Int) (most : Int) (bs : List Nat) : List Stp × Int × Nat :=
  if ks.all kindOk then (if (rdAll most ks ⟨bs, 0, 0, 0⟩).2.fin.1 ≠ 0 then ([], (rdAll most ks ⟨bs, 0, 0, 0⟩).2.fin) else ((rdAll most ks ⟨bs, 0, 0, 0⟩).1, 0, 0)) else ([], 12, 0)

theorem rdAll_take {most : Int} {ks : List Int} {j : Nat} {k : Int} (hk : ks[j]? = some k) (s : Rs) : rdAll most (ks.take (j + 1)) s = rdStep most (rdAll most (ks.take j) s) k := by
  obtain ⟨h, rfl⟩ := List.getElem?_eq_some_iff.1 hk
  unfold rdAll
  rw [List.take_succ_eq_append_getElem h, List.foldl_append]
  rfl
theorem rdAll_append (most : Int) (a b : List Int) (s : Rs) : rdAll most (a ++ b) s = b.foldl (rdStep most) (rdAll most a s) := by
  unfold rdAll
  rw [List.foldl_append]
theorem rdFold_len (most : Int) (ks : List Int) : ∀ a : List Stp × Rs, (ks.foldl (rdStep most) a).1.length = a.1.length + ks.length := by
  induction ks with
  | nil => intro a; simp
  | cons k r ih => intro a; simp only [List.foldl_cons, ih, rdStep, List.length_append, List.length_cons, List.length_nil]; omega
theorem rdAll_len (most : Int) (ks : List Int) (s : Rs) : (rdAll most ks s).1.length = ks.length := by
  unfold rdAll
  rw [rdFold_len]
  simp
theorem rdItem_ok (most : Int) {s : Rs} (h : s.Ok) (k : Int) : (rdItem most s k).2.Ok := by
  unfold rdItem
  repeat' split
  · exact h.take 1
  · exact h.num.1
  · exact h.num.1
  · exact h.take 4
  · exact h.take 8
  · exact (h.text most).1
theorem rdItem_bad (most : Int) {s : Rs} (h : s.err ≠ 0) (k : Int) : (rdItem most s k).2 = s := by
  unfold rdItem
  have ht : ∀ n, (s.take n).2 = s := fun n => by simp [Rs.take, h]
  have hn : s.num.2 = s := by rw [Rs.num_bad h]
  have hx : (s.text most).2 = s := by simp [Rs.text, h]
  repeat' split
  · exact ht 1
  · exact hn
  · exact hn
  · exact ht 4
  · exact ht 8
  · exact hx
theorem rdFold_bad (most : Int) (ks : List Int) : ∀ a : List Stp × Rs, a.2.err ≠ 0 → (ks.foldl (rdStep most) a).2 = a.2 := by
  induction ks with
  | nil => intro a _; rfl
  | cons k r ih =>
    intro a h
    rw [List.foldl_cons, ih _ (by simp only [rdStep]; rw [rdItem_bad most h]; exact h)]
    simp only [rdStep]
    exact rdItem_bad most h k
theorem rdAll_ok (most : Int) (ks : List Int) {s : Rs} (h : s.Ok) : (rdAll most ks s).2.Ok := by
  have : ∀ (ks : List Int) (a : List Stp × Rs), a.2.Ok → (ks.foldl (rdStep most) a).2.Ok := by
    intro ks
    induction ks with
    | nil => intro a ha; exact ha
    | cons k r ih => intro a ha; exact ih _ (rdItem_ok most ha k)
  exact this ks _ h
theorem Rs.fin_bad {s : Rs} (h : s.err ≠ 0) : s.fin = (s.err, s.ea) := by simp [Rs.fin, h]
/-- The way out at the first failure. -/
theorem unp_fail {ks : List Int} {most : Int} {bs : List Nat} {j : Nat} (hok : ks.all kindOk = true) (h : (rdAll most (ks.take j) ⟨bs, 0, 0, 0⟩).2.err ≠ 0) :
    unp ks most bs = ([], (rdAll most (ks.take j) ⟨bs, 0, 0, 0⟩).2.fin) := by
  have e : (rdAll most ks ⟨bs, 0, 0, 0⟩).2 = (rdAll most (ks.take j) ⟨bs, 0, 0, 0⟩).2 := by
    have h1 : ks = ks.take j ++ ks.drop j := (List.take_append_drop j ks).symm
    rw [congrArg (fun l => rdAll most l ⟨bs, 0, 0, 0⟩) h1, rdAll_append, rdFold_bad most _ _ h]
  unfold unp
  rw [if_pos hok, e, Rs.fin_bad h, if_pos h]
theorem unp_badkind {ks : List Int} {most : Int} {bs : List Nat} (h : ¬ ks.all kindOk = true) : unp ks most bs = ([], 12, 0) := by
  unfold unp
  rw [if_neg h]
theorem text_max (s : Rs) (most : Int) : s.text (max most 0) = s.text most := by
  unfold Rs.text
  rw [show max (max most 0) 0 = max most 0 by omega]
theorem all_take_ok {ks : List Int} {j : Nat} {k : Int} (hk : ks[j]? = some k) (h : (ks.take j).all kindOk = true) (h0 : 0 ≤ k) (h5 : k ≤ 5) : (ks.take (j + 1)).all kindOk = true := by
  obtain ⟨hj, rfl⟩ := List.getElem?_eq_some_iff.1 hk
  rw [List.take_succ_eq_append_getElem hj, List.all_append, h]
  simp [kindOk, h0, h5]
theorem not_all_ok {ks : List Int} {j : Nat} {k : Int} (hk : ks[j]? = some k) (h : k < 0 ∨ 5 < k) : ¬ ks.all kindOk = true := by
  intro ha
  have := List.all_eq_true.1 ha k (List.mem_of_getElem? hk)
  simp [kindOk] at this
  omega
theorem kind_of_all {ks : List Int} {j : Nat} {k : Int} (hk : ks[j]? = some k) (h : ks.all kindOk = true) : k = 0 ∨ k = 1 ∨ k = 2 ∨ k = 3 ∨ k = 4 ∨ k = 5 := by
  have := List.all_eq_true.1 h k (List.mem_of_getElem? hk)
  simp [kindOk] at this
  omega

/-- On the way through the kinds. -/
structure UInv (T : TypeId) (cf : Rs → Value → Array Value) (w wr : World) (g1 : Nat) (v1 : Value) (s : Rs) (vi : Value) (its : List Stp) : Prop where
  rd : Rdr (w.heap.size + 1) wr T cf g1 v1 s
  own : wr.ownsRow (w.heap.size + 1) 68 3 vi its.length (stCells its)
  ni : vi.ownBlock ≠ some g1
  nv : ∀ q, vi.ownBlock = some q → v1.ownBlock ≠ some q
  be : Below (w.heap.size + 1) (w.alloc (.cells #[.int .i64 0, .int .i64 0] 76)) wr
section
variable {T : TypeId} {cf : Rs → Value → Array Value} {w wr W : World} {g1 : Nat} {v1 vi vi' : Value} {s s' : Rs} {its its' : List Stp}
theorem UInv.sz (h : UInv T cf w wr g1 v1 s vi its) : w.heap.size + 1 ≤ wr.heap.size := by have := h.be.size; simp at this; exact this
theorem UInv.below (h : UInv T cf w wr g1 v1 s vi its) (hb : Below wr.heap.size wr W) : UInv T cf w W g1 v1 s vi its :=
  ⟨h.rd.below hb, own_below h.own hb, h.ni, h.nv, h.be.trans (hb.mono h.sz)⟩
theorem UInv.turn (h : UInv T cf w wr g1 v1 s vi its) (ht : Turned (w.heap.size + 1) wr T cf g1 v1 s' W) : UInv T cf w W g1 v1 s' vi its := by
  refine ⟨ht.rd, ?_, h.ni, h.nv, h.be.trans (ht.kept.below (fun q hq => by subst hq; exact h.rd.gb) h.sz)⟩
  refine ⟨h.own.1, ?_⟩
  rcases h.own.2 with hn | ⟨q, cap, cur, e, hb, hh, rest⟩
  · exact .inl hn
  · exact .inr ⟨q, cap, cur, e, hb, (ht.kept.block q (Array.getElem?_eq_some_iff.1 hh).1 (fun e2 => h.ni (by rw [e, ← e2]; rfl))).trans hh, rest⟩
/-- A block beside, written. -/
theorem UInv.set (h : UInv T cf w wr g1 v1 s vi its) {b : Nat} (hb : w.heap.size + 1 ≤ b) (h1 : b ≠ g1) (h2 : vi.ownBlock ≠ some b) (h3 : v1.ownBlock ≠ some b) (j : Nat) (u : Value) : UInv T cf w (wr.setCell ⟨b, j, none⟩ u) g1 v1 s vi its := by
  have hk := kept1_set wr b j u
  refine ⟨h.rd.keptS hk (fun e => h1 e.symm) (fun q hq e => h3 (e ▸ hq)), ?_, h.ni, h.nv, h.be.setCell hb _⟩
  refine ⟨h.own.1, ?_⟩
  rcases h.own.2 with hn | ⟨q, cap, cur, e, hb', hh, rest⟩
  · exact .inl hn
  · exact .inr ⟨q, cap, cur, e, hb', (hk.block q (Array.getElem?_eq_some_iff.1 hh).1 (fun e2 => h2 (by rw [e, ← e2]; rfl))).trans hh, rest⟩
theorem UInv.push (h : UInv T cf w wr g1 v1 s vi its) (ho : W.ownsRow (w.heap.size + 1) 68 3 vi' its'.length (stCells its')) (hg : wr.grownBy W vi.ownBlock) (hc : vi'.ownBlock = vi.ownBlock ∨ ∃ k, vi'.ownBlock = some k ∧ wr.heap.size ≤ k) : UInv T cf w W g1 v1 s vi' its' := by
  have hk : KeptS wr W (fun q => vi.ownBlock = some q) := KeptS.of_grown hg (fun q hq => hq)
  refine ⟨h.rd.keptS hk h.ni (fun q hq e => h.nv q e hq), ho, ?_, ?_, h.be.trans (hk.below (fun q hq => (h.own.lt q hq).1) h.sz)⟩
  · rcases hc with hc | ⟨k, hc, hk2⟩
    · rw [hc]; exact h.ni
    · rw [hc]; intro e; injection e with e; have := h.rd.lt; omega
  · intro q hq e
    rcases hc with hc | ⟨k, hc, hk2⟩
    · exact h.nv q (hc ▸ hq) e
    · rw [hc] at hq; injection hq with hq; have := (h.rd.own.lt q e).2; omega
/-- The place of the answer. -/
theorem UInv.spot (h : UInv T cf w wr g1 v1 s vi its) : wr.cell? ⟨w.heap.size, 0, none⟩ = some (.int .i64 0) ∧ wr.cell? ⟨w.heap.size, 1, none⟩ = some (.int .i64 0) ∧ wr.frozen? ⟨w.heap.size, 0, none⟩ = false ∧ wr.frozen? ⟨w.heap.size, 1, none⟩ = false ∧ w.heap.size < wr.heap.size := by
  have hb := (h.be.block w.heap.size (by omega)).trans (heap_alloc_new w _)
  refine ⟨cell_of_row wr w.heap.size 0 _ _ _ hb, cell_of_row wr w.heap.size 1 _ _ _ hb, ?_, ?_, by have := h.sz; omega⟩
  · simp [World.frozen?, hb]
  · simp [World.frozen?, hb]
end

/-- What Unpack answers. -/
def UnpPost (w : World) (q : List Stp × Int × Nat) (e : Ending) (w' : World) : Prop :=
  ∃ A c, e = .returned (.tuple #[.slice A q.1.length c, .agg #[.int .i64 q.2.1, .int .i64 (q.2.2 : Int)]]) ∧ w'.ownsRow w.heap.size 68 3 (.slice A q.1.length c) q.1.length (stCells q.1) ∧ Below w.heap.size w w'
theorem unp_out {w W : World} {a b : Value} (hbe : Below (w.heap.size + 1) (w.alloc (.cells #[.int .i64 0, .int .i64 0] 76)) W) : Below w.heap.size w ((W.setCell ⟨w.heap.size, 0, none⟩ a).setCell ⟨w.heap.size, 1, none⟩ b) := by
  have h0 : Below w.heap.size w W := ((Below.refl w.heap.size w).alloc (Nat.le_refl _) _).trans (hbe.mono (by omega))
  exact (h0.setCell (Nat.le_refl _) _).setCell (Nat.le_refl _) _
end Go.Proofs.Ytfgjlplfpjfnoaa
