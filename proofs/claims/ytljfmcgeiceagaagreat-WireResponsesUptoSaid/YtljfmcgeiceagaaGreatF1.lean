/- Several texts in one: Mem, App, App8, Uv, OctUv, OctSame, OctMem, MarkN, OctZig, OctCmp, Conv, Same2, Open, OpenInts. -/
import Derived.WalkKit
import Derived.WalkLawsBesides
import Derived.WalkSpells
import Derived.Lib.Hide
import Derived.Deep.Draws
import Derived.Deep.LoopGhost
import Derived.Deep.QuietTactic
import Derived.BigQuiet
import Derived.Maps.AppendAt
import Derived.Deep.AppendLies
import Derived.Outline
import Derived.Test.YtljfmcgeiceagaaGreatChecked
import Derived.Laws.Strings
import Derived.Lib.Split
import Derived.Laws.IdiomStrings
import Derived.Laws.BytesString
import Derived.Test.YtljfmcgeiceagaaGreatRows
import Derived.ProofKit
import Derived.OpenShut
import Derived.ShutString
import Derived.ChangeOld
import Derived.SizedLaws
import Derived.Deep.Slices
import Derived.Deep.Fields
import Derived.ChangeSame
/- What is known of memory: slices that read as lists, blocks known whole. -/
namespace Go.Proofs.YtljfmcgeiceagaaGreat
open Go Go.RowKit

/-- A slice's address and its cells: nothing is asked of an empty one. -/
def Rd (w : World) (A : Option Addr) (xs : List Value) : Prop :=
  xs ≠ [] → ∃ g off, A = some ⟨g, off, none⟩ ∧ g < w.heap.size ∧ ∀ k u, xs[k]? = some u → w.cell? ⟨g, off + k, none⟩ = some u

theorem Rd.nil_ (w : World) (A : Option Addr) : Rd w A [] := fun h => absurd rfl h

theorem Rd.below {w w' : World} {A : Option Addr} {xs : List Value} (h : Rd w A xs) (hb : Below w.heap.size w w') : Rd w' A xs := by
  intro hn
  obtain ⟨g, off, e, hg, hc⟩ := h hn
  exact ⟨g, off, e, Nat.lt_of_lt_of_le hg hb.size, fun k u hu => (hb.cell (p := ⟨g, off + k, none⟩) hg).trans (hc k u hu)⟩

theorem Rd.take_ {w : World} {A : Option Addr} {xs : List Value} (h : Rd w A xs) (n : Nat) : Rd w A (xs.take n) := by
  intro hn
  obtain ⟨g, off, e, hg, hc⟩ := h (by rintro rfl; simp at hn)
  refine ⟨g, off, e, hg, fun k u hu => hc k u ?_⟩
  rw [List.getElem?_take] at hu
  split at hu
  · exact hu
  · cases hu

theorem undrew {B : Nat} {w w' : World} (h : Below B w.drew w') : Below B w w' := ⟨h.os, h.tape, h.output, h.size, h.block⟩
theorem below_drewN {B : Nat} {a w : World} (h : Below B a w) (n : Nat) : Below B a (w.drewN n) := ⟨h.os, h.tape, h.output, h.size, h.block⟩

theorem ret_i {k : IntKind} {a b : Int} (h : a = b) : Ending.returned (.int k a) = .returned (.int k b) := by rw [h]

/-- Bytes. -/
def b8 (bs : List Nat) : List Value := bs.map fun (b : Nat) => Value.int .u8 (b : Int)

theorem b8_length (bs : List Nat) : (b8 bs).length = bs.length := by simp [b8]
theorem b8_get (bs : List Nat) (k : Nat) : (b8 bs)[k]? = (bs[k]?).map fun (b : Nat) => Value.int .u8 (b : Int) := by simp [b8]
theorem b8_append (xs bs : List Nat) : b8 (xs ++ bs) = b8 xs ++ b8 bs := by simp [b8]
theorem b8_take (bs : List Nat) (n : Nat) : b8 (bs.take n) = (b8 bs).take n := by simp [b8, List.map_take]
/-- All of them bytes. -/
def By (bs : List Nat) : Prop := ∀ b ∈ bs, b < 256

theorem By.append {l r : List Nat} (h : By l) (k : By r) : By (l ++ r) := fun b hb => by
  rcases List.mem_append.1 hb with hb | hb
  · exact h b hb
  · exact k b hb
theorem By.take {l : List Nat} (h : By l) (n : Nat) : By (l.take n) := fun b hb => h b (List.mem_of_mem_take hb)
theorem By.drop {l : List Nat} (h : By l) (n : Nat) : By (l.drop n) := fun b hb => h b (List.mem_of_mem_drop hb)

theorem By.get {bs : List Nat} (h : By bs) {k : Nat} (hk : k < bs.length) : ∃ c, bs[k]? = some c ∧ c < 256 ∧ bs.drop k = c :: bs.drop (k + 1) :=
  ⟨bs[k], List.getElem?_eq_getElem hk, h _ (List.getElem_mem hk), List.drop_eq_getElem_cons hk⟩

/-- The cell of a byte. -/
theorem Rd.at_ {w : World} {A : Option Addr} {bs : List Nat} (h : Rd w A (b8 bs)) {k c : Nat} (hk : bs[k]? = some c) :
    ∃ g off, A = some ⟨g, off, none⟩ ∧ g < w.heap.size ∧ w.cell? ⟨g, off + k, none⟩ = some (.int .u8 (c : Int)) := by
  have hne : b8 bs ≠ [] := by
    intro e
    have : bs = [] := by simpa [b8] using e
    rw [this] at hk
    simp at hk
  obtain ⟨g, off, e, hg, hc⟩ := h hne
  exact ⟨g, off, e, hg, hc k _ (by rw [b8_get, hk]; rfl)⟩

end Go.Proofs.YtljfmcgeiceagaaGreat

/- Laws on append for a walk: one element; a whole slice. -/
namespace Go.Proofs.YtljfmcgeiceagaaGreat
open Go Go.RowKit

theorem add_zero_off (g off k : Nat) : (⟨g, off, none⟩ : Addr).add k = ⟨g, off + k, none⟩ := by
  unfold Addr.add
  split <;> simp_all

/-- What stands between two worlds: new blocks, and writes to one row. -/
theorem grown_trans {a b c : World} {row : Option Nat} (h : a.grownBy b row) (k : b.grownBy c row) : a.grownBy c row :=
  ⟨k.os.trans h.os, k.tape.trans h.tape, k.output.trans h.output, Nat.le_trans h.size k.size,
    fun i hi hr => (k.block i (Nat.lt_of_lt_of_le hi h.size) hr).trans (h.block i hi hr)⟩

theorem grown_of_below {a b : World} (h : Below a.heap.size a b) (row : Option Nat) : a.grownBy b row :=
  ⟨h.os, h.tape, h.output, h.size, fun i hi _ => h.block i hi⟩

theorem below_of_grown {a b : World} {row : Option Nat} {B : Nat} (h : a.grownBy b row) (hB : B ≤ a.heap.size) (hr : ∀ k, row = some k → B ≤ k) : Below B a b :=
  (Below.refl B a).grown h hB hr

theorem Rd.grown {w w' : World} {A : Option Addr} {xs : List Value} {row : Option Nat} (h : Rd w A xs) (hg : w.grownBy w' row) (hr : ∀ a, A = some a → some a.block ≠ row) : Rd w' A xs := by
  intro hn
  obtain ⟨g, off, e, hgl, hc⟩ := h hn
  refine ⟨g, off, e, Nat.lt_of_lt_of_le hgl hg.size, fun k u hu => ?_⟩
  exact (World.cell?_of_block (w := w) (a := ⟨g, off + k, none⟩) (hg.block g hgl (hr _ e))).trans (hc k u hu)

/-- A row of the call's own, read as a slice. -/
theorem rd_own {w : World} {base : Nat} {e : TypeId} {n c : Nat} {A : Option Addr} {xs : List Value} {size : Nat} (h : w.ownsRow base e size (.slice A n c) n xs) : Rd w A xs := by
  intro hn
  have hsz := h.1
  rcases h.2 with ⟨hv, h0⟩ | ⟨g, cap, cur, hv, hb, hh, hnc, hcap, hcs, ht⟩
  · subst h0
    exact absurd (List.eq_nil_of_length_eq_zero (by simpa using hsz)) hn
  · have hA : A = some ⟨g, 0, none⟩ := by injection hv
    subst hA
    refine ⟨g, 0, rfl, (Array.getElem?_eq_some_iff.1 hh).1, fun k u hu => ?_⟩
    have := h.cells (g := g) rfl k u hu
    rw [add_zero_off] at this
    exact this

/-- The shape of a row's value. -/
theorem own_shape {w : World} {base : Nat} {e : TypeId} {size n : Nat} {v : Value} {xs : List Value} (h : w.ownsRow base e size v n xs) : ∃ A c, v = .slice A n c ∧ n ≤ c ∧ c ≤ maxLen ∧ (∀ a, A = some a → base ≤ a.block ∧ a.block < w.heap.size) := by
  rcases h.2 with ⟨rfl, h0⟩ | ⟨g, cap, cur, rfl, hb, hh, hnc, hcap, _⟩
  · subst h0
    exact ⟨none, 0, rfl, Nat.le_refl _, by simp, fun a ha => by cases ha⟩
  · exact ⟨_, cap, rfl, hnc, hcap, fun a ha => by injection ha with ha; subst ha; exact ⟨hb, (Array.getElem?_eq_some_iff.1 hh).1⟩⟩

theorem own_mono {w : World} {base base' : Nat} {e : TypeId} {size n : Nat} {v : Value} {xs : List Value} (h : w.ownsRow base e size v n xs) (hb : base' ≤ base) : w.ownsRow base' e size v n xs := by
  refine ⟨h.1, ?_⟩
  rcases h.2 with hn | ⟨g, cap, cur, hv, hg, rest⟩
  · exact .inl hn
  · exact .inr ⟨g, cap, cur, hv, Nat.le_trans hb hg, rest⟩

theorem own_below {w w' : World} {base : Nat} {e : TypeId} {size n : Nat} {v : Value} {xs : List Value} (h : w.ownsRow base e size v n xs) (hb : Below w.heap.size w w') : w'.ownsRow base e size v n xs :=
  h.kept (grown_of_below hb none) (by cases hv : v.ownBlock <;> simp)

/-- The call has made a slice of bytes. -/
def Got8 (w w' : World) (e : Ending) (bs : List Nat) : Prop :=
  ∃ A c, e = .returned (.slice A bs.length c) ∧ w'.ownsRow w.heap.size 5 1 (.slice A bs.length c) bs.length (b8 bs) ∧ Below w.heap.size w w'

theorem got8_mk {w w' : World} {v' : Value} {n : Nat} {xs : List Value} {bs : List Nat} (hown : w'.ownsRow w.heap.size 5 1 v' n xs) (hn : n = bs.length) (hx : xs = b8 bs) (hb : Below w.heap.size w w') :
    Got8 w w' (.returned v') bs := by
  subst hn hx
  obtain ⟨A, c, rfl, _⟩ := own_shape hown
  exact ⟨A, c, rfl, hown, hb⟩

theorem b8_one (bs : List Nat) : ∀ u ∈ b8 bs, u.oneCell' = true := by
  intro u hu
  obtain ⟨b, _, rfl⟩ := List.mem_map.1 hu
  rfl

theorem own8_of {w : World} {base : Nat} {v : Value} {bs : List Nat} (h : w.ownsRow base 5 1 v bs.length (b8 bs)) :
    ∃ A c, v = .slice A bs.length c ∧ w.ownsRow base 5 1 (.slice A bs.length c) bs.length (b8 bs) := by
  obtain ⟨A, c, rfl, _⟩ := own_shape h
  exact ⟨A, c, rfl, h⟩

section
variable {P : Program}

/-- One element behind a row of the call's own (or behind nil): it lies, for itself, in a new block of one cell. -/
theorem wpList_push (w : World) {ops : Array Oper} {rest : List Oper} {o : Oper} {a : Act} {Q : Exit → Act → World → Prop} (hgd : o.guard = none) (s x : Operand) (t : TypeId)
    (ho : o.op = .call { callee := .builtin .append, args := #[s, x], argTypes := #[t, t] })
    (base : Nat) (e : TypeId) (i : TypeInfo) (z : Value) (bytes : Nat) (ht : P.underlying t = some (.slice e)) (hi : P.info? e = some i) (hz : i.zero = some z)
    (hsize : i.size = 1) (hby : i.bytes = bytes) (hzs : z.cells.size = 1)
    (v : Value) (n : Nat) (xs : List Value) (hs : a.eval s = v) (hown : w.ownsRow base e 1 v n xs) (u : Value) (hu : u.oneCell' = true)
    (hx : a.eval x = .slice (some ⟨w.heap.size, 0, none⟩) 1 1)
    (hbytes : (n + 1) * bytes ≤ 140737488355328) (h63 : n + 1 ≤ maxLen) (hbase : base ≤ w.heap.size)
    (h : ∀ v' w', w'.ownsRow base e 1 v' (n + 1) (xs ++ [u]) → w.grownBy w' v.ownBlock → (v'.ownBlock = v.ownBlock ∨ ∃ k, v'.ownBlock = some k ∧ w.heap.size ≤ k) → wpList P ops Q rest (a.put o.dst v') w') :
    wpList P ops Q (o :: rest) a (w.alloc (.cells #[u] e)) := by
  refine wpList_plain hgd fun K hK => ?_
  obtain ⟨v', w', hrun, h2, h3, _, h5⟩ := run_append_own_at (P := P) (w.alloc (.cells #[u] e)) base t o.type e i z 1 bytes ht hi hz hsize hby hzs (by omega) v n xs (hown.alloc _) ⟨w.heap.size, 0, none⟩ 1 1 [u] rfl
    (by
      intro j u' hj
      match j, hj with
      | 0, hj =>
        simp at hj
        subst hj
        simp [Addr.add])
    (by simpa using hu) h63 hbytes (by simp; omega)
  unfold Oper.wp execOp
  simp only [ho, resolve, invoke, builtin, Sem.run_bind, Sem.run_pure, Result.andThen_ok, List.map_toArray, List.map_cons, List.map_nil, hs, hx, hrun]
  refine hK _ _ (h v' w' h2 (grown_trans (World.grownBy_alloc w _ _) h3) ?_)
  rcases h5 with h5 | h5
  · exact .inl h5
  · exact .inr ⟨_, h5, by simp⟩

/-- A whole slice behind a row of the call's own. -/
theorem wpList_app (w : World) {ops : Array Oper} {rest : List Oper} {o : Oper} {a : Act} {Q : Exit → Act → World → Prop} (hgd : o.guard = none) (s x : Operand) (t : TypeId)
    (ho : o.op = .call { callee := .builtin .append, args := #[s, x], argTypes := #[t, t] })
    (base : Nat) (e : TypeId) (i : TypeInfo) (z : Value) (size bytes : Nat) (ht : P.underlying t = some (.slice e)) (hi : P.info? e = some i) (hz : i.zero = some z)
    (hsize : i.size = size) (hby : i.bytes = bytes) (hzs : z.cells.size = size) (hsz : 0 < size)
    (v : Value) (n : Nat) (xs : List Value) (hs : a.eval s = v) (hown : w.ownsRow base e size v n xs)
    (A : Option Addr) (m c : Nat) (news : List Value) (hx : a.eval x = .slice A m c) (hl : news.length = m * size) (hr : Rd w A news) (h1 : ∀ u ∈ news, u.oneCell' = true)
    (hbytes : (n + m) * bytes ≤ 140737488355328) (h63 : n + m ≤ maxLen) (hbase : base ≤ w.heap.size)
    (h : ∀ v' w', w'.ownsRow base e size v' (n + m) (xs ++ news) → w.grownBy w' v.ownBlock → (v'.ownBlock = v.ownBlock ∨ ∃ k, v'.ownBlock = some k ∧ w.heap.size ≤ k) → wpList P ops Q rest (a.put o.dst v') w') :
    wpList P ops Q (o :: rest) a w := by
  refine wpList_plain hgd fun K hK => ?_
  have key : ∃ v' w', (Builtin.append_ #[t, t] o.type #[v, .slice A m c]).run P w = .ok v' w' ∧ w'.ownsRow base e size v' (n + m) (xs ++ news) ∧ w.grownBy w' v.ownBlock ∧ (v'.ownBlock = v.ownBlock ∨ ∃ k, v'.ownBlock = some k ∧ w.heap.size ≤ k) := by
    rcases A with _ | ad
    · have hn : news = [] := by
        apply Classical.byContradiction
        intro hne
        obtain ⟨g, off, hh, _⟩ := hr hne
        cases hh
      subst hn
      have hm : m = 0 := by
        rcases Nat.eq_zero_or_pos m with h0 | h0
        · exact h0
        · have := Nat.mul_pos h0 hsz
          simp at hl
          omega
      subst hm
      refine ⟨v, w, ?_, by simpa using hown, ⟨rfl, rfl, rfl, Nat.le_refl _, fun _ _ _ => rfl⟩, .inl rfl⟩
      rcases hown.2 with ⟨rfl, rfl⟩ | ⟨g, cap, cur, rfl, _, _, hnc, _⟩
      · simp [Builtin.append_, run_underlying ht, sizeOf, typeInfo, hi, Builtin.lenOf, Builtin.firstCells]
      · simp [Builtin.append_, run_underlying ht, sizeOf, typeInfo, hi, Builtin.lenOf, Builtin.firstCells, hnc, storeCells]
    · have hcells : ∀ j u, news[j]? = some u → w.cell? (ad.add j) = some u := by
        intro j u hu
        obtain ⟨g, off, hh, _, hc⟩ := hr (by rintro rfl; simp at hu)
        injection hh with hh
        subst hh
        rw [add_zero_off]
        exact hc j u hu
      obtain ⟨v', w', hrun, h2, h3, _, h5⟩ := run_append_own_at (P := P) w base t o.type e i z size bytes ht hi hz hsize hby hzs hsz v n xs hown ad m c news hl hcells h1 h63 hbytes hbase
      refine ⟨v', w', hrun, h2, h3, ?_⟩
      rcases h5 with h5 | h5
      · exact .inl h5
      · exact .inr ⟨_, h5, by omega⟩
  obtain ⟨v', w', hrun, h2, h3, h5⟩ := key
  unfold Oper.wp execOp
  simp only [ho, resolve, invoke, builtin, Sem.run_bind, Sem.run_pure, Result.andThen_ok, List.map_toArray, List.map_cons, List.map_nil, hs, hx, hrun]
  exact hK _ _ (h v' w' h2 h3 h5)
end
end Go.Proofs.YtljfmcgeiceagaaGreat

/- Laws on append for rows of bytes. -/
namespace Go.Proofs.YtljfmcgeiceagaaGreat
open Go Go.RowKit

theorem info8 : (Tryz.prog.info? 5).map (fun i => (i.zero, i.size, i.bytes)) = some (some (.int .u8 0), 1, 1) := by kernel_rfl

theorem rd_lit (w : World) (cs : List Value) (e : TypeId) : Rd (w.alloc (.cells cs.toArray e)) (some ⟨w.heap.size, 0, none⟩) cs := by
  intro _
  refine ⟨w.heap.size, 0, rfl, by simp, fun k u hu => ?_⟩
  have h := cell_of_row (w.alloc (.cells cs.toArray e)) w.heap.size k cs.toArray e (0, 0) (heap_alloc_new w _)
  rw [Nat.zero_add, h]
  simpa using hu

theorem own_lit (w : World) (base : Nat) (cs : List Value) (e : TypeId) (n : Nat) (hb : base ≤ w.heap.size) (hm : n ≤ maxLen) (hs : cs.length = n) :
    (w.alloc (.cells cs.toArray e)).ownsRow base e 1 (.slice (some ⟨w.heap.size, 0, none⟩) n n) n cs := by
  have := World.ownsRow_lit (base := base) (e := e) (size := 1) w cs.toArray n hb hm (by simpa using hs)
  simpa using this

theorem app8 (w : World) {ops : Array Oper} {rest : List Oper} {o : Oper} {a : Act} {Q : Exit → Act → World → Prop} (hgd : o.guard = none) (s x : Operand)
    (ho : o.op = .call { callee := .builtin .append, args := #[s, x], argTypes := #[27, 27] })
    (base : Nat) (v : Value) (n : Nat) (xs : List Nat) (hs : a.eval s = v) (hown : w.ownsRow base 5 1 v n (b8 xs))
    (A : Option Addr) (m c : Nat) (news : List Nat) (hx : a.eval x = .slice A m c) (hl : news.length = m) (hr : Rd w A (b8 news))
    (hbytes : n + m ≤ 140737488355328) (hbase : base ≤ w.heap.size)
    (h : ∀ v' w', w'.ownsRow base 5 1 v' (n + m) (b8 (xs ++ news)) → w.grownBy w' v.ownBlock → (v'.ownBlock = v.ownBlock ∨ ∃ k, v'.ownBlock = some k ∧ w.heap.size ≤ k) → wpList Tryz.prog ops Q rest (a.put o.dst v') w') :
    wpList Tryz.prog ops Q (o :: rest) a w := by
  obtain ⟨i0, hi, hz0, hz1, hz2⟩ := info_parts info8
  refine wpList_app w hgd s x 27 ho base 5 i0 (.int .u8 0) 1 1 Tryz.underlying27 hi hz0 hz1 hz2 rfl (by omega) v n (b8 xs) hs hown A m c (b8 news) hx (by rw [b8_length]; omega) hr (b8_one _) (by omega) (by unfold maxLen; omega) hbase ?_
  intro v' w' h1 h2 h3
  exact h v' w' (by rw [b8_append]; exact h1) h2 h3

theorem push8 (w : World) {ops : Array Oper} {rest : List Oper} {o : Oper} {a : Act} {Q : Exit → Act → World → Prop} (hgd : o.guard = none) (s x : Operand)
    (ho : o.op = .call { callee := .builtin .append, args := #[s, x], argTypes := #[27, 27] })
    (base : Nat) (v : Value) (n : Nat) (xs : List Nat) (hs : a.eval s = v) (hown : w.ownsRow base 5 1 v n (b8 xs)) (z : Int) (b : Nat) (hz : z = (b : Int))
    (hx : a.eval x = .slice (some ⟨w.heap.size, 0, none⟩) 1 1)
    (hbytes : n + 1 ≤ 140737488355328) (hbase : base ≤ w.heap.size)
    (h : ∀ v' w', w'.ownsRow base 5 1 v' (n + 1) (b8 (xs ++ [b])) → w.grownBy w' v.ownBlock → (v'.ownBlock = v.ownBlock ∨ ∃ k, v'.ownBlock = some k ∧ w.heap.size ≤ k) → wpList Tryz.prog ops Q rest (a.put o.dst v') w') :
    wpList Tryz.prog ops Q (o :: rest) a (w.alloc (.cells #[.int .u8 z] 5)) := by
  subst hz
  obtain ⟨i0, hi, hz0, hz1, hz2⟩ := info_parts info8
  refine wpList_push w hgd s x 27 ho base 5 i0 (.int .u8 0) 1 Tryz.underlying27 hi hz0 hz1 hz2 rfl v n (b8 xs) hs hown (.int .u8 (b : Int)) rfl hx (by omega) (by unfold maxLen; omega) hbase ?_
  intro v' w' h1 h2 h3
  exact h v' w' (by rw [b8_append]; exact h1) h2 h3

theorem b8_set'' (bs : List Nat) (k b : Nat) : (b8 bs).set k (Value.int .u8 (b : Int)) = b8 (bs.set k b) := by simp [b8, List.map_set]

/-- What is owned, as the bytes that its length tells. -/
theorem own8_n {w : World} {base n : Nat} {e : TypeId} {v : Value} {xs : List Nat} (h : w.ownsRow base e 1 v n (b8 xs)) : xs.length = n := by
  have := h.1
  rw [b8_length] at this
  omega

/-- A row that is not empty: its address. -/
theorem own_pos {w : World} {base : Nat} {e : TypeId} {size n c : Nat} {A : Option Addr} {xs : List Value} (h : w.ownsRow base e size (.slice A n c) n xs) (hn : 0 < n) :
    ∃ g, A = some ⟨g, 0, none⟩ ∧ base ≤ g ∧ g < w.heap.size ∧ n ≤ c ∧ c ≤ maxLen := by
  rcases h.2 with ⟨_, h0⟩ | ⟨g, cap, cur, hv, hb, hh, hnc, hcap, _⟩
  · omega
  · injection hv with hA _ hc
    subst hA hc
    exact ⟨g, rfl, hb, (Array.getElem?_eq_some_iff.1 hh).1, hnc, hcap⟩

/-- Its first part, read. -/
theorem rd_pre {w : World} {base : Nat} {e : TypeId} {n c : Nat} {A : Option Addr} {xs ys : List Nat} (h : w.ownsRow base e 1 (.slice A n c) n (b8 (xs ++ ys))) : Rd w A (b8 xs) := by
  have := (rd_own h).take_ xs.length
  rw [b8_append, List.take_left' (b8_length xs)] at this
  exact this
end Go.Proofs.YtljfmcgeiceagaaGreat

/- Plain laws of short numbers (uvarint), zigzag: lists of Nat alone, no program in sight. -/
namespace Go.Proofs.YtljfmcgeiceagaaGreat.Uv

/-- The bytes of a short number, group by group. -/
def uv (v : Nat) : List Nat := if v < 128 then [v] else (v % 128 + 128) :: uv (v / 128)
termination_by v
decreasing_by omega

theorem uv_small {v : Nat} (h : v < 128) : uv v = [v] := by rw [uv, if_pos h]
theorem uv_big {v : Nat} (h : 128 ≤ v) : uv v = (v % 128 + 128) :: uv (v / 128) := by rw [uv, if_neg (by omega)]

/-- What bytes begin with, read as a short number: value, length, error (0: none; 10: short; 11: not a number). 'i': the place, 'v': what has been read. -/
def ru : Nat → Nat → List Nat → Nat × Nat × Nat
  | _, _, [] => (0, 0, 10)
  | i, v, c :: r =>
    if i = 9 ∧ c ≠ 1 then (0, 0, 11)
    else if 0 < i ∧ c = 0 then (0, 0, 11)
    else if c < 128 then (v + c % 128 * 128 ^ i, i + 1, 0)
    else ru (i + 1) (v + c % 128 * 128 ^ i) r

def zig (s : Int) : Int := if 0 ≤ s then 2 * s else -2 * s - 1
def zag (u : Int) : Int := if u % 2 = 0 then u / 2 else -(u / 2) - 1

theorem zag_zig (s : Int) : zag (zig s) = s := by unfold zag zig; split <;> split <;> omega
theorem zig_zag (u : Int) (h : 0 ≤ u) : zig (zag u) = u := by unfold zag zig; split <;> split <;> omega

theorem uv_ne (v : Nat) : uv v ≠ [] := by
  rw [uv]; split <;> simp

theorem uv_pos (v : Nat) : 0 < (uv v).length := by
  have := uv_ne v
  cases h : uv v with
  | nil => exact absurd h this
  | cons a l => simp

theorem uv_lt (v : Nat) : ∀ b ∈ uv v, b < 256 := by
  induction v using Nat.strongRecOn with
  | _ v ih =>
    intro b hb
    by_cases h : v < 128
    · rw [uv_small h] at hb; simp at hb; omega
    · rw [uv_big (by omega)] at hb
      rcases List.mem_cons.1 hb with rfl | hb
      · omega
      · exact ih (v / 128) (by omega) b hb

theorem uv_len_pow : ∀ (k v : Nat), v < 128 ^ (k + 1) → (uv v).length ≤ k + 1 := by
  intro k
  induction k with
  | zero => intro v h; rw [uv_small (by simpa using h)]; simp
  | succ k ih =>
    intro v h
    by_cases hs : v < 128
    · rw [uv_small hs]; simp
    · rw [uv_big (by omega)]
      have h2 : v / 128 < 128 ^ (k + 1) := by
        rw [Nat.div_lt_iff_lt_mul (by omega), ← Nat.pow_succ]; exact h
      have := ih _ h2
      simp; omega

theorem uv_len_64 (v : Nat) (h : v < 18446744073709551616) : (uv v).length ≤ 10 :=
  uv_len_pow 9 v (by have : (128 : Nat) ^ 10 = 1180591620717411303424 := by decide
                     omega)

/-- Reading what was written, from a place on: whatever stands behind. -/
theorem ru_uv (t : List Nat) : ∀ (v i a : Nat), v * 128 ^ i < 18446744073709551616 → i ≤ 9 → (0 < i → 0 < v) →
    ru i a (uv v ++ t) = (a + v * 128 ^ i, i + (uv v).length, 0) := by
  intro v
  induction v using Nat.strongRecOn with
  | _ v ih =>
    intro i a hv hi h0
    have p9 : (128 : Nat) ^ 9 = 9223372036854775808 := by decide
    by_cases h : v < 128
    · rw [uv_small h]
      have n9 : ¬ (i = 9 ∧ v ≠ 1) := by
        rintro ⟨rfl, hne⟩
        rw [p9] at hv
        have := h0 (by omega)
        omega
      simp only [List.cons_append, List.nil_append, ru]
      rw [if_neg n9, if_neg (by intro ⟨a, b⟩; have := h0 a; omega), if_pos h, Nat.mod_eq_of_lt h]
      simp
    · have hi9 : i ≠ 9 := by
        rintro rfl
        rw [p9] at hv
        omega
      rw [uv_big (by omega)]
      simp only [List.cons_append, ru]
      rw [if_neg (by omega), if_neg (by omega), if_neg (by omega)]
      have hp : (128 : Nat) ^ (i + 1) = 128 ^ i * 128 := Nat.pow_succ ..
      have hm : v / 128 * 128 ^ (i + 1) ≤ v * 128 ^ i := by
        rw [hp, Nat.mul_comm (128 ^ i) 128, ← Nat.mul_assoc]
        exact Nat.mul_le_mul_right _ (Nat.div_mul_le_self v 128)
      rw [ih (v / 128) (by omega) (i + 1) _ (by omega) (by omega) (by omega)]
      have e : v % 128 * 128 ^ i + v / 128 * 128 ^ (i + 1) = v * 128 ^ i := by
        rw [hp, Nat.mul_comm (128 ^ i) 128, ← Nat.mul_assoc, ← Nat.add_mul]
        congr 1
        have := Nat.div_add_mod v 128
        omega
      have e2 : (v % 128 + 128) % 128 = v % 128 := by omega
      rw [e2]
      simp only [List.length_cons, Prod.mk.injEq, and_true]
      constructor
      · rw [Nat.add_assoc, e]
      · omega

/-- Whatever is taken: just the bytes that are written for it. -/
theorem ru_taken : ∀ (b : List Nat) (i a : Nat), (∀ x ∈ b, x < 256) → i ≤ 9 → a < 128 ^ i → (ru i a b).2.2 = 0 →
    ∃ v, (ru i a b).1 = a + v * 128 ^ i ∧ (ru i a b).2.1 = i + (uv v).length ∧ (uv v).length ≤ b.length ∧ b.take (uv v).length = uv v ∧ (0 < i → 0 < v) ∧ a + v * 128 ^ i < 18446744073709551616 := by
  intro b
  induction b with
  | nil => intro i a _ _ _ h; simp [ru] at h
  | cons c r ih =>
    intro i a hb hi ha h
    have p9 : (128 : Nat) ^ 9 = 9223372036854775808 := by decide
    have hc : c < 256 := hb c (by simp)
    simp only [ru] at h ⊢
    by_cases h1 : i = 9 ∧ c ≠ 1
    · rw [if_pos h1] at h; simp at h
    · rw [if_neg h1] at h ⊢
      by_cases h2 : 0 < i ∧ c = 0
      · rw [if_pos h2] at h; simp at h
      · rw [if_neg h2] at h ⊢
        by_cases h3 : c < 128
        · rw [if_pos h3] at h ⊢
          refine ⟨c, ?_, ?_, ?_, ?_, by omega, ?_⟩
          · simp [Nat.mod_eq_of_lt h3]
          · rw [uv_small h3]; simp
          · rw [uv_small h3]; simp
          · rw [uv_small h3]; simp
          · by_cases h9 : i = 9
            · subst h9
              have : c = 1 := by omega
              subst this
              rw [p9] at ha ⊢
              omega
            · have hp : (128 : Nat) ^ (i + 1) ≤ 128 ^ 9 := Nat.pow_le_pow_right (by omega) (by omega)
              have hq : (128 : Nat) ^ (i + 1) = 128 ^ i * 128 := Nat.pow_succ ..
              have hx : c * 128 ^ i ≤ 127 * 128 ^ i := Nat.mul_le_mul_right _ (by omega)
              omega
        · rw [if_neg h3] at h ⊢
          have h9 : i ≠ 9 := by omega
          have hq : (128 : Nat) ^ (i + 1) = 128 ^ i * 128 := Nat.pow_succ ..
          have hx : c % 128 * 128 ^ i ≤ 127 * 128 ^ i := Nat.mul_le_mul_right _ (by omega)
          obtain ⟨v, e1, e2, e3, e4, e5, e6⟩ := ih (i + 1) (a + c % 128 * 128 ^ i) (fun x hx => hb x (by simp [hx])) (by omega) (by omega) h
          have hv := e5 (by omega)
          have hu : uv (v * 128 + c % 128) = c :: uv v := by
            rw [uv_big (by omega)]
            congr 1
            · omega
            · congr 1; omega
          have e : a + (v * 128 + c % 128) * 128 ^ i = a + c % 128 * 128 ^ i + v * 128 ^ (i + 1) := by
            rw [hq, Nat.add_mul, Nat.mul_assoc v 128, Nat.mul_comm 128]; omega
          refine ⟨v * 128 + c % 128, ?_, ?_, ?_, ?_, by omega, by omega⟩
          · rw [e1, e]
          · rw [e2, hu]; simp; omega
          · rw [hu]; simpa using e3
          · rw [hu]; simpa using e4

/-- An error's number is 0, 10 or 11; beside one all is zero. -/
theorem ru_err : ∀ (b : List Nat) (i a : Nat), (ru i a b).2.2 = 0 ∨ ((ru i a b).1 = 0 ∧ (ru i a b).2.1 = 0 ∧ ((ru i a b).2.2 = 10 ∨ (ru i a b).2.2 = 11)) := by
  intro b
  induction b with
  | nil => intro i a; right; simp [ru]
  | cons c r ih =>
    intro i a
    simp only [ru]
    split
    · right; simp
    · split
      · right; simp
      · split
        · left; rfl
        · exact ih _ _

end Go.Proofs.YtljfmcgeiceagaaGreat.Uv

/- octet.Uvarint and the reference's: the bytes that they make. -/
namespace Go.Proofs.YtljfmcgeiceagaaGreat
open Go Go.RowKit

theorem low_or (v : Nat) : bits .or .u8 ((v : Int) % 256) 128 = ((v % 128 + 128 : Nat) : Int) := by
  have e : (v : Int) % 256 = ((v % 256 : Nat) : Int) := by omega
  have h := u8_or_nat (v % 256) 128 (by omega) (by omega)
  rw [e]
  refine Eq.trans h ?_
  have : v % 256 ||| 128 = v % 128 + 128 := by
    have h1 : v % 256 = v % 256 / 128 * 128 + v % 128 := by omega
    have h2 : v % 256 / 128 = 0 ∨ v % 256 / 128 = 1 := by omega
    have h3 : 128 ||| v % 128 = 128 + v % 128 := nat_join 7 128 (v % 128) (by decide) (by omega)
    rcases h2 with h2 | h2
    · have h4 : v % 256 = v % 128 := by omega
      rw [h4, Nat.or_comm, h3, Nat.add_comm]
    · have h4 : v % 256 = 128 + v % 128 := by omega
      rw [h4, ← h3, Nat.or_comm (128 ||| v % 128), ← Nat.or_assoc, Nat.or_self, h3, Nat.add_comm]
  rw [this]

set_option maxHeartbeats 400000 in
set_option maxRecDepth 100000 in
theorem uvarint_any (v : Nat) (w : World) (hv : v < 18446744073709551616) :
    Calls Tryz.prog 88 #[.int .u64 (v : Int)] w fun e w' => Got8 w w' e (Uv.uv v) := by
  obtain ⟨i0, hi, hz0, hz1, hz2⟩ := info_parts info8
  go_enter Tryz.func88, Tryz.ntmps88
  go_wp2
  go_loopw [0, 3] (fun x b wr => ∃ (u : Nat) (bs : List Nat), u ≤ v ∧ x = .int .u64 (u : Int) ∧ wr.ownsRow w.heap.size 5 1 b bs.length (b8 bs) ∧ Below w.heap.size w wr ∧ Hid (bs ++ Uv.uv u = Uv.uv v))
    (fun x _ _ => (intOf x).toNat)
  case atStart => exact ⟨v, [], Nat.le_refl _, rfl, World.ownsRow_nil _ _ _ _, Below.refl _ _, by simp [Hid]⟩
  case round =>
    obtain ⟨u, bs, hu, rfl, hown, hbel, H⟩ := hrel
    have hlen : bs.length ≤ 10 := by
      have h1 := Uv.uv_len_64 v hv
      rw [← H.out] at h1
      simp at h1
      omega
    have hsz := hbel.size
    by_cases hlt : u < 128
    · go_wp2_with (at_builtin; (refine wpList_push wr rfl _ _ 27 rfl w.heap.size 5 i0 (.int .u8 0) 1 Tryz.underlying27 hi hz0 hz1 hz2 rfl u3 bs.length (b8 bs) rfl hown (.int .u8 (u : Int)) rfl rfl (by omega) (by unfold maxLen; omega) hsz ?_); intro v' w1 hown' hgrow _)
      go_ret
      have e : bs ++ [u] = Uv.uv v := by rw [← H.out, Uv.uv_small hlt]
      exact got8_mk hown' (by rw [← e]; simp) (by rw [← e, b8_append]; rfl) (hbel.trans (below_of_grown hgrow hsz (fun k hk => (hown.lt k hk).1)))
    · go_wp2_with (at_builtin; (refine wpList_push wr rfl _ _ 27 rfl w.heap.size 5 i0 (.int .u8 0) 1 Tryz.underlying27 hi hz0 hz1 hz2 rfl u3 bs.length (b8 bs) rfl hown (.int .u8 (bits .or .u8 ((u : Int) % 256) 128)) rfl rfl (by omega) (by unfold maxLen; omega) hsz ?_); intro v' w1 hown' hgrow _)
      rw [low_or] at hown'
      have hbel' := hbel.trans (below_of_grown hgrow hsz (fun k hk => (hown.lt k hk).1))
      clear hown hbel hgrow
      go_wp2
      go_roundw
      case rel => exact ⟨u / 128, bs ++ [u % 128 + 128], by omega, by go_num, by simpa [b8] using hown', hbel', by rw [← H.out, Uv.uv_big (v := u) (by omega)]; simp [Hid]⟩
      case measure => simp [intOf]; omega

set_option maxHeartbeats 400000 in
set_option maxRecDepth 100000 in
theorem ruvarint_any (v : Nat) (w : World) (hv : v < 18446744073709551616) :
    Calls Tryz.prog 95 #[.int .u64 (v : Int)] w fun e w' => Got8 w w' e (Uv.uv v) := by
  obtain ⟨i0, hi, hz0, hz1, hz2⟩ := info_parts info8
  go_enter Tryz.func95, Tryz.ntmps95
  go_wp2
  go_loopw [0, 3] (fun x b wr => ∃ (u : Nat) (bs : List Nat), u ≤ v ∧ x = .int .u64 (u : Int) ∧ wr.ownsRow w.heap.size 5 1 b bs.length (b8 bs) ∧ Below w.heap.size w wr ∧ Hid (bs ++ Uv.uv u = Uv.uv v))
    (fun x _ _ => (intOf x).toNat)
  case atStart => exact ⟨v, [], Nat.le_refl _, rfl, World.ownsRow_nil _ _ _ _, Below.refl _ _, by simp [Hid]⟩
  case round =>
    obtain ⟨u, bs, hu, rfl, hown, hbel, H⟩ := hrel
    have hlen : bs.length ≤ 10 := by
      have h1 := Uv.uv_len_64 v hv
      rw [← H.out] at h1
      simp at h1
      omega
    have hsz := hbel.size
    by_cases hlt : u < 128
    · go_wp2_with (at_builtin; (refine wpList_push wr rfl _ _ 27 rfl w.heap.size 5 i0 (.int .u8 0) 1 Tryz.underlying27 hi hz0 hz1 hz2 rfl u3 bs.length (b8 bs) rfl hown (.int .u8 (u : Int)) rfl rfl (by omega) (by unfold maxLen; omega) hsz ?_); intro v' w1 hown' hgrow _)
      go_ret
      have e : bs ++ [u] = Uv.uv v := by rw [← H.out, Uv.uv_small hlt]
      exact got8_mk hown' (by rw [← e]; simp) (by rw [← e, b8_append]; rfl) (hbel.trans (below_of_grown hgrow hsz (fun k hk => (hown.lt k hk).1)))
    · go_wp2_with (at_builtin; (refine wpList_push wr rfl _ _ 27 rfl w.heap.size 5 i0 (.int .u8 0) 1 Tryz.underlying27 hi hz0 hz1 hz2 rfl u3 bs.length (b8 bs) rfl hown (.int .u8 ((u : Int) % 128 + 128)) rfl rfl (by omega) (by unfold maxLen; omega) hsz ?_); intro v' w1 hown' hgrow _)
      have hbel' := hbel.trans (below_of_grown hgrow hsz (fun k hk => (hown.lt k hk).1))
      clear hown hbel hgrow
      go_wp2
      go_roundw
      case rel => exact ⟨u / 128, bs ++ [u % 128 + 128], by omega, by go_num, by simpa [b8] using hown', hbel', by rw [← H.out, Uv.uv_big (v := u) (by omega)]; simp [Hid]⟩
      case measure => simp [intOf]; omega
end Go.Proofs.YtljfmcgeiceagaaGreat

/- chroniclelaw1.same: two slices of bytes, held against each other. -/
namespace Go.Proofs.YtljfmcgeiceagaaGreat
open Go Go.RowKit

def sameB (xs ys : List Nat) : Bool := decide (xs = ys)

/-- The call reads alone. -/
def Looks (w w' : World) (e : Ending) (v : Value) : Prop := e = .returned v ∧ ∃ n, w' = w.drewN n

set_option maxHeartbeats 400000 in
set_option maxRecDepth 100000 in
theorem same_all (A B : Option Addr) (c d : Nat) (xs ys : List Nat) (w : World) (ha : Rd w A (b8 xs)) (hb : Rd w B (b8 ys)) (la : xs.length ≤ 140737488355328) (lb : ys.length ≤ 140737488355328) :
    Calls Tryz.prog 17 #[.slice A xs.length c, .slice B ys.length d] w fun e w' => Looks w w' e (.bool (sameB xs ys)) := by
  by_cases hl : xs.length = ys.length
  · have hne : ((xs.length : Int) != (ys.length : Int)) = false := by rw [bne_eq_false_iff_eq]; omega
    have HL := Lib.hid hl
    clear hl
    go_enter Tryz.func17, Tryz.ntmps17
    go_wp2
    go_loopw [5] (fun i wr => ∃ k n : Nat, k ≤ xs.length ∧ i = .int .i64 k ∧ wr = w.drewN n ∧ Hid (xs.take k = ys.take k)) (fun i _ => xs.length - (intOf i).toNat)
    case atStart => exact ⟨0, 0, Nat.zero_le _, rfl, rfl, by simp [Hid]⟩
    case round =>
      obtain ⟨k, n, hk, rfl, rfl, H⟩ := hrel
      by_cases hlt : k < xs.length
      · have hltb : k < ys.length := by rw [← HL.out]; exact hlt
        obtain ⟨g, off, rfl, hg, hcell⟩ := ha.at_ (List.getElem?_eq_getElem hlt)
        obtain ⟨g', off', rfl, hg', hcell'⟩ := hb.at_ (List.getElem?_eq_getElem hltb)
        obtain ⟨x, hx⟩ : ∃ x, x = xs[k] := ⟨_, rfl⟩
        obtain ⟨y, hy⟩ : ∃ y, y = ys[k] := ⟨_, rfl⟩
        rw [← hx] at hcell
        rw [← hy] at hcell'
        have h0 : (0 : Int) ≤ (k : Int) := by omega
        have h1 : (k : Int) < (xs.length : Int) := by omega
        have h2 : (k : Int) < (ys.length : Int) := by omega
        by_cases hxy : x = y
        · have hne' : ((x : Int) != (y : Int)) = false := by rw [bne_eq_false_iff_eq]; omega
          have hN : xs.take (k + 1) = ys.take (k + 1) := by
            rw [List.take_succ_eq_append_getElem hlt, List.take_succ_eq_append_getElem hltb, H.out, ← hx, ← hy, hxy]
          have HN := Lib.hid hN
          clear hN hx hy hxy ha hb
          go_wp2
          go_quiet (fail)
          go_wp2
          go_roundw
          case rel => exact ⟨k + 1, _, by omega, by go_num, rfl, HN⟩
          case measure => simp [intOf]; omega
        · have hne' : ((x : Int) != (y : Int)) = true := by rw [bne_iff_ne]; omega
          have hN : sameB xs ys = false := by
            unfold sameB
            rw [decide_eq_false_iff_not]
            intro h
            subst h
            exact hxy (hx.trans hy.symm)
          have HN := Lib.hid hN
          clear hN hx hy hxy ha hb
          go_wp2
          go_quiet (fail)
          go_wp2
          go_ret
          rw [HN.out]
          exact ⟨rfl, _, World.drewN_drewN ..⟩
      · have hN : sameB xs ys = true := by
          have h := H.out
          have h2 := HL.out
          rw [List.take_of_length_le (by omega), List.take_of_length_le (by omega)] at h
          simp [sameB, h]
        have HN := Lib.hid hN
        clear hN ha hb
        go_wp2
        go_ret
        rw [HN.out]
        exact ⟨rfl, _, rfl⟩
  · have hne : ((xs.length : Int) != (ys.length : Int)) = true := by rw [bne_iff_ne]; omega
    have hN : sameB xs ys = false := by
      unfold sameB
      rw [decide_eq_false_iff_not]
      intro h
      exact hl (by rw [h])
    have HN := Lib.hid hN
    clear hN hl ha hb
    go_enter Tryz.func17, Tryz.ntmps17
    go_wp2
    go_ret
    rw [HN.out]
    exact ⟨rfl, 0, rfl⟩

theorem same_any (A B : Option Addr) (n m c d : Nat) (xs ys : List Nat) (w : World) (ha : Rd w A (b8 xs)) (hb : Rd w B (b8 ys)) (hn : xs.length = n) (hm : ys.length = m) (la : n ≤ 140737488355328) (lb : m ≤ 140737488355328) :
    Calls Tryz.prog 17 #[.slice A n c, .slice B m d] w fun e w' => Looks w w' e (.bool (sameB xs ys)) := by
  subst hn hm
  exact same_all A B c d xs ys w ha hb la lb

/-- The same bytes. -/
theorem same_yes (A B : Option Addr) (n m c d : Nat) (xs ys : List Nat) (w : World) (ha : Rd w A (b8 xs)) (hb : Rd w B (b8 ys)) (hn : xs.length = n) (hm : ys.length = m) (la : n ≤ 140737488355328) (lb : m ≤ 140737488355328) (h : xs = ys) :
    Calls Tryz.prog 17 #[.slice A n c, .slice B m d] w fun e w' => Looks w w' e (.bool true) := by
  have := same_any A B n m c d xs ys w ha hb hn hm la lb
  rw [show sameB xs ys = true from by simp [sameB, h]] at this
  exact this

end Go.Proofs.YtljfmcgeiceagaaGreat

/- chroniclelaw1.roomy, flipped, marked: what they do to memory. -/
namespace Go.Proofs.YtljfmcgeiceagaaGreat
open Go Go.RowKit

set_option maxHeartbeats 400000 in
theorem roomy_any (A : Option Addr) (n c : Nat) (bs : List Nat) (w : World) (hr : Rd w A (b8 bs)) (hn : bs.length = n) (hl : n ≤ 140737488351232) :
    Calls Tryz.prog 11 #[.slice A n c] w fun e w' => Got8 w w' e (bs ++ [165, 90, 167, 91]) := by
  have h0 := own_lit w w.heap.size [] 5 0 (Nat.le_refl _) (by decide) rfl
  have hr1 : Rd (w.alloc (.cells [].toArray 5)) A (b8 bs) := hr.below ((Below.refl _ _).alloc (Nat.le_refl _) _)
  have HN := Lib.hid hn
  clear hn
  go_enter Tryz.func11, Tryz.ntmps11
  go_wp2_with (first
    | (at_builtin; (refine app8 _ rfl (.tmp 4) (.tmp 5) rfl w.heap.size _ 0 [] rfl h0 A n c bs rfl HN.out hr1 (by omega) (by simp) ?_); intro v1 w1 hown1 hg1 _)
    | (at_builtin; (refine app8 _ rfl (.tmp 7) (.tmp 8) rfl w.heap.size v1 _ bs rfl (hown1.alloc _) (some ⟨w1.heap.size, 0, none⟩) 4 4 [165, 90, 167, 91] rfl rfl (rd_lit w1 _ _) (by omega) (by have := hg1.size; simp at this ⊢; omega) ?_); intro v2 w2 hown2 hg2 _))
  go_ret
  refine got8_mk hown2 (by simp; have := HN.out; omega) rfl ?_
  have b1 : Below w.heap.size w w1 := ((Below.refl _ _).alloc (Nat.le_refl _) _).trans (below_of_grown hg1 (by simp) (fun k hk => (h0.lt k hk).1))
  exact (b1.alloc b1.size _).trans (below_of_grown hg2 (by have := b1.size; simp; omega) (fun k hk => (hown1.lt k hk).1))

def fl (b : Nat) : Nat := 255 - b
theorem fl_fl {b : Nat} (h : b < 256) : fl (fl b) = b := by unfold fl; omega
theorem fl_lt (b : Nat) : fl b < 256 := by unfold fl; omega
theorem map_fl_fl {bs : List Nat} (h : By bs) : (bs.map fl).map fl = bs := by
  rw [List.map_map]
  refine (List.map_congr_left (fun b hb => ?_)).trans (List.map_id _)
  exact fl_fl (h b hb)
theorem by_fl (bs : List Nat) : By (bs.map fl) := fun b hb => by
  obtain ⟨c, _, rfl⟩ := List.mem_map.1 hb
  exact fl_lt c
theorem xor255 : ∀ x : Fin 256, (x.val ^^^ 255) = 255 - x.val := by decide +kernel
theorem bits_fl {x : Nat} (h : x < 256) : bits .xor .u8 (x : Int) 255 = ((fl x : Nat) : Int) := by
  refine (u8_xor_nat x 255 h (by omega)).trans ?_
  rw [xor255 ⟨x, h⟩]
  rfl

/-- One element more of a list has been turned. -/
theorem set_mid {α : Type} (f : α → α) (xs ys : List α) (k : Nat) (hk : k < xs.length) :
    ((xs.take k).map f ++ (xs.drop k ++ ys)).set k (f xs[k]) = (xs.take (k + 1)).map f ++ (xs.drop (k + 1) ++ ys) := by
  have hl : ((xs.take k).map f).length = k := by simp; omega
  rw [List.set_append_right _ _ (by omega), hl, Nat.sub_self, List.drop_eq_getElem_cons hk, List.take_succ_eq_append_getElem hk]
  simp only [List.map_append, List.map_cons, List.map_nil, List.cons_append, List.set_cons_zero, List.append_assoc, List.nil_append]

theorem get_mid {α : Type} (f : α → α) (xs ys : List α) (k : Nat) (hk : k < xs.length) : ((xs.take k).map f ++ (xs.drop k ++ ys))[k]? = some xs[k] := by
  have hl : ((xs.take k).map f).length = k := by simp; omega
  rw [List.getElem?_append_right (by omega), hl, Nat.sub_self, List.drop_eq_getElem_cons hk]
  rfl

theorem b8_set (bs : List Nat) (k b : Nat) : (b8 bs).set k (.int .u8 (b : Int)) = b8 (bs.set k b) := by simp [b8, List.map_set]

set_option maxHeartbeats 400000 in
set_option maxRecDepth 100000 in
theorem flipped_own (base g N cap n c : Nat) (xs ys : List Nat) (w : World) (h : w.ownsRow base 5 1 (.slice (some ⟨g, 0, none⟩) N cap) N (b8 (xs ++ ys))) (hby : By xs) (hn : xs.length = n) (hl : n ≤ 140737488355328) :
    Calls Tryz.prog 13 #[.slice (some ⟨g, 0, none⟩) n c] w fun e w' =>
      e = .returned (.slice (some ⟨g, 0, none⟩) n c) ∧ w'.ownsRow base 5 1 (.slice (some ⟨g, 0, none⟩) N cap) N (b8 (xs.map fl ++ ys)) ∧ w.grownBy w' (some g) := by
  have hN := own8_n h
  simp only [List.length_append] at hN
  have HN := Lib.hid hN
  have Hn := Lib.hid hn
  have hxN : xs.length ≤ N := by omega
  clear hn hN
  go_enter Tryz.func13, Tryz.ntmps13
  go_wp2
  go_loopw [3] (fun i wr => ∃ k : Nat, k ≤ n ∧ i = .int .i64 k ∧ wr.ownsRow base 5 1 (.slice (some ⟨g, 0, none⟩) N cap) N (b8 ((xs.take k).map fl ++ (xs.drop k ++ ys))) ∧ w.grownBy wr (some g)) (fun i _ => n - (intOf i).toNat)
  case atStart => exact ⟨0, Nat.zero_le _, rfl, by simpa using h, ⟨rfl, rfl, rfl, Nat.le_refl _, fun _ _ _ => rfl⟩⟩
  case round =>
    obtain ⟨k, hk, rfl, hown, hg⟩ := hrel
    by_cases hlt : k < n
    · have hkx : k < xs.length := by rw [Hn.out]; exact hlt
      have hc := hown.cellAt k (by omega)
      rw [b8_get, get_mid fl xs ys k hkx] at hc
      have hf := hown.frozenAt k
      have hst := hown.stored k (.int .u8 ((fl xs[k] : Nat) : Int))
      rw [b8_set, set_mid fl xs ys k hkx, ← bits_fl (hby _ (List.getElem_mem hkx))] at hst
      obtain ⟨x, hx⟩ : ∃ x, x = xs[k] := ⟨_, rfl⟩
      rw [← hx] at hc hst
      have hc' : wr.cell? ⟨g, k, none⟩ = some (.int .u8 (x : Int)) := hc
      have HS := Lib.hid hst
      clear hx hst hc hown
      go_wp2
      go_roundw
      case rel => exact ⟨k + 1, by omega, by go_num, HS.out.1, grown_trans hg HS.out.2⟩
      case measure => simp [intOf]; omega
    · have hkn : k = n := by omega
      have e1 : xs.take k = xs := List.take_of_length_le (by rw [Hn.out]; omega)
      have e2 : xs.drop k = [] := List.drop_eq_nil_of_le (by rw [Hn.out]; omega)
      rw [e1, e2, List.nil_append] at hown
      clear hkn e1 e2
      go_wp2
      go_ret
      exact ⟨rfl, hown, hg⟩

end Go.Proofs.YtljfmcgeiceagaaGreat

/- marked, where it tells the length. -/
namespace Go.Proofs.YtljfmcgeiceagaaGreat
open Go Go.RowKit
set_option linter.unusedVariables false

set_option maxHeartbeats 400000 in
set_option maxRecDepth 100000 in
theorem marked_len (base n : Nat) (v : Value) (xs : List Nat) (m : Nat) (w : World) (h : w.ownsRow base 5 1 v n (b8 xs)) (hl : n ≤ 140737488351232) (hb : base ≤ w.heap.size) :
    Calls Tryz.prog 9 #[v, .int .u8 (m : Int)] w fun e w' => e = .returned (.int .i64 ((n + 64 : Nat) : Int)) ∧ Below base w w' := by
  obtain ⟨A, c, rfl, hnc, hcm, hAb⟩ := own_shape h
  have hx := own8_n h
  have HX := Lib.hid hx
  clear hx
  go_enter Tryz.func9, Tryz.ntmps9
  go_wp2
  go_loopw [5] (fun i wr => ∃ (k : Nat) (zs : List Nat), k ≤ n ∧ i = .int .i64 k ∧ wr.ownsRow base 5 1 (.slice A n c) n (b8 zs) ∧ Below base w wr) (fun i _ => n - (intOf i).toNat)
  case atStart => exact ⟨0, xs, Nat.zero_le _, rfl, h, Below.refl _ _⟩
  case round =>
    obtain ⟨k, zs, hk, rfl, hown, hbel⟩ := hrel
    by_cases hlt : k < n
    · have hz := own8_n hown
      obtain ⟨g, off, rfl, hg, hcell⟩ := (rd_own hown).at_ (List.getElem?_eq_getElem (show k < zs.length by omega))
      have hoff : off = 0 := by
        rcases hown.2 with ⟨hv, _⟩ | ⟨g', cap, cur, hv, _⟩
        · simp at hv
        · simp at hv; exact hv.1.2
      subst hoff
      have hf := hown.frozenAt k
      have hst := hown.stored k (.int .u8 (m : Int))
      rw [b8_set] at hst
      have hgb := (hAb _ rfl).1
      rw [Nat.zero_add] at hcell
      obtain ⟨x, hx⟩ : ∃ x, x = zs[k] := ⟨_, rfl⟩
      rw [← hx] at hcell
      have HS := Lib.hid hst
      clear hst hown hx hz
      go_wp2
      go_roundw
      case rel => exact ⟨k + 1, _, by omega, by go_num, HS.out.1, hbel.trans (below_of_grown HS.out.2 (by have := hbel.size; omega) (fun j hj => by injection hj with hj; subst hj; exact hgb))⟩
      case measure => simp [intOf]; omega
    · clear hnc hcm hAb h HX
      obtain ⟨wo, hwo⟩ : ∃ wo : World, wo = wr := ⟨_, rfl⟩
      rw [← hwo] at hown hbel ⊢
      clear hwo
      go_wp2
      go_loopw [0, 6] (fun b i wr => ∃ (k : Nat) (zs : List Nat), k ≤ 64 ∧ i = .int .i64 k ∧ wr.ownsRow base 5 1 b (n + k) (b8 zs) ∧ Below base w wr) (fun _ i _ => 64 - (intOf i).toNat)
      case atStart => exact ⟨0, zs, Nat.zero_le _, rfl, hown, hbel⟩
      case round =>
        obtain ⟨j, ys, hj, rfl, hown', hbel'⟩ := hrel
        have hsz := hbel'.size
        by_cases hlt : j < 64
        · go_wp2_with (at_builtin; (refine push8 wr rfl (.tmp 21) (.tmp 23) rfl base u0 (n + j) ys rfl hown' _ m rfl rfl (by omega) (by omega) ?_); intro v' w1 hown1 hg1 _)
          have hb1 := hbel'.trans (below_of_grown hg1 (by omega) (fun k hk => (hown'.lt k hk).1))
          clear hg1 hown'
          go_wp2
          go_roundw
          case rel => exact ⟨j + 1, _, by omega, by go_num, by rw [← Nat.add_assoc]; exact hown1, hb1⟩
          case measure => simp [intOf]; omega
        · have hj64 : j = 64 := by omega
          subst hj64
          obtain ⟨A', c', rfl, _⟩ := own_shape hown'
          have HB := Lib.hid hbel'
          clear hbel' hown'
          go_wp2
          go_ret
          exact ⟨ret_i (by omega), HB.out⟩
end Go.Proofs.YtljfmcgeiceagaaGreat

/- Zigzag and back, the program's and the reference's. -/
namespace Go.Proofs.YtljfmcgeiceagaaGreat
open Go Go.RowKit

theorem nat_xor_ones (n x : Nat) (h : x < 2 ^ n) : x ^^^ (2 ^ n - 1) = 2 ^ n - 1 - x := by
  apply Nat.eq_of_testBit_eq
  intro i
  rw [Nat.testBit_xor, Nat.testBit_two_pow_sub_one]
  have e : 2 ^ n - 1 - x = 2 ^ n - (x + 1) := by omega
  rw [e, Nat.testBit_two_pow_sub_succ h]
  by_cases hi : i < n
  · simp [hi]
  · have : x.testBit i = false := Nat.testBit_lt_two_pow (Nat.lt_of_lt_of_le h (Nat.pow_le_pow_right (by omega) (by omega)))
    simp [hi, this]

theorem xor_u64_zero (a : Nat) (h : a < 18446744073709551616) : bits .xor .u64 (a : Int) 0 = (a : Int) := by
  have := u64_xor_nat a 0 h (by omega)
  rw [Nat.xor_zero] at this
  exact this

theorem xor_u64_ones (a : Nat) (h : a < 18446744073709551616) : bits .xor .u64 (a : Int) 18446744073709551615 = 18446744073709551615 - (a : Int) := by
  have h1 := u64_xor_nat a 18446744073709551615 h (by omega)
  have h2 := nat_xor_ones 64 a h
  have e : (2 : Nat) ^ 64 - 1 = 18446744073709551615 := by decide
  rw [e] at h2
  rw [h2] at h1
  refine Eq.trans h1 ?_
  omega

theorem zig_bits (s : Int) (h1 : -9223372036854775808 ≤ s) (h2 : s ≤ 9223372036854775807) :
    bits .xor .u64 (IntKind.u64.wrap (IntKind.u64.wrap s * 2)) (IntKind.u64.wrap (s / 9223372036854775808)) = Uv.zig s := by
  rw [IntKind.wrap_u64, IntKind.wrap_u64, IntKind.wrap_u64]
  by_cases h0 : 0 ≤ s
  · have e1 : s / 9223372036854775808 % 18446744073709551616 = 0 := by omega
    have e2 : s % 18446744073709551616 * 2 % 18446744073709551616 = ((2 * s.toNat : Nat) : Int) := by omega
    rw [e1, e2, xor_u64_zero _ (by omega)]
    unfold Uv.zig
    rw [if_pos h0]
    omega
  · have e1 : s / 9223372036854775808 % 18446744073709551616 = 18446744073709551615 := by omega
    have e2 : s % 18446744073709551616 * 2 % 18446744073709551616 = (((2 * s + 18446744073709551616).toNat : Nat) : Int) := by omega
    rw [e1, e2, xor_u64_ones _ (by omega)]
    unfold Uv.zig
    rw [if_neg h0]
    omega

theorem and_one (u : Nat) (h : u < 18446744073709551616) : bits .and .u64 (u : Int) 1 = ((u % 2 : Nat) : Int) := by
  have := u64_and_nat u 1 h (by omega)
  rw [nat_mask1] at this
  exact this

theorem xor_i64_zero (a : Nat) (h : a < 9223372036854775808) : bits .xor .i64 (a : Int) 0 = (a : Int) := by
  have h1 : (BitVec.ofInt 64 (a : Int)).toNat = a := ofInt_u64 a (by omega)
  show IntKind.i64.wrap ((BitVec.ofInt 64 (a : Int) ^^^ BitVec.ofInt 64 0).toNat : Int) = _
  rw [show BitVec.ofInt 64 0 = 0#64 from rfl, BitVec.xor_zero, h1, IntKind.wrap_i64]
  omega

theorem xor_i64_ones (a : Nat) (h : a < 9223372036854775808) : bits .xor .i64 (a : Int) (-1) = -(a : Int) - 1 := by
  have h1 : (BitVec.ofInt 64 (a : Int)).toNat = a := ofInt_u64 a (by omega)
  show IntKind.i64.wrap ((BitVec.ofInt 64 (a : Int) ^^^ BitVec.ofInt 64 (-1)).toNat : Int) = _
  rw [show BitVec.ofInt 64 (-1) = BitVec.allOnes 64 from by decide, BitVec.xor_allOnes, BitVec.toNat_not, h1, IntKind.wrap_i64]
  omega

theorem zag_bits (u : Nat) (h : u < 18446744073709551616) :
    bits .xor .i64 ((u : Int) / 2) (wrap64 (-wrap64 (bits .and .u64 (u : Int) 1))) = Uv.zag (u : Int) := by
  rw [and_one u h]
  have e0 : (u : Int) / 2 = ((u / 2 : Nat) : Int) := by omega
  unfold Uv.zag
  rcases (show u % 2 = 0 ∨ u % 2 = 1 by omega) with h2 | h2
  · rw [h2, e0, show wrap64 (-wrap64 ((0 : Nat) : Int)) = 0 from by unfold wrap64; decide, xor_i64_zero _ (by omega), if_pos (by omega)]
  · rw [h2, e0, show wrap64 (-wrap64 ((1 : Nat) : Int)) = -1 from by unfold wrap64; decide, xor_i64_ones _ (by omega), if_neg (by omega)]

theorem zigzag_any (s : Int) (w : World) (h : -9223372036854775808 ≤ s ∧ s ≤ 9223372036854775807) :
    Calls Tryz.prog 89 #[.int .i64 s] w fun e w' => e = .returned (.int .u64 (Uv.zig s)) ∧ w = w' := by
  obtain ⟨h1, h2⟩ := h
  go_enter Tryz.func89, Tryz.ntmps89
  go_wp2
  go_ret
  exact ⟨by rw [← zig_bits s h1 h2]; rfl, rfl⟩
theorem unzigzag_any (u : Nat) (w : World) (h : u < 18446744073709551616) :
    Calls Tryz.prog 72 #[.int .u64 (u : Int)] w fun e w' => e = .returned (.int .i64 (Uv.zag (u : Int))) ∧ w = w' := by
  go_enter Tryz.func72, Tryz.ntmps72
  go_wp2
  go_ret
  exact ⟨by rw [← zag_bits u h]; rfl, rfl⟩
theorem rzigzag_any (s : Int) (w : World) (h : -9223372036854775808 ≤ s ∧ s ≤ 9223372036854775807) :
    Calls Tryz.prog 96 #[.int .i64 s] w fun e w' => e = .returned (.int .u64 (Uv.zig s)) ∧ w = w' := by
  obtain ⟨h1, h2⟩ := h
  by_cases h0 : 0 ≤ s
  all_goals
    go_enter Tryz.func96, Tryz.ntmps96
    go_wp2
    go_ret
    exact ⟨ret_i (by unfold Uv.zig; split <;> omega), rfl⟩
theorem runzigzag_any (u : Nat) (w : World) (h : u < 18446744073709551616) :
    Calls Tryz.prog 79 #[.int .u64 (u : Int)] w fun e w' => e = .returned (.int .i64 (Uv.zag (u : Int))) ∧ w = w' := by
  by_cases h0 : u % 2 = 0
  all_goals
    first
      | (have hb : ((u : Int) % 2 == 0) = true := by rw [beq_iff_eq]; omega)
      | (have hb : ((u : Int) % 2 == 0) = false := by rw [beq_eq_false_iff_ne]; omega)
    go_enter Tryz.func79, Tryz.ntmps79
    go_wp2
    go_ret
    exact ⟨ret_i (by unfold Uv.zag; split <;> omega), rfl⟩

theorem zig_range (s : Int) (h : -9223372036854775808 ≤ s ∧ s ≤ 9223372036854775807) : 0 ≤ Uv.zig s ∧ Uv.zig s ≤ 18446744073709551615 := by unfold Uv.zig; split <;> omega
theorem zag_range (u : Nat) (h : u < 18446744073709551616) : -9223372036854775808 ≤ Uv.zag (u : Int) ∧ Uv.zag (u : Int) ≤ 9223372036854775807 := by unfold Uv.zag; split <;> omega
end Go.Proofs.YtljfmcgeiceagaaGreat

/- octet.Compare, the reference's, begins: texts held against each other. -/
namespace Go.Proofs.YtljfmcgeiceagaaGreat
open Go Go.RowKit
set_option linter.unusedVariables false

/-- A text's bytes. -/
def sb (s : ByteArray) : List Nat := s.data.toList.map UInt8.toNat
theorem sb_length (s : ByteArray) : (sb s).length = s.size := by simp [sb]
theorem sb_by (s : ByteArray) : By (sb s) := fun b hb => by
  obtain ⟨c, _, rfl⟩ := List.mem_map.1 hb
  exact c.toNat_lt
theorem sb_inj {s t : ByteArray} (h : sb s = sb t) : s = t := by
  unfold sb at h
  have h2 : s.data.toList = t.data.toList := by
    refine (List.map_inj_right ?_).1 h
    intro x y hxy
    exact UInt8.toNat_inj.1 hxy
  cases s; cases t
  simp at h2
  simp [h2]

end Go.Proofs.YtljfmcgeiceagaaGreat

/- Conversions between texts and slices of bytes, as laws for a walk; rows that bear a mark behind their last cell. -/
namespace Go.Proofs.YtljfmcgeiceagaaGreat
open Go Go.RowKit
set_option linter.unusedVariables false

/-- A block that is known cell by cell; no cell of it is frozen. -/
def Row (w : World) (g : Nat) (e : TypeId) (cs : List Value) : Prop :=
  ∃ lo hi, w.heap[g]? = some (.cells cs.toArray e (lo, hi)) ∧ (cs.length ≤ lo ∨ hi ≤ lo)

theorem Row.lt {w : World} {g : Nat} {e : TypeId} {cs : List Value} (h : Row w g e cs) : g < w.heap.size := by
  obtain ⟨lo, hi, h, _⟩ := h
  exact (Array.getElem?_eq_some_iff.1 h).1
theorem Row.cell {w : World} {g : Nat} {e : TypeId} {cs : List Value} (h : Row w g e cs) (k : Nat) : w.cell? ⟨g, k, none⟩ = cs[k]? := by
  obtain ⟨lo, hi, h, _⟩ := h
  rw [cell_of_row w g k cs.toArray e (lo, hi) h]
  simp
theorem Row.below {w w' : World} {g : Nat} {e : TypeId} {cs : List Value} (h : Row w g e cs) (hb : Below w.heap.size w w') : Row w' g e cs := by
  have hl := h.lt
  obtain ⟨lo, hi, h, hm⟩ := h
  exact ⟨lo, hi, (hb.block g hl).trans h, hm⟩
theorem Row.rd {w : World} {g : Nat} {e : TypeId} {cs : List Value} (h : Row w g e cs) : Rd w (some ⟨g, 0, none⟩) cs := by
  intro _
  exact ⟨g, 0, rfl, h.lt, fun k u hu => by rw [Nat.zero_add, h.cell k]; exact hu⟩
theorem Row.grown {w : World} {g : Nat} (k : Nat) (u : Value) : w.grownBy (w.setCell ⟨g, k, none⟩ u) (some g) :=
  ⟨rfl, rfl, rfl, by simp [World.setCell], fun j hj hne => Below.heap_setCell w ⟨g, k, none⟩ u j (fun e => hne (by rw [e]))⟩

theorem u8_nat {b : Nat} (h : b < 256) : (UInt8.ofNat b).toNat = b := by
  rw [UInt8.toNat_ofNat']
  exact Nat.mod_eq_of_lt h

/-- Bytes as a text. -/
def strOf (bs : List Nat) : ByteArray := ⟨(bs.map UInt8.ofNat).toArray⟩
theorem sb_strOf {bs : List Nat} (h : By bs) : sb (strOf bs) = bs := by
  unfold sb strOf
  simp only [List.map_map]
  refine (List.map_congr_left (fun b hb => ?_)).trans (List.map_id _)
  simp only [Function.comp_apply, id]
  exact u8_nat (h b hb)
theorem strOf_size (bs : List Nat) : (strOf bs).size = bs.length := by simp [strOf, ByteArray.size]
theorem strOf_sb (s : ByteArray) : strOf (sb s) = s := sb_inj (sb_strOf (sb_by s))

theorem b8_sb (s : ByteArray) : b8 (sb s) = s.data.toList.map fun b => Value.int .u8 (b.toNat : Int) := by
  unfold b8 sb
  rw [List.map_map]
  rfl

section
variable {P : Program}

theorem wpList_bytes (w : World) {ops : Array Oper} {rest : List Oper} {o : Oper} {a : Act} {Q : Exit → Act → World → Prop} (hgd : o.guard = none) (x : Operand) (src dst e : TypeId)
    (ho : o.op = .convert src dst x) (hs : P.underlying src = some .string) (hd : P.underlying dst = some (.slice e)) (he : P.underlying e = some (.int .u8))
    (s : ByteArray) (hx : a.eval x = .string s)
    (h : ∀ c w' zs, Row w' w.heap.size e (b8 (sb s) ++ zs) → s.size ≤ c → Below w.heap.size w w' → (b8 (sb s) ++ zs).length = c → wpList P ops Q rest (a.put o.dst (.slice (some ⟨w.heap.size, 0, none⟩) s.size c)) w') :
    wpList P ops Q (o :: rest) a w := by
  refine wpList_plain hgd fun K hK => ?_
  have hrun := run_bytes_of_string (P := P) w src dst e s hs hd he
  unfold Oper.wp
  simp [execOp, ho, hx, hrun, Result.andThen]
  have hge := grownCap_ge w s.size 0 e
  have hrow : bytesRow s (grownCap w s.size 0 e) = (b8 (sb s) ++ List.replicate (grownCap w s.size 0 e - s.size) (Value.int .u8 0)).toArray := by
    unfold bytesRow
    rw [b8_sb]
    apply Array.ext'
    simp
  refine hK _ _ (h _ _ (List.replicate (grownCap w s.size 0 e - s.size) (Value.int .u8 0)) ?_ hge ?_ ?_)
  · rw [hrow]
    exact ⟨_, _, heap_alloc_new w.drew _, .inl (by simp)⟩
  · exact undrew ((Below.refl w.heap.size w.drew).alloc (Nat.le_refl _) _)
  · simp [b8_length, sb_length]; omega

theorem wpList_str (w : World) {ops : Array Oper} {rest : List Oper} {o : Oper} {a : Act} {Q : Exit → Act → World → Prop} (hgd : o.guard = none) (x : Operand) (src dst e : TypeId)
    (ho : o.op = .convert src dst x) (hs : P.underlying src = some (.slice e)) (he : P.underlying e = some (.int .u8)) (hd : P.underlying dst = some .string)
    (A : Option Addr) (n c : Nat) (bs : List Nat) (hx : a.eval x = .slice A n c) (hr : Rd w A (b8 bs)) (hn : bs.length = n) (hby : By bs)
    (h : wpList P ops Q rest (a.put o.dst (.string (strOf bs))) w) :
    wpList P ops Q (o :: rest) a w := by
  refine wpList_plain hgd fun K hK => ?_
  have hrun : (convert src dst (.slice A n c)).run P w = .ok (.string (strOf bs)) w := by
    subst hn
    by_cases h0 : bs = []
    · subst h0
      rcases A with _ | g
      · rw [run_convert_bytes_string w src dst e none _ c hs he hd]
        simp [Conv.bytesToString, strOf]
        rfl
      · exact run_convert_bytes_back w src dst e g c [] hs he hd (fun j hj => absurd hj (by simp))
    · obtain ⟨g, off, rfl, _, hc⟩ := hr (by simpa [b8] using h0)
      have hl : bs.length = (bs.map UInt8.ofNat).length := by simp
      rw [hl]
      refine run_convert_bytes_back w src dst e ⟨g, off, none⟩ c (bs.map UInt8.ofNat) hs he hd (fun j hj => ?_)
      rw [add_zero_off]
      have hj' : j < bs.length := by simpa using hj
      have := hc j (.int .u8 (bs[j] : Int)) (by rw [b8_get, List.getElem?_eq_getElem hj']; rfl)
      rw [this]
      have hb := hby _ (List.getElem_mem hj')
      simp only [List.getElem_map]
      rw [u8_nat hb]
  unfold Oper.wp
  simp [execOp, ho, hx, hrun, Result.andThen]
  exact hK _ _ h
end
end Go.Proofs.YtljfmcgeiceagaaGreat

/- chroniclelaw2.same and chronicleref2.same: two slices of bytes, held against each other. -/
namespace Go.Proofs.YtljfmcgeiceagaaGreat
open Go Go.RowKit

set_option maxHeartbeats 400000 in
set_option maxRecDepth 100000 in
theorem rsame_all (A B : Option Addr) (c d : Nat) (xs ys : List Nat) (w : World) (ha : Rd w A (b8 xs)) (hb : Rd w B (b8 ys)) (la : xs.length ≤ 140737488355328) (lb : ys.length ≤ 140737488355328) :
    Calls Tryz.prog 115 #[.slice A xs.length c, .slice B ys.length d] w fun e w' => Looks w w' e (.bool (sameB xs ys)) := by
  by_cases hl : xs.length = ys.length
  · have hne : ((xs.length : Int) != (ys.length : Int)) = false := by rw [bne_eq_false_iff_eq]; omega
    have HL := Lib.hid hl
    clear hl
    go_enter Tryz.func115, Tryz.ntmps115
    go_wp2
    go_loopw [5] (fun i wr => ∃ k n : Nat, k ≤ xs.length ∧ i = .int .i64 k ∧ wr = w.drewN n ∧ Hid (xs.take k = ys.take k)) (fun i _ => xs.length - (intOf i).toNat)
    case atStart => exact ⟨0, 0, Nat.zero_le _, rfl, rfl, by simp [Hid]⟩
    case round =>
      obtain ⟨k, n, hk, rfl, rfl, H⟩ := hrel
      by_cases hlt : k < xs.length
      · have hltb : k < ys.length := by rw [← HL.out]; exact hlt
        obtain ⟨g, off, rfl, hg, hcell⟩ := ha.at_ (List.getElem?_eq_getElem hlt)
        obtain ⟨g', off', rfl, hg', hcell'⟩ := hb.at_ (List.getElem?_eq_getElem hltb)
        obtain ⟨x, hx⟩ : ∃ x, x = xs[k] := ⟨_, rfl⟩
        obtain ⟨y, hy⟩ : ∃ y, y = ys[k] := ⟨_, rfl⟩
        rw [← hx] at hcell
        rw [← hy] at hcell'
        have h0 : (0 : Int) ≤ (k : Int) := by omega
        have h1 : (k : Int) < (xs.length : Int) := by omega
        have h2 : (k : Int) < (ys.length : Int) := by omega
        by_cases hxy : x = y
        · have hne' : ((x : Int) != (y : Int)) = false := by rw [bne_eq_false_iff_eq]; omega
          have hN : xs.take (k + 1) = ys.take (k + 1) := by
            rw [List.take_succ_eq_append_getElem hlt, List.take_succ_eq_append_getElem hltb, H.out, ← hx, ← hy, hxy]
          have HN := Lib.hid hN
          clear hN hx hy hxy ha hb
          go_wp2
          go_quiet (fail)
          go_wp2
          go_roundw
          case rel => exact ⟨k + 1, _, by omega, by go_num, rfl, HN⟩
          case measure => simp [intOf]; omega
        · have hne' : ((x : Int) != (y : Int)) = true := by rw [bne_iff_ne]; omega
          have hN : sameB xs ys = false := by
            unfold sameB
            rw [decide_eq_false_iff_not]
            intro h
            subst h
            exact hxy (hx.trans hy.symm)
          have HN := Lib.hid hN
          clear hN hx hy hxy ha hb
          go_wp2
          go_quiet (fail)
          go_wp2
          go_ret
          rw [HN.out]
          exact ⟨rfl, _, World.drewN_drewN ..⟩
      · have hN : sameB xs ys = true := by
          have h := H.out
          have h2 := HL.out
          rw [List.take_of_length_le (by omega), List.take_of_length_le (by omega)] at h
          simp [sameB, h]
        have HN := Lib.hid hN
        clear hN ha hb
        go_wp2
        go_ret
        rw [HN.out]
        exact ⟨rfl, _, rfl⟩
  · have hne : ((xs.length : Int) != (ys.length : Int)) = true := by rw [bne_iff_ne]; omega
    have hN : sameB xs ys = false := by
      unfold sameB
      rw [decide_eq_false_iff_not]
      intro h
      exact hl (by rw [h])
    have HN := Lib.hid hN
    clear hN hl ha hb
    go_enter Tryz.func115, Tryz.ntmps115
    go_wp2
    go_ret
    rw [HN.out]
    exact ⟨rfl, 0, rfl⟩

theorem rsame_any (A B : Option Addr) (n m c d : Nat) (xs ys : List Nat) (w : World) (ha : Rd w A (b8 xs)) (hb : Rd w B (b8 ys)) (hn : xs.length = n) (hm : ys.length = m) (la : n ≤ 140737488355328) (lb : m ≤ 140737488355328) :
    Calls Tryz.prog 115 #[.slice A n c, .slice B m d] w fun e w' => Looks w w' e (.bool (sameB xs ys)) := by
  subst hn hm
  exact rsame_all A B c d xs ys w ha hb la lb

/-- The same bytes. -/
theorem rsame_yes (A B : Option Addr) (n m c d : Nat) (xs ys : List Nat) (w : World) (ha : Rd w A (b8 xs)) (hb : Rd w B (b8 ys)) (hn : xs.length = n) (hm : ys.length = m) (la : n ≤ 140737488355328) (lb : m ≤ 140737488355328) (h : xs = ys) :
    Calls Tryz.prog 115 #[.slice A n c, .slice B m d] w fun e w' => Looks w w' e (.bool true) := by
  have := rsame_any A B n m c d xs ys w ha hb hn hm la lb
  rw [show sameB xs ys = true from by simp [sameB, h]] at this
  exact this

/-- Other bytes. -/
theorem rsame_no (A B : Option Addr) (n m c d : Nat) (xs ys : List Nat) (w : World) (ha : Rd w A (b8 xs)) (hb : Rd w B (b8 ys)) (hn : xs.length = n) (hm : ys.length = m) (la : n ≤ 140737488355328) (lb : m ≤ 140737488355328) (h : xs ≠ ys) :
    Calls Tryz.prog 115 #[.slice A n c, .slice B m d] w fun e w' => Looks w w' e (.bool false) := by
  have := rsame_any A B n m c d xs ys w ha hb hn hm la lb
  rw [show sameB xs ys = false from by simp [sameB, h]] at this
  exact this
end Go.Proofs.YtljfmcgeiceagaaGreat

/- How a law's arguments are opened into what its walk is told, and how the row is closed. -/
namespace Go.Proofs.YtljfmcgeiceagaaGreat
open Go Go.RowKit Go.ChangeShapes Go.WideShapes Go.ChangeAt
open Go.ChangeMaps (open_string shut_string)

theorem ownOpen : ownKnob Tryz.prog.godebug = none := by kernel_rfl
theorem laidOpen : laidOutB Tryz.prog = true := by kernel_rfl

theorem nat_of_wf_u32 {n : Int} (h : (Lit.int .u32 n).wf = true) : ∃ a : Nat, n = (a : Int) ∧ a < 4294967296 := by
  have h1 : IntKind.u32.min = 0 := rfl
  have h2 : IntKind.u32.max = 4294967295 := rfl
  simp only [Lit.wf, Bool.and_eq_true, decide_eq_true_eq] at h
  exact ⟨n.toNat, by omega, by omega⟩
theorem int_of_wf_i64 {n : Int} (h : (Lit.int .i64 n).wf = true) : -9223372036854775808 ≤ n ∧ n ≤ 9223372036854775807 := by
  have h1 : IntKind.i64.min = -9223372036854775808 := rfl
  have h2 : IntKind.i64.max = 9223372036854775807 := rfl
  simp only [Lit.wf, Bool.and_eq_true, decide_eq_true_eq] at h
  omega
/-- A bulk is no less than the number of values. -/
theorem bulk_pos {H : Type} (d : DataW H) : 1 ≤ Rows.uptoBulk d := by
  cases d with
  | lit l => cases l <;> simp [Rows.uptoBulk]
  | nil => simp [Rows.uptoBulk]
  | ptr d => simp [Rows.uptoBulk]
  | slice elems spare => simp [Rows.uptoBulk]
  | agg parts => simp [Rows.uptoBulk]
  | iface t d => simp [Rows.uptoBulk]
  | map entries => simp [Rows.uptoBulk]
  | held h => simp [Rows.uptoBulk]
theorem bulk_len {H : Type} (l : List (DataW H)) : l.length ≤ Rows.uptoBulkAll l := by
  induction l with
  | nil => simp
  | cons x r ih => have := bulk_pos x; simp only [Rows.uptoBulkAll, List.length_cons]; omega

section
variable {H : Type} {enc : TypeId × Value → H} {w : World} {base : Nat} {spare : Nat → Bool} {held : Bool}

/-- A slice of unsigned bytes that came in. -/
theorem open_b8 {P : Program} {t e : TypeId} {r : Reach} {b0 : Nat} {v : Value} {d : DataW H} {ps : List MemPlace} {ts : List TypeId} {ds : List (DataW H)} {j : Nat}
    (ht : P.underlying t = some (.slice e)) (he : P.underlying e = some (.int .u8)) (hc : P.cellsOf e = 1) (hb : P.bytesOf e = 1)
    (hval : Value.okWide P w r b0 t v) (hd : DataW.Trod enc P w base spare held t v d ps) (hlt : ∀ x ∈ ps, x.block < w.heap.size)
    (hsz : (DataW.weightsEach P ts ds).all (· ≤ reachBytes) = true) (htj : ts[j]? = some t) (hdj : ds[j]? = some d) :
    ∃ (A : Option Addr) (c : Nat) (bs : List Nat), v = .slice A bs.length c ∧ bs.length ≤ c ∧ Rd w A (b8 bs) ∧ By bs ∧ bs.length ≤ 140737488351232 ∧ bs.length ≤ Rows.uptoBulk d := by
  obtain ⟨a0, len, cap, rfl⟩ := okWide_slice ht hval
  obtain ⟨fuel, hf⟩ := hd
  rcases open_ints ht he hc hf with ⟨hcs, _⟩ | ⟨x, l, c, zs, hcs, _, hl, hm, hz, hx, hcell, hwz⟩
  · simp [Value.cells] at hcs
    obtain ⟨rfl, rfl, rfl⟩ := hcs
    exact ⟨none, 0, [], rfl, Nat.le_refl _, Rd.nil_ _ _, fun b hb => by simp at hb, by simp, by simp⟩
  · simp [Value.cells] at hcs
    obtain ⟨rfl, rfl, rfl⟩ := hcs
    simp only [Prod.mk.injEq] at hx
    obtain ⟨rfl, rfl⟩ := hx
    have hlz : len ≤ zs.length := by rw [hz]; split <;> omega
    have hs := sized_slice hsz htj hdj ht
    rw [hb] at hs
    simp only [lits, List.length_map, List.length_take, List.length_drop, reachBytes] at hs
    have hwf : ∀ n ∈ zs, 0 ≤ n ∧ n < 256 := by
      intro n hn
      have := hwz n hn
      have h1 : IntKind.u8.min = 0 := rfl
      have h2 : IntKind.u8.max = 255 := rfl
      simp only [Lit.wf, Bool.and_eq_true, decide_eq_true_eq] at this
      omega
    refine ⟨some x, cap, (zs.take len).map Int.toNat, ?_, ?_, ?_, ?_, ?_, ?_⟩
    · congr 1; simp; omega
    · simp; omega
    · intro hne
      have hpos : 0 < len := by
        rcases Nat.eq_zero_or_pos len with h0 | h0
        · subst h0; simp [b8] at hne
        · exact h0
      obtain ⟨g, off, spot⟩ := x
      have hc0 := hcell 0 (by omega)
      have hspot : spot = none := by simpa [Addr.add] using World.cell?_spot hc0
      subst hspot
      refine ⟨g, off, rfl, ?_, ?_⟩
      · have := World.block_lt_of_cell? w _ hc0
        simpa [Addr.add] using this
      · intro k u hu
        rw [b8_get, List.getElem?_map] at hu
        obtain ⟨b, hb1, rfl⟩ := Option.map_eq_some_iff.1 hu
        obtain ⟨z, hz1, rfl⟩ := Option.map_eq_some_iff.1 hb1
        rw [List.getElem?_take] at hz1
        split at hz1
        · have hk : k < zs.length := (List.getElem?_eq_some_iff.1 hz1).1
          have := hcell k hk
          rw [show (⟨g, off, none⟩ : Addr).add k = ⟨g, off + k, none⟩ from by unfold Addr.add; split <;> simp_all] at this
          rw [this]
          have hzz : zs.getD k 0 = z := by simp [List.getD, hz1]
          have := (hwf z (List.mem_of_getElem? hz1)).1
          rw [hzz]
          congr 2
          omega
        · cases hz1
    · intro b hb1
      obtain ⟨z, hz1, rfl⟩ := List.mem_map.1 hb1
      have := hwf z (List.mem_of_mem_take hz1)
      omega
    · simp; omega
    · have h1 := bulk_len (H := H) (lits .u8 (zs.take len))
      have h2 : (lits (H := H) .u8 (zs.take len)).length = len := by simp [lits]; omega
      have h3 : ((zs.take len).map Int.toNat).length = len := by simp; omega
      simp only [Rows.uptoBulk]
      omega
end
end Go.Proofs.YtljfmcgeiceagaaGreat

/- How arguments that are lists of whole numbers, and lists of pairs of them, are opened. (open_slice_fields is the guide's, from its page on structs.) -/
namespace Go.Proofs.YtljfmcgeiceagaaGreat
open Go Go.RowKit Go.ChangeShapes Go.WideShapes Go.ChangeAt Go.Deep
set_option linter.unusedVariables false

def i64s (l : List Int) : List Value := l.map (Value.int .i64)
theorem i64s_get (l : List Int) (k : Nat) : (i64s l)[k]? = (l[k]?).map (Value.int .i64) := by simp [i64s]
/-- The cell of a whole number. -/
theorem Rd.i64 {w : World} {A : Option Addr} {l : List Int} (h : Rd w A (i64s l)) {k : Nat} {x : Int} (hk : l[k]? = some x) :
    ∃ g off, A = some ⟨g, off, none⟩ ∧ g < w.heap.size ∧ w.cell? ⟨g, off + k, none⟩ = some (.int .i64 x) := by
  have hne : i64s l ≠ [] := by
    intro e
    have : l = [] := by simpa [i64s] using e
    rw [this] at hk
    simp at hk
  obtain ⟨g, off, e, hg, hc⟩ := h hne
  exact ⟨g, off, e, hg, hc k _ (by rw [i64s_get, hk]; rfl)⟩


section
variable {H : Type} {enc : TypeId × Value → H} {P : Program} {w : World} {base : Nat} {spare : Nat → Bool} {held : Bool}
theorem open_slice_fields {t e : TypeId} {fs : Array Field} {fuel : Nat} {cs : List Value} {x : DataW H × List MemPlace} (ht : P.underlying t = some (.slice e)) (he : P.underlying e = some (.struct fs))
    (hone : oneCellFields P fs = true) (hC : P.cellsOf e = fs.size) (h : DataW.trod enc P w base spare held fuel t cs = some x) :
    (cs = [.slice none 0 0] ∧ x = (.nil, [])) ∨
    ∃ (a : Addr) (len cap m : Nat) (D : Nat → DataW H) (Pl : Nat → List MemPlace), cs = [.slice (some a) len cap] ∧ base ≤ a.block ∧ len ≤ cap ∧ cap ≤ maxLen ∧ m = (if spare a.block then cap else len) ∧
      x = (.slice ((List.range len).map D) ((List.range (m - len)).map fun j => D (len + j)), MemPlace.row a (m * fs.size) ++ (List.range m).flatMap Pl) ∧
      ∀ i, i < m → ∃ (ys : List (DataW H × List MemPlace)) (n : Nat), D i = .agg (ys.map (·.1)) ∧ Pl i = ys.flatMap (·.2) ∧ ys.length = fs.size ∧
        ∀ (j : Nat) (f : Field), fs[j]? = some f → ∃ (v : Value) (y : DataW H × List MemPlace), w.cell? (a.add (i * fs.size + j)) = some v ∧ ys[j]? = some y ∧ DataW.trod enc P w base spare held n f.type [v] = some y := by
  rcases open_slice ht h with h0 | ⟨a, len, cap, m, n, D, Pl, hcs, hb, hl, hm, hmm, hx, hi⟩
  · exact .inl h0
  · refine .inr ⟨a, len, cap, m, D, Pl, hcs, hb, hl, hm, hmm, by rw [hC] at hx; exact hx, fun i him => ?_⟩
    obtain ⟨cs', hc, ht'⟩ := hi i him
    rw [hC] at hc
    obtain ⟨ys, n', hn', hy, hlen, hyl, hf⟩ := DataW.trod_struct he ht'
    obtain ⟨_, hcl, hat⟩ := World.cells?_some hc
    simp only [Prod.mk.injEq] at hy
    refine ⟨ys, n', hy.1, hy.2, hyl, fun j f hj => ?_⟩
    obtain ⟨ho, hk⟩ := hone_of hone j f hj
    have hjl : j < fs.size := (Array.getElem?_eq_some_iff.1 hj).1
    have hcell := hat j hjl
    have hv : cs'[j]? = some (cs'[j]'(by omega)) := List.getElem?_eq_getElem (by omega)
    have h1 := hf j f hj
    rw [ho, hk] at h1
    have hone' : (cs'.drop j).take 1 = [cs'[j]'(by omega)] := by
      rw [List.drop_eq_getElem_cons (by omega)]
      rfl
    rw [hone'] at h1
    have hys : ys[j]? = some (ys[j]'(by omega)) := List.getElem?_eq_getElem (by omega)
    refine ⟨_, _, ?_, hys, h1.trans hys⟩
    rw [← Go.Deep.add_add, hcell, hv]
end


section
variable {H : Type} {enc : TypeId × Value → H} {w : World} {base : Nat} {spare : Nat → Bool} {held : Bool}

/-- A list of pairs, cell by cell: number k's parts lie at 2 k and 2 k + 1. -/
def RdP (w : World) (A : Option Addr) (l : List (Int × Int)) : Prop :=
  l ≠ [] → ∃ g off, A = some ⟨g, off, none⟩ ∧ g < w.heap.size ∧ ∀ k x y, l[k]? = some (x, y) → w.cell? ⟨g, off + k * 2, none⟩ = some (.int .i64 x) ∧ w.cell? ⟨g, off + k * 2 + 1, none⟩ = some (.int .i64 y)
theorem RdP.below {w w' : World} {A : Option Addr} {l : List (Int × Int)} (h : RdP w A l) (hb : Below w.heap.size w w') : RdP w' A l := by
  intro hn
  obtain ⟨g, off, e, hg, hc⟩ := h hn
  exact ⟨g, off, e, Nat.lt_of_lt_of_le hg hb.size, fun k x y hu => ⟨(hb.cell (p := ⟨g, off + k * 2, none⟩) hg).trans (hc k x y hu).1, (hb.cell (p := ⟨g, off + k * 2 + 1, none⟩) hg).trans (hc k x y hu).2⟩⟩

end
end Go.Proofs.YtljfmcgeiceagaaGreat
