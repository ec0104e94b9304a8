/- Laws on append for rows of bytes. -/
import Derived.Test.YtmdpncjffikmiaaChecked
import Derived.Test.YtmdpncjffikmiaaApp
namespace Go.Proofs.Ytmdpncjffikmiaa
open Go Go.RowKit

theorem info8 : (Try.prog.info? 5).map (fun i => (i.zero, i.size, i.bytes)) = some (some (.int .u8 0), 1, 1) := by kernel_rfl

theorem rd_lit (w : World) (cs : List Value) (e : TypeId) : Rd (w.alloc (.cells cs.toArray e)) (some ⟨w.heap.size, 0, none⟩) cs := by
  intro _
  refine ⟨w.heap.size, 0, rfl, by simp, fun k u hu => ?_⟩
  have h := cell_of_row (w.alloc (.cells cs.toArray e)) w.heap.size k cs.toArray e (0, 0) (heap_alloc_new w _)
  rw [Nat.zero_add, h]
  simpa using hu

theorem own_lit (w : World) (base : Nat) (cs : List Value) (e : TypeId) (n : Nat) (hb : base ≤ w.heap.size) (hm : n ≤ maxLen) (hs : cs.length = n) :
    (w.alloc (.cells cs.toArray e)).ownsRow base e 1 (.slice (some ⟨w.heap.size, 0, none⟩) n n) n cs := by
  have := World.ownsRow_lit (base := base) (e := e) (size := 1) w cs.toArray n hb hm (by simpa using hs)
  simpa using this

theorem app8 (w : World) {ops : Array Oper} {rest : List Oper} {o : Oper} {a : Act} {Q : Exit → Act → World → Prop} (hgd : o.guard = none) (s x : Operand)
    (ho : o.op = .call { callee := .builtin .append, args := #[s, x], argTypes := #[23, 23] })
    (base : Nat) (v : Value) (n : Nat) (xs : List Nat) (hs : a.eval s = v) (hown : w.ownsRow base 5 1 v n (b8 xs))
    (A : Option Addr) (m c : Nat) (news : List Nat) (hx : a.eval x = .slice A m c) (hl : news.length = m) (hr : Rd w A (b8 news))
    (hbytes : n + m ≤ 140737488355328) (hbase : base ≤ w.heap.size)
    (h : ∀ v' w', w'.ownsRow base 5 1 v' (n + m) (b8 (xs ++ news)) → w.grownBy w' v.ownBlock → (v'.ownBlock = v.ownBlock ∨ ∃ k, v'.ownBlock = some k ∧ w.heap.size ≤ k) → wpList Try.prog ops Q rest (a.put o.dst v') w') :
    wpList Try.prog ops Q (o :: rest) a w := by
  obtain ⟨i0, hi, hz0, hz1, hz2⟩ := info_parts info8
  refine wpList_app w hgd s x 23 ho base 5 i0 (.int .u8 0) 1 1 Try.underlying23 hi hz0 hz1 hz2 rfl (by omega) v n (b8 xs) hs hown A m c (b8 news) hx (by rw [b8_length]; omega) hr (b8_one _) (by omega) (by unfold maxLen; omega) hbase ?_
  intro v' w' h1 h2 h3
  exact h v' w' (by rw [b8_append]; exact h1) h2 h3

theorem push8 (w : World) {ops : Array Oper} {rest : List Oper} {o : Oper} {a : Act} {Q : Exit → Act → World → Prop} (hgd : o.guard = none) (s x : Operand)
    (ho : o.op = .call { callee := .builtin .append, args := #[s, x], argTypes := #[23, 23] })
    (base : Nat) (v : Value) (n : Nat) (xs : List Nat) (hs : a.eval s = v) (hown : w.ownsRow base 5 1 v n (b8 xs)) (z : Int) (b : Nat) (hz : z = (b : Int))
    (hx : a.eval x = .slice (some ⟨w.heap.size, 0, none⟩) 1 1)
    (hbytes : n + 1 ≤ 140737488355328) (hbase : base ≤ w.heap.size)
    (h : ∀ v' w', w'.ownsRow base 5 1 v' (n + 1) (b8 (xs ++ [b])) → w.grownBy w' v.ownBlock → (v'.ownBlock = v.ownBlock ∨ ∃ k, v'.ownBlock = some k ∧ w.heap.size ≤ k) → wpList Try.prog ops Q rest (a.put o.dst v') w') :
    wpList Try.prog ops Q (o :: rest) a (w.alloc (.cells #[.int .u8 z] 5)) := by
  subst hz
  obtain ⟨i0, hi, hz0, hz1, hz2⟩ := info_parts info8
  refine wpList_push w hgd s x 23 ho base 5 i0 (.int .u8 0) 1 Try.underlying23 hi hz0 hz1 hz2 rfl v n (b8 xs) hs hown (.int .u8 (b : Int)) rfl hx (by omega) (by unfold maxLen; omega) hbase ?_
  intro v' w' h1 h2 h3
  exact h v' w' (by rw [b8_append]; exact h1) h2 h3

theorem b8_set'' (bs : List Nat) (k b : Nat) : (b8 bs).set k (Value.int .u8 (b : Int)) = b8 (bs.set k b) := by simp [b8, List.map_set]

/-- What is owned, as the bytes that its length tells. -/
theorem own8_n {w : World} {base n : Nat} {e : TypeId} {v : Value} {xs : List Nat} (h : w.ownsRow base e 1 v n (b8 xs)) : xs.length = n := by
  have := h.1
  rw [b8_length] at this
  omega

/-- A row that is not empty: its address. -/
theorem own_pos {w : World} {base : Nat} {e : TypeId} {size n c : Nat} {A : Option Addr} {xs : List Value} (h : w.ownsRow base e size (.slice A n c) n xs) (hn : 0 < n) :
    ∃ g, A = some ⟨g, 0, none⟩ ∧ base ≤ g ∧ g < w.heap.size ∧ n ≤ c ∧ c ≤ maxLen := by
  rcases h.2 with ⟨_, h0⟩ | ⟨g, cap, cur, hv, hb, hh, hnc, hcap, _⟩
  · omega
  · injection hv with hA _ hc
    subst hA hc
    exact ⟨g, rfl, hb, (Array.getElem?_eq_some_iff.1 hh).1, hnc, hcap⟩

/-- Its first part, read. -/
theorem rd_pre {w : World} {base : Nat} {e : TypeId} {n c : Nat} {A : Option Addr} {xs ys : List Nat} (h : w.ownsRow base e 1 (.slice A n c) n (b8 (xs ++ ys))) : Rd w A (b8 xs) := by
  have := (rd_own h).take_ xs.length
  rw [b8_append, List.take_left' (b8_length xs)] at this
  exact this
end Go.Proofs.Ytmdpncjffikmiaa
