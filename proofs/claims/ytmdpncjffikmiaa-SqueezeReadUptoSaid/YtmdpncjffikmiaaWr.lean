/- Writers: what each call writes. -/
import Derived.Test.YtmdpncjffikmiaaApp8
import Derived.Test.YtmdpncjffikmiaaOctUv
import Derived.Test.YtmdpncjffikmiaaOctZig
import Derived.Test.YtmdpncjffikmiaaConv
import Derived.OneCell
namespace Go.Proofs.Ytmdpncjffikmiaa
open Go Go.RowKit
set_option linter.unusedVariables false

/-- Between two worlds: new blocks, and writes to block g and to one row. -/
structure Kept2 (w w' : World) (g : Nat) (r : Option Nat) : Prop where
  os : w'.os = w.os
  tape : w'.tape = w.tape
  output : w'.output = w.output
  size : w.heap.size ≤ w'.heap.size
  block : ∀ k, k < w.heap.size → k ≠ g → some k ≠ r → w'.heap[k]? = w.heap[k]?

theorem Kept2.refl (w : World) (g : Nat) (r : Option Nat) : Kept2 w w g r := ⟨rfl, rfl, rfl, Nat.le_refl _, fun _ _ _ _ => rfl⟩
/-- r' is r, or new. -/
theorem Kept2.trans {a b c : World} {g : Nat} {r r' : Option Nat} (h : Kept2 a b g r) (k : Kept2 b c g r') (hr : r' = r ∨ ∃ q, r' = some q ∧ a.heap.size ≤ q) : Kept2 a c g r :=
  ⟨k.os.trans h.os, k.tape.trans h.tape, k.output.trans h.output, Nat.le_trans h.size k.size, fun i hi hg hne => (k.block i (Nat.lt_of_lt_of_le hi h.size) hg (by
    rcases hr with rfl | ⟨q, rfl, hq⟩
    · exact hne
    · intro e; injection e with e; omega)).trans (h.block i hi hg hne)⟩
theorem Kept2.of_below {a b : World} (h : Below a.heap.size a b) (g : Nat) (r : Option Nat) : Kept2 a b g r := ⟨h.os, h.tape, h.output, h.size, fun k hk _ _ => h.block k hk⟩
theorem Kept2.below {a b : World} {g : Nat} {r : Option Nat} {B : Nat} (h : Kept2 a b g r) (hg : B ≤ g) (hr : ∀ q, r = some q → B ≤ q) (hB : B ≤ a.heap.size) : Below B a b :=
  ⟨h.os, h.tape, h.output, h.size, fun k hk => h.block k (by omega) (by omega) (fun e => by have := hr k e.symm; omega)⟩

/-- A writer of the call's own: in block g; what it has written. -/
structure Wr (base : Nat) (W : World) (T : TypeId) (g : Nat) (v : Value) (xs : List Nat) : Prop where
  cell : W.heap[g]? = some (.cells #[v] T (0, 0))
  own : W.ownsRow base 5 1 v xs.length (b8 xs)
  ne : ∀ q, v.ownBlock = some q → q ≠ g
  gb : base ≤ g

theorem Wr.lt {base : Nat} {W : World} {T : TypeId} {g : Nat} {v : Value} {xs : List Nat} (h : Wr base W T g v xs) : g < W.heap.size := lt_of_block h.cell
theorem Wr.below {base : Nat} {W W' : World} {T : TypeId} {g : Nat} {v : Value} {xs : List Nat} (h : Wr base W T g v xs) (hb : Below W.heap.size W W') : Wr base W' T g v xs :=
  ⟨(hb.block g h.lt).trans h.cell, own_below h.own hb, h.ne, h.gb⟩
/-- While another writer writes. -/
theorem Wr.kept {base : Nat} {W W' : World} {T : TypeId} {g g' : Nat} {v : Value} {xs : List Nat} {r : Option Nat} (h : Wr base W T g v xs) (hk : Kept2 W W' g' r) (h1 : g ≠ g') (h2 : some g ≠ r) (h3 : ∀ q, v.ownBlock = some q → q ≠ g' ∧ some q ≠ r) : Wr base W' T g v xs := by
  refine ⟨(hk.block g h.lt h1 h2).trans h.cell, ⟨h.own.1, ?_⟩, h.ne, h.gb⟩
  rcases h.own.2 with hn | ⟨q, cap, cur, hv, hb, hh, rest⟩
  · exact .inl hn
  · have := h3 q (by rw [hv]; rfl)
    exact .inr ⟨q, cap, cur, hv, hb, (hk.block q (Array.getElem?_eq_some_iff.1 hh).1 this.1 this.2).trans hh, rest⟩

/-- What a call of a writer leaves. -/
def Wrote (base : Nat) (w : World) (T : TypeId) (g : Nat) (v : Value) (ys : List Nat) (e : Ending) (w' : World) : Prop :=
  ∃ v', e = .returned (.tuple #[]) ∧ Wr base w' T g v' ys ∧ Kept2 w w' g v.ownBlock ∧ (v'.ownBlock = v.ownBlock ∨ ∃ q, v'.ownBlock = some q ∧ w.heap.size ≤ q)

theorem Wrote.pre {base : Nat} {w w1 w' : World} {T : TypeId} {g : Nat} {v : Value} {ys : List Nat} {e : Ending} (h : Wrote base w1 T g v ys e w') (hb : Below w.heap.size w w1) : Wrote base w T g v ys e w' := by
  obtain ⟨v', he, hw, hk, hn⟩ := h
  refine ⟨v', he, hw, (Kept2.of_below hb g v.ownBlock).trans hk (.inl rfl), ?_⟩
  rcases hn with hn | ⟨q, hn, hq⟩
  · exact .inl hn
  · exact .inr ⟨q, hn, Nat.le_trans hb.size hq⟩
theorem Wrote.chain {base : Nat} {w w1 w' : World} {T : TypeId} {g : Nat} {v v1 : Value} {ys : List Nat} {e : Ending} (hk1 : Kept2 w w1 g v.ownBlock) (hn1 : v1.ownBlock = v.ownBlock ∨ ∃ q, v1.ownBlock = some q ∧ w.heap.size ≤ q) (h : Wrote base w1 T g v1 ys e w') : Wrote base w T g v ys e w' := by
  obtain ⟨v', he, hw, hk, hn⟩ := h
  refine ⟨v', he, hw, hk1.trans hk hn1, ?_⟩
  rcases hn with hn | ⟨q, hn, hq⟩
  · rw [hn]; exact hn1
  · exact .inr ⟨q, hn, Nat.le_trans hk1.size hq⟩

/-- Fixed bytes of a number. -/
def u32be (n : Nat) : List Nat := [n / 16777216 % 256, n / 65536 % 256, n / 256 % 256, n % 256]
def u64be (n : Nat) : List Nat := u32be (n / 4294967296) ++ u32be (n % 4294967296)


set_option maxHeartbeats 400000 in
theorem raw_is (base g : Nat) (v : Value) (xs : List Nat) (A : Option Addr) (m c : Nat) (news : List Nat) (w : World) (h : Wr base w 84 g v xs) (hr : Rd w A (b8 news)) (hm : news.length = m) (hl : xs.length + m ≤ 140737488355328) (hb : base ≤ w.heap.size) :
    Calls Try.prog 69 #[.pointer (some ⟨g, 0, none⟩), .slice A m c] w (Wrote base w 84 g v (xs ++ news)) := by
  have hc := cell_of_one h.cell
  have HW := Lib.hid h
  have HM := Lib.hid hm
  have hglt := h.lt
  clear h hm
  go_enter Try.func69, Try.ntmps69
  go_wp2_with (at_builtin; (refine app8 w rfl (.tmp 10) (.tmp 11) rfl base v xs.length xs rfl HW.out.own A m c news rfl HM.out hr hl hb ?_); intro v' w1 ho hg hn; obtain ⟨A9, c9, rfl, _⟩ := own_shape ho; have HO := Lib.hid ho; have HG := Lib.hid hg; have HNN := Lib.hid hn; have HC1 := Lib.hid ((hg.block g hglt (fun e => HW.out.ne g e.symm rfl)).trans HW.out.cell); have hc1 := cell_of_one HC1.out; have hf1 := free_of_one HC1.out; clear ho hg hn)
  go_end0
  have hne : ∀ q, (Value.slice A9 (xs.length + m) c9).ownBlock = some q → q ≠ g := by
    intro q hq
    rcases HNN.out with hn | ⟨q', hn, hq'⟩
    · exact HW.out.ne q (hn ▸ hq)
    · rw [hn] at hq
      injection hq with hq
      omega
  refine ⟨_, rfl, ⟨one_setCell HC1.out, ?_, hne, HW.out.gb⟩, ?_, HNN.out⟩
  · rw [List.length_append, HM.out]
    exact ownsRow_setCell_other HO.out (a := ⟨g, 0, none⟩) (fun e => hne g e rfl) _
  · refine ⟨HG.out.os, HG.out.tape, HG.out.output, by simpa [World.setCell] using HG.out.size, fun k hk hkg hkr => ?_⟩
    exact (Below.heap_setCell w1 _ _ _ (fun e => hkg e)).trans (HG.out.block k hk hkr)
theorem raw_none (A : Option Addr) (m c : Nat) (w : World) :
    Calls Try.prog 69 #[.pointer none, .slice A m c] w fun e w' => e = .returned (.tuple #[]) ∧ w = w' := by
  go_enter Try.func69, Try.ntmps69
  go_wp2
  go_end0
  exact ⟨rfl, rfl⟩


theorem new_is (w : World) :
    Calls Try.prog 67 #[] w fun e w' => e = .returned (.pointer (some ⟨w.heap.size, 0, none⟩)) ∧ w' = w.alloc (.cells #[.slice none 0 0] 84) := by
  go_enter Try.func67, Try.ntmps67
  go_wp2
  go_ret
  exact ⟨rfl, rfl⟩
theorem new_wr (base : Nat) (w : World) (hb : base ≤ w.heap.size) : Wr base (w.alloc (.cells #[.slice none 0 0] 84)) 84 w.heap.size (.slice none 0 0) [] :=
  ⟨heap_alloc_new w _, World.ownsRow_nil _ _ _ _, (fun q h => by cases h), hb⟩

theorem uvarint_w (base g : Nat) (v : Value) (xs : List Nat) (x : Nat) (w : World) (h : Wr base w 84 g v xs) (hx : x < 18446744073709551616) (hl : xs.length + 10 ≤ 140737488355328) (hb : base ≤ w.heap.size) :
    Calls Try.prog 68 #[.pointer (some ⟨g, 0, none⟩), .int .u64 (x : Int)] w (Wrote base w 84 g v (xs ++ Uv.uv x)) := by
  have hlen := Uv.uv_len_64 x hx
  have P1 := Lib.hid (fun W A c (h1 : Wr base W 84 g v xs) (h2 : Rd W A (b8 (Uv.uv x))) (h3 : base ≤ W.heap.size) => raw_is base g v xs A (Uv.uv x).length c (Uv.uv x) W h1 h2 rfl (by omega) h3)
  have HW := Lib.hid h
  clear h
  go_enter Try.func68, Try.ntmps68
  go_wp2_with fail
  refine (uvarint_any x w hx).mono ?_
  rintro e w1 ⟨A, c, rfl, ho, hb1⟩
  have HO := Lib.hid ho
  have HB1 := Lib.hid hb1
  clear ho hb1
  go_wp2_with fail
  refine (P1.out w1 A c (HW.out.below HB1.out) (rd_own HO.out) (Nat.le_trans hb HB1.out.size)).mono ?_
  intro e w2 hw2
  obtain ⟨v', rfl, h1, h2, h3⟩ := hw2.pre HB1.out
  have H1 := Lib.hid h1
  have H2 := Lib.hid h2
  have H3 := Lib.hid h3
  clear h1 h2 h3 hw2
  go_wp2
  go_end0
  exact ⟨v', rfl, H1.out, H2.out, H3.out⟩


end Go.Proofs.Ytmdpncjffikmiaa
