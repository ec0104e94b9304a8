/- Several texts in one: Wr, Fixed, Wr2, Wr3, Wr4, OctRead, OctRead2, OwnL. -/
import Derived.Test.YtljfmcgeiceagaaGreatF1
import Derived.OneCell
import Derived.Test.YtljfmcgeiceagaaGreatChecked
/- Writers: what each call writes. -/
namespace Go.Proofs.YtljfmcgeiceagaaGreat
open Go Go.RowKit
set_option linter.unusedVariables false

/-- Between two worlds: new blocks, and writes to block g and to one row. -/
structure Kept2 (w w' : World) (g : Nat) (r : Option Nat) : Prop where
  os : w'.os = w.os
  tape : w'.tape = w.tape
  output : w'.output = w.output
  size : w.heap.size ≤ w'.heap.size
  block : ∀ k, k < w.heap.size → k ≠ g → some k ≠ r → w'.heap[k]? = w.heap[k]?

theorem Kept2.refl (w : World) (g : Nat) (r : Option Nat) : Kept2 w w g r := ⟨rfl, rfl, rfl, Nat.le_refl _, fun _ _ _ _ => rfl⟩
/-- r' is r, or new. -/
theorem Kept2.trans {a b c : World} {g : Nat} {r r' : Option Nat} (h : Kept2 a b g r) (k : Kept2 b c g r') (hr : r' = r ∨ ∃ q, r' = some q ∧ a.heap.size ≤ q) : Kept2 a c g r :=
  ⟨k.os.trans h.os, k.tape.trans h.tape, k.output.trans h.output, Nat.le_trans h.size k.size, fun i hi hg hne => (k.block i (Nat.lt_of_lt_of_le hi h.size) hg (by
    rcases hr with rfl | ⟨q, rfl, hq⟩
    · exact hne
    · intro e; injection e with e; omega)).trans (h.block i hi hg hne)⟩
theorem Kept2.of_below {a b : World} (h : Below a.heap.size a b) (g : Nat) (r : Option Nat) : Kept2 a b g r := ⟨h.os, h.tape, h.output, h.size, fun k hk _ _ => h.block k hk⟩
theorem Kept2.below {a b : World} {g : Nat} {r : Option Nat} {B : Nat} (h : Kept2 a b g r) (hg : B ≤ g) (hr : ∀ q, r = some q → B ≤ q) (hB : B ≤ a.heap.size) : Below B a b :=
  ⟨h.os, h.tape, h.output, h.size, fun k hk => h.block k (by omega) (by omega) (fun e => by have := hr k e.symm; omega)⟩

/-- A writer of the call's own: in block g; what it has written. -/
structure Wr (base : Nat) (W : World) (T : TypeId) (g : Nat) (v : Value) (xs : List Nat) : Prop where
  cell : W.heap[g]? = some (.cells #[v] T (0, 0))
  own : W.ownsRow base 5 1 v xs.length (b8 xs)
  ne : ∀ q, v.ownBlock = some q → q ≠ g
  gb : base ≤ g

theorem Wr.lt {base : Nat} {W : World} {T : TypeId} {g : Nat} {v : Value} {xs : List Nat} (h : Wr base W T g v xs) : g < W.heap.size := lt_of_block h.cell
theorem Wr.below {base : Nat} {W W' : World} {T : TypeId} {g : Nat} {v : Value} {xs : List Nat} (h : Wr base W T g v xs) (hb : Below W.heap.size W W') : Wr base W' T g v xs :=
  ⟨(hb.block g h.lt).trans h.cell, own_below h.own hb, h.ne, h.gb⟩
/-- While another writer writes. -/
theorem Wr.kept {base : Nat} {W W' : World} {T : TypeId} {g g' : Nat} {v : Value} {xs : List Nat} {r : Option Nat} (h : Wr base W T g v xs) (hk : Kept2 W W' g' r) (h1 : g ≠ g') (h2 : some g ≠ r) (h3 : ∀ q, v.ownBlock = some q → q ≠ g' ∧ some q ≠ r) : Wr base W' T g v xs := by
  refine ⟨(hk.block g h.lt h1 h2).trans h.cell, ⟨h.own.1, ?_⟩, h.ne, h.gb⟩
  rcases h.own.2 with hn | ⟨q, cap, cur, hv, hb, hh, rest⟩
  · exact .inl hn
  · have := h3 q (by rw [hv]; rfl)
    exact .inr ⟨q, cap, cur, hv, hb, (hk.block q (Array.getElem?_eq_some_iff.1 hh).1 this.1 this.2).trans hh, rest⟩

/-- What a call of a writer leaves. -/
def Wrote (base : Nat) (w : World) (T : TypeId) (g : Nat) (v : Value) (ys : List Nat) (e : Ending) (w' : World) : Prop :=
  ∃ v', e = .returned (.tuple #[]) ∧ Wr base w' T g v' ys ∧ Kept2 w w' g v.ownBlock ∧ (v'.ownBlock = v.ownBlock ∨ ∃ q, v'.ownBlock = some q ∧ w.heap.size ≤ q)

theorem Wrote.pre {base : Nat} {w w1 w' : World} {T : TypeId} {g : Nat} {v : Value} {ys : List Nat} {e : Ending} (h : Wrote base w1 T g v ys e w') (hb : Below w.heap.size w w1) : Wrote base w T g v ys e w' := by
  obtain ⟨v', he, hw, hk, hn⟩ := h
  refine ⟨v', he, hw, (Kept2.of_below hb g v.ownBlock).trans hk (.inl rfl), ?_⟩
  rcases hn with hn | ⟨q, hn, hq⟩
  · exact .inl hn
  · exact .inr ⟨q, hn, Nat.le_trans hb.size hq⟩
theorem Wrote.chain {base : Nat} {w w1 w' : World} {T : TypeId} {g : Nat} {v v1 : Value} {ys : List Nat} {e : Ending} (hk1 : Kept2 w w1 g v.ownBlock) (hn1 : v1.ownBlock = v.ownBlock ∨ ∃ q, v1.ownBlock = some q ∧ w.heap.size ≤ q) (h : Wrote base w1 T g v1 ys e w') : Wrote base w T g v ys e w' := by
  obtain ⟨v', he, hw, hk, hn⟩ := h
  refine ⟨v', he, hw, hk1.trans hk hn1, ?_⟩
  rcases hn with hn | ⟨q, hn, hq⟩
  · rw [hn]; exact hn1
  · exact .inr ⟨q, hn, Nat.le_trans hk1.size hq⟩

set_option maxHeartbeats 400000 in
theorem raw_is (base g : Nat) (v : Value) (xs : List Nat) (A : Option Addr) (m c : Nat) (news : List Nat) (w : World) (h : Wr base w 106 g v xs) (hr : Rd w A (b8 news)) (hm : news.length = m) (hl : xs.length + m ≤ 140737488355328) (hb : base ≤ w.heap.size) :
    Calls Tryz.prog 53 #[.pointer (some ⟨g, 0, none⟩), .slice A m c] w (Wrote base w 106 g v (xs ++ news)) := by
  have hc := cell_of_one h.cell
  have HW := Lib.hid h
  have HM := Lib.hid hm
  have hglt := h.lt
  clear h hm
  go_enter Tryz.func53, Tryz.ntmps53
  go_wp2_with (at_builtin; (refine app8 w rfl (.tmp 10) (.tmp 11) rfl base v xs.length xs rfl HW.out.own A m c news rfl HM.out hr hl hb ?_); intro v' w1 ho hg hn; obtain ⟨A9, c9, rfl, _⟩ := own_shape ho; have HO := Lib.hid ho; have HG := Lib.hid hg; have HNN := Lib.hid hn; have HC1 := Lib.hid ((hg.block g hglt (fun e => HW.out.ne g e.symm rfl)).trans HW.out.cell); have hc1 := cell_of_one HC1.out; have hf1 := free_of_one HC1.out; clear ho hg hn)
  go_end0
  have hne : ∀ q, (Value.slice A9 (xs.length + m) c9).ownBlock = some q → q ≠ g := by
    intro q hq
    rcases HNN.out with hn | ⟨q', hn, hq'⟩
    · exact HW.out.ne q (hn ▸ hq)
    · rw [hn] at hq
      injection hq with hq
      omega
  refine ⟨_, rfl, ⟨one_setCell HC1.out, ?_, hne, HW.out.gb⟩, ?_, HNN.out⟩
  · rw [List.length_append, HM.out]
    exact ownsRow_setCell_other HO.out (a := ⟨g, 0, none⟩) (fun e => hne g e rfl) _
  · refine ⟨HG.out.os, HG.out.tape, HG.out.output, by simpa [World.setCell] using HG.out.size, fun k hk hkg hkr => ?_⟩
    exact (Below.heap_setCell w1 _ _ _ (fun e => hkg e)).trans (HG.out.block k hk hkr)
theorem byte_is (base g : Nat) (v : Value) (xs : List Nat) (b : Nat) (w : World) (h : Wr base w 106 g v xs) (hl : xs.length + 1 ≤ 140737488355328) (hb : base ≤ w.heap.size) :
    Calls Tryz.prog 49 #[.pointer (some ⟨g, 0, none⟩), .int .u8 (b : Int)] w (Wrote base w 106 g v (xs ++ [b])) := by
  have P1 := Lib.hid (raw_is base g v xs (some ⟨w.heap.size, 0, none⟩) 1 1 [b] (w.alloc (.cells #[.int .u8 (b : Int)] 5)) (h.below ((Below.refl _ _).alloc (Nat.le_refl _) _)) (rd_lit w (b8 [b]) _) rfl hl (by simp; omega))
  clear h
  go_enter Tryz.func49, Tryz.ntmps49
  go_wp2_with fail
  refine P1.out.mono ?_
  intro e w2 hw2
  obtain ⟨v', rfl, h1, h2, h3⟩ := hw2.pre ((Below.refl _ _).alloc (Nat.le_refl _) _)
  have H1 := Lib.hid h1
  have H2 := Lib.hid h2
  have H3 := Lib.hid h3
  clear h1 h2 h3 hw2
  go_wp2
  go_end0
  exact ⟨v', rfl, H1.out, H2.out, H3.out⟩


theorem new_is (w : World) :
    Calls Tryz.prog 84 #[] w fun e w' => e = .returned (.pointer (some ⟨w.heap.size, 0, none⟩)) ∧ w' = w.alloc (.cells #[.slice none 0 0] 106) := by
  go_enter Tryz.func84, Tryz.ntmps84
  go_wp2
  go_ret
  exact ⟨rfl, rfl⟩
theorem new_wr (base : Nat) (w : World) (hb : base ≤ w.heap.size) : Wr base (w.alloc (.cells #[.slice none 0 0] 106)) 106 w.heap.size (.slice none 0 0) [] :=
  ⟨heap_alloc_new w _, World.ownsRow_nil _ _ _ _, (fun q h => by cases h), hb⟩

theorem uvarint_w (base g : Nat) (v : Value) (xs : List Nat) (x : Nat) (w : World) (h : Wr base w 106 g v xs) (hx : x < 18446744073709551616) (hl : xs.length + 10 ≤ 140737488355328) (hb : base ≤ w.heap.size) :
    Calls Tryz.prog 50 #[.pointer (some ⟨g, 0, none⟩), .int .u64 (x : Int)] w (Wrote base w 106 g v (xs ++ Uv.uv x)) := by
  have hlen := Uv.uv_len_64 x hx
  have P1 := Lib.hid (fun W A c (h1 : Wr base W 106 g v xs) (h2 : Rd W A (b8 (Uv.uv x))) (h3 : base ≤ W.heap.size) => raw_is base g v xs A (Uv.uv x).length c (Uv.uv x) W h1 h2 rfl (by omega) h3)
  have HW := Lib.hid h
  clear h
  go_enter Tryz.func50, Tryz.ntmps50
  go_wp2_with fail
  refine (uvarint_any x w hx).mono ?_
  rintro e w1 ⟨A, c, rfl, ho, hb1⟩
  have HO := Lib.hid ho
  have HB1 := Lib.hid hb1
  clear ho hb1
  go_wp2_with fail
  refine (P1.out w1 A c (HW.out.below HB1.out) (rd_own HO.out) (Nat.le_trans hb HB1.out.size)).mono ?_
  intro e w2 hw2
  obtain ⟨v', rfl, h1, h2, h3⟩ := hw2.pre HB1.out
  have H1 := Lib.hid h1
  have H2 := Lib.hid h2
  have H3 := Lib.hid h3
  clear h1 h2 h3 hw2
  go_wp2
  go_end0
  exact ⟨v', rfl, H1.out, H2.out, H3.out⟩


set_option maxHeartbeats 400000 in
theorem rraw_is (base g : Nat) (v : Value) (xs : List Nat) (A : Option Addr) (m c : Nat) (news : List Nat) (w : World) (h : Wr base w 110 g v xs) (hr : Rd w A (b8 news)) (hm : news.length = m) (hl : xs.length + m ≤ 140737488355328) (hb : base ≤ w.heap.size) :
    Calls Tryz.prog 63 #[.pointer (some ⟨g, 0, none⟩), .slice A m c] w (Wrote base w 110 g v (xs ++ news)) := by
  have hc := cell_of_one h.cell
  have HW := Lib.hid h
  have HM := Lib.hid hm
  have hglt := h.lt
  clear h hm
  go_enter Tryz.func63, Tryz.ntmps63
  go_wp2_with (at_builtin; (refine app8 w rfl (.tmp 10) (.tmp 11) rfl base v xs.length xs rfl HW.out.own A m c news rfl HM.out hr hl hb ?_); intro v' w1 ho hg hn; obtain ⟨A9, c9, rfl, _⟩ := own_shape ho; have HO := Lib.hid ho; have HG := Lib.hid hg; have HNN := Lib.hid hn; have HC1 := Lib.hid ((hg.block g hglt (fun e => HW.out.ne g e.symm rfl)).trans HW.out.cell); have hc1 := cell_of_one HC1.out; have hf1 := free_of_one HC1.out; clear ho hg hn)
  go_end0
  have hne : ∀ q, (Value.slice A9 (xs.length + m) c9).ownBlock = some q → q ≠ g := by
    intro q hq
    rcases HNN.out with hn | ⟨q', hn, hq'⟩
    · exact HW.out.ne q (hn ▸ hq)
    · rw [hn] at hq
      injection hq with hq
      omega
  refine ⟨_, rfl, ⟨one_setCell HC1.out, ?_, hne, HW.out.gb⟩, ?_, HNN.out⟩
  · rw [List.length_append, HM.out]
    exact ownsRow_setCell_other HO.out (a := ⟨g, 0, none⟩) (fun e => hne g e rfl) _
  · refine ⟨HG.out.os, HG.out.tape, HG.out.output, by simpa [World.setCell] using HG.out.size, fun k hk hkg hkr => ?_⟩
    exact (Below.heap_setCell w1 _ _ _ (fun e => hkg e)).trans (HG.out.block k hk hkr)
theorem rbyte_is (base g : Nat) (v : Value) (xs : List Nat) (b : Nat) (w : World) (h : Wr base w 110 g v xs) (hl : xs.length + 1 ≤ 140737488355328) (hb : base ≤ w.heap.size) :
    Calls Tryz.prog 58 #[.pointer (some ⟨g, 0, none⟩), .int .u8 (b : Int)] w (Wrote base w 110 g v (xs ++ [b])) := by
  have P1 := Lib.hid (rraw_is base g v xs (some ⟨w.heap.size, 0, none⟩) 1 1 [b] (w.alloc (.cells #[.int .u8 (b : Int)] 5)) (h.below ((Below.refl _ _).alloc (Nat.le_refl _) _)) (rd_lit w (b8 [b]) _) rfl hl (by simp; omega))
  clear h
  go_enter Tryz.func58, Tryz.ntmps58
  go_wp2_with fail
  refine P1.out.mono ?_
  intro e w2 hw2
  obtain ⟨v', rfl, h1, h2, h3⟩ := hw2.pre ((Below.refl _ _).alloc (Nat.le_refl _) _)
  have H1 := Lib.hid h1
  have H2 := Lib.hid h2
  have H3 := Lib.hid h3
  clear h1 h2 h3 hw2
  go_wp2
  go_end0
  exact ⟨v', rfl, H1.out, H2.out, H3.out⟩


theorem rnew_is (w : World) :
    Calls Tryz.prog 57 #[] w fun e w' => e = .returned (.pointer (some ⟨w.heap.size, 0, none⟩)) ∧ w' = w.alloc (.cells #[.slice none 0 0] 110) := by
  go_enter Tryz.func57, Tryz.ntmps57
  go_wp2
  go_ret
  exact ⟨rfl, rfl⟩
theorem rnew_wr (base : Nat) (w : World) (hb : base ≤ w.heap.size) : Wr base (w.alloc (.cells #[.slice none 0 0] 110)) 110 w.heap.size (.slice none 0 0) [] :=
  ⟨heap_alloc_new w _, World.ownsRow_nil _ _ _ _, (fun q h => by cases h), hb⟩

theorem ruvarint_w (base g : Nat) (v : Value) (xs : List Nat) (x : Nat) (w : World) (h : Wr base w 110 g v xs) (hx : x < 18446744073709551616) (hl : xs.length + 10 ≤ 140737488355328) (hb : base ≤ w.heap.size) :
    Calls Tryz.prog 59 #[.pointer (some ⟨g, 0, none⟩), .int .u64 (x : Int)] w (Wrote base w 110 g v (xs ++ Uv.uv x)) := by
  have hlen := Uv.uv_len_64 x hx
  have P1 := Lib.hid (fun W A c (h1 : Wr base W 110 g v xs) (h2 : Rd W A (b8 (Uv.uv x))) (h3 : base ≤ W.heap.size) => rraw_is base g v xs A (Uv.uv x).length c (Uv.uv x) W h1 h2 rfl (by omega) h3)
  have HW := Lib.hid h
  clear h
  go_enter Tryz.func59, Tryz.ntmps59
  go_wp2_with fail
  refine (ruvarint_any x w hx).mono ?_
  rintro e w1 ⟨A, c, rfl, ho, hb1⟩
  have HO := Lib.hid ho
  have HB1 := Lib.hid hb1
  clear ho hb1
  go_wp2_with fail
  refine (P1.out w1 A c (HW.out.below HB1.out) (rd_own HO.out) (Nat.le_trans hb HB1.out.size)).mono ?_
  intro e w2 hw2
  obtain ⟨v', rfl, h1, h2, h3⟩ := hw2.pre HB1.out
  have H1 := Lib.hid h1
  have H2 := Lib.hid h2
  have H3 := Lib.hid h3
  clear h1 h2 h3 hw2
  go_wp2
  go_end0
  exact ⟨v', rfl, H1.out, H2.out, H3.out⟩

end Go.Proofs.YtljfmcgeiceagaaGreat

/- Fixed bytes of a number, the reference's. -/
namespace Go.Proofs.YtljfmcgeiceagaaGreat
open Go Go.RowKit
set_option linter.unusedVariables false

/-- The last n bytes of a number, the greatest first. -/
def fx : Nat → Nat → List Nat
  | _, 0 => []
  | v, n + 1 => fx (v / 256) n ++ [v % 256]
theorem fx_length (n : Nat) : ∀ v, (fx v n).length = n := by
  induction n with
  | zero => intro v; rfl
  | succ n ih => intro v; simp [fx, ih]
theorem fx_by (n : Nat) : ∀ v, By (fx v n) := by
  induction n with
  | zero => intro v b hb; simp [fx] at hb
  | succ n ih =>
    intro v b hb
    simp only [fx, List.mem_append, List.mem_singleton] at hb
    rcases hb with hb | rfl
    · exact ih _ b hb
    · omega
theorem fx_four (v : Nat) : fx v 4 = [v / 16777216 % 256, v / 65536 % 256, v / 256 % 256, v % 256] := by
  simp [fx, Nat.div_div_eq_div_mul]
theorem set_end {α : Type} (xs ys : List α) (k : Nat) (hk : xs.length = k + 1) (y : α) : (xs ++ ys).set k y = xs.take k ++ y :: ys := by
  rw [List.set_append_left _ _ (by omega)]
  have : xs.set k y = xs.take k ++ [y] := by
    rw [List.set_eq_take_append_cons_drop, if_pos (by omega), List.drop_eq_nil_of_le (by omega)]
  rw [this, List.append_assoc]
  rfl

set_option maxHeartbeats 1000000 in
set_option maxRecDepth 100000 in
theorem fixed_any (v n : Nat) (w : World) (hv : v < 18446744073709551616) (hn : n ≤ 8) (hn0 : 0 < n) :
    Calls Tryz.prog 91 #[.int .u64 (v : Int), .int .i64 (n : Int)] w fun e w' => Got8 w w' e (fx v n) := by
  obtain ⟨inf, hi, hz0, hz1, hz2⟩ := info_parts info8
  have HI := Lib.hid hi
  have HZ0 := Lib.hid hz0
  have HZ1 := Lib.hid hz1
  have HZ2 := Lib.hid hz2
  clear hi hz0 hz1 hz2
  go_enter Tryz.func91, Tryz.ntmps91
  go_wp2_with (at_make; refine wpList_make_full _ rfl (.tmp 7) (.tmp 7) 27 rfl w.heap.size 5 inf (.int .u8 0) 1 Tryz.underlying27 HI.out HZ0.out HZ1.out .i64 .i64 _ _ n rfl rfl rfl rfl (by rw [HZ2.out]; omega) (by unfold maxLen; omega) (Nat.le_refl _) ?_; intro w1 hown1 hg1)
  have hz : (madeCells (Value.int .u8 0).cells (n * 1)).toList = b8 (List.replicate n 0 ++ []) := by
    have := toList_madeCells_one (Value.int .u8 0) n
    simp only [Nat.mul_one, List.append_nil]
    refine this.trans ?_
    simp [b8]
  rw [hz] at hown1
  have HO := Lib.hid hown1
  have HB := Lib.hid (below_of_grown hg1 (Nat.le_refl _) (fun k hk => by cases hk))
  clear hz hown1 hg1
  go_loopw [6, 0] (fun i x wr => ∃ (k u : Nat) (ys : List Nat), k ≤ n ∧ ((∃ j : Nat, k = j + 1 ∧ i = .int .i64 (j : Int)) ∨ (k = 0 ∧ i = .int .i64 (-1))) ∧ u < 18446744073709551616 ∧ x = .int .u64 (u : Int) ∧ wr.ownsRow w.heap.size 5 1 (.slice (some ⟨w.heap.size, 0, none⟩) n n) n (b8 (List.replicate k 0 ++ ys)) ∧ Below w.heap.size w wr ∧ Hid (fx u k ++ ys = fx v n))
    (fun i _ _ => (intOf i + 1).toNat)
  case atStart => exact ⟨n, v, [], Nat.le_refl _, .inl ⟨n - 1, by omega, by rw [show ((n - 1 : Nat) : Int) = (n : Int) - 1 by omega]⟩, hv, rfl, HO.out, HB.out, by simp [Hid]⟩
  case round =>
    obtain ⟨k, u, ys, hk, hi, hu, rfl, hown, hbel, H⟩ := hrel
    rcases hi with ⟨j, rfl, rfl⟩ | ⟨rfl, rfl⟩
    · have hf := hown.frozenAt j
      have hco := hown.cellAt j (by omega)
      rw [b8_get, List.getElem?_append_left (by simp), List.getElem?_replicate, if_pos (by omega)] at hco
      have hco' : wr.cell? ⟨w.heap.size, j, none⟩ = some (.int .u8 0) := by simpa using hco
      have hst := hown.stored j (.int .u8 ((u % 256 : Nat) : Int))
      rw [b8_set'', set_end _ _ j (by simp), show (List.replicate (j + 1) 0).take j = List.replicate j 0 by simp] at hst
      have HS := Lib.hid hst
      have HBL := Lib.hid hbel
      have hcast : ((u % 256 : Nat) : Int) = (u : Int) % 256 := by omega
      rw [hcast] at HS
      have HH : Hid (fx (u / 256) j ++ (u % 256 :: ys) = fx v n) := by
        have := H.out
        simp only [fx, List.append_assoc] at this
        exact this
      clear hco hst hown hbel H hcast
      go_wp2_with fail
      go_roundw
      case rel =>
        refine ⟨j, u / 256, u % 256 :: ys, by omega, ?_, by omega, by go_num, HS.out.1, HBL.out.trans (below_of_grown HS.out.2 HBL.out.size (fun q hq => by injection hq with hq; omega)), HH.out⟩
        cases j with
        | zero => exact .inr ⟨rfl, rfl⟩
        | succ j => exact .inl ⟨j, rfl, by go_num⟩
      case measure => simp [intOf] <;> omega
    · have e := H.out
      simp only [fx, List.nil_append] at e
      rw [List.replicate_zero, List.nil_append] at hown
      subst e
      go_wp2
      go_ret
      exact got8_mk hown (fx_length n v).symm rfl hbel
end Go.Proofs.YtljfmcgeiceagaaGreat

/- Writers: the other calls. -/
namespace Go.Proofs.YtljfmcgeiceagaaGreat
open Go Go.RowKit
set_option linter.unusedVariables false

theorem zig_nat (s : Int) (h : -9223372036854775808 ≤ s ∧ s ≤ 9223372036854775807) : Uv.zig s = (((Uv.zig s).toNat : Nat) : Int) ∧ (Uv.zig s).toNat < 18446744073709551616 := by
  have := zig_range s h
  omega


theorem varint_w (base g : Nat) (v : Value) (xs : List Nat) (s : Int) (w : World) (h : Wr base w 106 g v xs) (hs : -9223372036854775808 ≤ s ∧ s ≤ 9223372036854775807) (hl : xs.length + 10 ≤ 140737488355328) (hb : base ≤ w.heap.size) :
    Calls Tryz.prog 51 #[.pointer (some ⟨g, 0, none⟩), .int .i64 s] w (Wrote base w 106 g v (xs ++ Uv.uv (Uv.zig s).toNat)) := by
  obtain ⟨hz, hx⟩ := zig_nat s hs
  have PZ := Lib.hid (fun W => zigzag_any s W hs)
  rw [hz] at PZ
  obtain ⟨x, hxx⟩ : ∃ x, x = (Uv.zig s).toNat := ⟨_, rfl⟩
  rw [← hxx] at PZ hx ⊢
  clear hz hxx hs
  have P1 := Lib.hid (fun W (hW : w = W) => uvarint_w base g v xs x W (hW ▸ h) hx hl (hW ▸ hb))
  clear h
  go_enter Tryz.func51, Tryz.ntmps51
  go_wp2_with fail
  refine (PZ.out _).mono ?_
  rintro e w0 ⟨rfl, rfl⟩
  go_wp2_with fail
  refine (P1.out _ rfl).mono ?_
  intro e w2 hw2
  obtain ⟨v', rfl, h1, h2, h3⟩ := hw2
  have H1 := Lib.hid h1
  have H2 := Lib.hid h2
  have H3 := Lib.hid h3
  clear h1 h2 h3
  go_wp2
  go_end0
  exact ⟨v', rfl, H1.out, H2.out, H3.out⟩


set_option maxHeartbeats 400000 in
theorem u32_w (base g : Nat) (v : Value) (xs : List Nat) (x : Nat) (w : World) (h : Wr base w 106 g v xs) (hx : x < 4294967296) (hl : xs.length + 4 ≤ 140737488355328) (hb : base ≤ w.heap.size) :
    Calls Tryz.prog 85 #[.pointer (some ⟨g, 0, none⟩), .int .u32 (x : Int)] w (Wrote base w 106 g v (xs ++ fx x 4)) := by
  have P1 := Lib.hid (raw_is base g v xs (some ⟨w.heap.size, 0, none⟩) 4 4 (fx x 4) (w.alloc (.cells (b8 (fx x 4)).toArray 5)) (h.below ((Below.refl _ _).alloc (Nat.le_refl _) _)) (rd_lit w (b8 (fx x 4)) _) (fx_length 4 x) hl (by simp; omega))
  rw [show (b8 (fx x 4)).toArray = #[.int .u8 ((x : Int) / 16777216), .int .u8 ((x : Int) / 65536 % 256), .int .u8 ((x : Int) / 256 % 256), .int .u8 ((x : Int) % 256)] from by rw [fx_four, Nat.mod_eq_of_lt (a := x / 16777216) (by omega)]; simp [b8]] at P1
  clear h
  go_enter Tryz.func85, Tryz.ntmps85
  go_wp2_with fail
  refine P1.out.mono ?_
  intro e w2 hw2
  obtain ⟨v', rfl, h1, h2, h3⟩ := hw2.pre ((Below.refl _ _).alloc (Nat.le_refl _) _)
  have H1 := Lib.hid h1
  have H2 := Lib.hid h2
  have H3 := Lib.hid h3
  clear h1 h2 h3 hw2
  go_wp2
  go_end0
  exact ⟨v', rfl, H1.out, H2.out, H3.out⟩


theorem rvarint_w (base g : Nat) (v : Value) (xs : List Nat) (s : Int) (w : World) (h : Wr base w 110 g v xs) (hs : -9223372036854775808 ≤ s ∧ s ≤ 9223372036854775807) (hl : xs.length + 10 ≤ 140737488355328) (hb : base ≤ w.heap.size) :
    Calls Tryz.prog 60 #[.pointer (some ⟨g, 0, none⟩), .int .i64 s] w (Wrote base w 110 g v (xs ++ Uv.uv (Uv.zig s).toNat)) := by
  obtain ⟨hz, hx⟩ := zig_nat s hs
  have PZ := Lib.hid (fun W => rzigzag_any s W hs)
  rw [hz] at PZ
  obtain ⟨x, hxx⟩ : ∃ x, x = (Uv.zig s).toNat := ⟨_, rfl⟩
  rw [← hxx] at PZ hx ⊢
  clear hz hxx hs
  have hlen := Uv.uv_len_64 x hx
  have P1 := Lib.hid (fun W A c (h1 : Wr base W 110 g v xs) (h2 : Rd W A (b8 (Uv.uv x))) (h3 : base ≤ W.heap.size) => rraw_is base g v xs A (Uv.uv x).length c (Uv.uv x) W h1 h2 rfl (by omega) h3)
  have HW := Lib.hid h
  clear h
  go_enter Tryz.func60, Tryz.ntmps60
  go_wp2_with fail
  refine (PZ.out _).mono ?_
  rintro e w0 ⟨rfl, rfl⟩
  go_wp2_with fail
  refine (ruvarint_any x w hx).mono ?_
  rintro e w1 ⟨A, c, rfl, ho, hb1⟩
  have HO := Lib.hid ho
  have HB1 := Lib.hid hb1
  clear ho hb1
  go_wp2_with fail
  refine (P1.out w1 A c (HW.out.below HB1.out) (rd_own HO.out) (Nat.le_trans hb HB1.out.size)).mono ?_
  intro e w2 hw2
  obtain ⟨v', rfl, h1, h2, h3⟩ := hw2.pre HB1.out
  have H1 := Lib.hid h1
  have H2 := Lib.hid h2
  have H3 := Lib.hid h3
  clear h1 h2 h3 hw2
  go_wp2
  go_end0
  exact ⟨v', rfl, H1.out, H2.out, H3.out⟩


theorem ru32_w (base g : Nat) (v : Value) (xs : List Nat) (x : Nat) (w : World) (h : Wr base w 110 g v xs) (hx : x < 4294967296) (hl : xs.length + 4 ≤ 140737488355328) (hb : base ≤ w.heap.size) :
    Calls Tryz.prog 94 #[.pointer (some ⟨g, 0, none⟩), .int .u32 (x : Int)] w (Wrote base w 110 g v (xs ++ fx x 4)) := by
  have P1 := Lib.hid (fun W A c (h1 : Wr base W 110 g v xs) (h2 : Rd W A (b8 (fx x 4))) (h3 : base ≤ W.heap.size) => rraw_is base g v xs A (fx x 4).length c (fx x 4) W h1 h2 rfl (by rw [fx_length]; omega) h3)
  have PF := Lib.hid (fixed_any x 4 w (by omega) (by omega) (by omega))
  have HW := Lib.hid h
  clear h
  go_enter Tryz.func94, Tryz.ntmps94
  go_wp2_with fail
  refine PF.out.mono ?_
  rintro e w1 ⟨A, c, rfl, ho, hb1⟩
  have HO := Lib.hid ho
  have HB1 := Lib.hid hb1
  clear ho hb1
  go_wp2_with fail
  refine (P1.out w1 A c (HW.out.below HB1.out) (rd_own HO.out) (Nat.le_trans hb HB1.out.size)).mono ?_
  intro e w2 hw2
  obtain ⟨v', rfl, h1, h2, h3⟩ := hw2.pre HB1.out
  have H1 := Lib.hid h1
  have H2 := Lib.hid h2
  have H3 := Lib.hid h3
  clear h1 h2 h3 hw2
  go_wp2
  go_end0
  exact ⟨v', rfl, H1.out, H2.out, H3.out⟩


end Go.Proofs.YtljfmcgeiceagaaGreat

/- Writers: U64, Text, Bytes, Len. -/
namespace Go.Proofs.YtljfmcgeiceagaaGreat
open Go Go.RowKit
set_option linter.unusedVariables false


set_option maxHeartbeats 400000 in
set_option maxRecDepth 100000 in
theorem text_w (base g : Nat) (v : Value) (xs : List Nat) (s : ByteArray) (w : World) (h : Wr base w 106 g v xs) (hl : xs.length + 10 + s.size ≤ 140737488355328) (hb : base ≤ w.heap.size) :
    Calls Tryz.prog 52 #[.pointer (some ⟨g, 0, none⟩), .string s] w (Wrote base w 106 g v (xs ++ Uv.uv s.size ++ sb s)) := by
  have hlen := Uv.uv_len_64 s.size (by omega)
  have P1 := Lib.hid (uvarint_w base g v xs s.size w h (by omega) (by omega) hb)
  have P2 := Lib.hid (fun v2 W A c (h2 : Wr base W 106 g v2 (xs ++ Uv.uv s.size)) (hr : Rd W A (b8 (sb s))) (h3 : base ≤ W.heap.size) => raw_is base g v2 _ A s.size c (sb s) W h2 hr (sb_length s) (by rw [List.length_append]; omega) h3)
  have hs : s.size ≤ 140737488355328 := by omega
  clear h
  go_enter Tryz.func52, Tryz.ntmps52
  go_wp2_with fail
  refine P1.out.mono ?_
  intro e w2 hw2
  obtain ⟨v2, rfl, g1, g2, g3⟩ := hw2
  have G1 := Lib.hid g1
  have G2 := Lib.hid g2
  have G3 := Lib.hid g3
  clear g1 g2 g3
  go_wp2_with (refine wpList_bytes _ rfl (.tmp 10) 9 27 5 rfl Tryz.underlying9 Tryz.underlying27 Tryz.underlying5 s rfl ?_; intro c2 w2b zs hrow hcm hbel hzl; have HR := Lib.hid ((hrow.rd).take_ s.size); have HBL := Lib.hid hbel; clear hrow hcm hbel hzl)
  refine (P2.out v2 w2b _ _ (G1.out.below HBL.out) (by have := HR.out; rwa [List.take_left' (by rw [b8_length, sb_length])] at this) (Nat.le_trans hb (Nat.le_trans G2.out.size HBL.out.size))).mono ?_
  intro e w3 hw3
  obtain ⟨v', rfl, h1, h2, h3⟩ := Wrote.chain G2.out G3.out (hw3.pre HBL.out)
  have H1 := Lib.hid h1
  have H2 := Lib.hid h2
  have H3 := Lib.hid h3
  clear h1 h2 h3 hw3
  go_wp2
  go_end0
  exact ⟨v', rfl, H1.out, H2.out, H3.out⟩


theorem bytes_w (base g : Nat) (v : Value) (xs : List Nat) (w : World) (h : Wr base w 106 g v xs) (hl : xs.length ≤ 140737488351232) :
    Calls Tryz.prog 86 #[.pointer (some ⟨g, 0, none⟩)] w fun e w' => Got8 w w' e xs := by
  have hc := cell_of_one h.cell
  have hglt := h.lt
  obtain ⟨A, c, rfl, hcn, _, _⟩ := own_shape h.own
  have HR := Lib.hid (rd_own h.own)
  clear h
  go_enter Tryz.func86, Tryz.ntmps86
  go_wp2_with (at_builtin; (refine app8 w rfl (.const (.slice none 0 0)) (.tmp 8) rfl w.heap.size _ 0 [] rfl (World.ownsRow_nil _ _ _ _) A xs.length c xs rfl rfl HR.out (by omega) (Nat.le_refl _) ?_); intro v1 w1 ho hg _; have HO := Lib.hid ho; have HG := Lib.hid hg; clear ho hg)
  go_ret
  exact got8_mk HO.out (by omega) (by simp) (below_of_grown HG.out (Nat.le_refl _) (fun k hk => by cases hk))


set_option maxHeartbeats 400000 in
set_option maxRecDepth 100000 in
theorem rtext_w (base g : Nat) (v : Value) (xs : List Nat) (s : ByteArray) (w : World) (h : Wr base w 110 g v xs) (hl : xs.length + 10 + s.size ≤ 140737488355328) (hb : base ≤ w.heap.size) :
    Calls Tryz.prog 61 #[.pointer (some ⟨g, 0, none⟩), .string s] w (Wrote base w 110 g v (xs ++ Uv.uv s.size ++ sb s)) := by
  have hlen := Uv.uv_len_64 s.size (by omega)
  have P1 := Lib.hid (ruvarint_w base g v xs s.size w h (by omega) (by omega) hb)
  have P2 := Lib.hid (fun v2 W A c (h2 : Wr base W 110 g v2 (xs ++ Uv.uv s.size)) (hr : Rd W A (b8 (sb s))) (h3 : base ≤ W.heap.size) => rraw_is base g v2 _ A s.size c (sb s) W h2 hr (sb_length s) (by rw [List.length_append]; omega) h3)
  have hs : s.size ≤ 140737488355328 := by omega
  have PU := Lib.hid (ruvarint_any s.size w (by omega))
  have PR := Lib.hid (fun W A c (h1 : Wr base W 110 g v xs) (h2 : Rd W A (b8 (Uv.uv s.size))) (h3 : base ≤ W.heap.size) => rraw_is base g v xs A (Uv.uv s.size).length c (Uv.uv s.size) W h1 h2 rfl (by omega) h3)
  have HW := Lib.hid h
  clear h P1
  go_enter Tryz.func61, Tryz.ntmps61
  go_wp2_with fail
  refine PU.out.mono ?_
  rintro e w1 ⟨A, c, rfl, ho, hb1⟩
  have HO := Lib.hid ho
  have HB1 := Lib.hid hb1
  clear ho hb1
  go_wp2_with fail
  refine (PR.out w1 A c (HW.out.below HB1.out) (rd_own HO.out) (Nat.le_trans hb HB1.out.size)).mono ?_
  intro e w2 hw2
  obtain ⟨v2, rfl, g1, g2, g3⟩ := hw2.pre HB1.out
  have G1 := Lib.hid g1
  have G2 := Lib.hid g2
  have G3 := Lib.hid g3
  clear g1 g2 g3 hw2
  go_wp2_with (refine wpList_bytes _ rfl (.tmp 11) 9 27 5 rfl Tryz.underlying9 Tryz.underlying27 Tryz.underlying5 s rfl ?_; intro c2 w2b zs hrow hcm hbel hzl; have HR := Lib.hid ((hrow.rd).take_ s.size); have HBL := Lib.hid hbel; clear hrow hcm hbel hzl)
  refine (P2.out v2 w2b _ _ (G1.out.below HBL.out) (by have := HR.out; rwa [List.take_left' (by rw [b8_length, sb_length])] at this) (Nat.le_trans hb (Nat.le_trans G2.out.size HBL.out.size))).mono ?_
  intro e w3 hw3
  obtain ⟨v', rfl, h1, h2, h3⟩ := Wrote.chain G2.out G3.out (hw3.pre HBL.out)
  have H1 := Lib.hid h1
  have H2 := Lib.hid h2
  have H3 := Lib.hid h3
  clear h1 h2 h3 hw3
  go_wp2
  go_end0
  exact ⟨v', rfl, H1.out, H2.out, H3.out⟩


theorem rbytes_w (base g : Nat) (v : Value) (xs : List Nat) (w : World) (h : Wr base w 110 g v xs) (hl : xs.length ≤ 140737488351232) :
    Calls Tryz.prog 64 #[.pointer (some ⟨g, 0, none⟩)] w fun e w' => Got8 w w' e xs := by
  have hc := cell_of_one h.cell
  have hglt := h.lt
  obtain ⟨A, c, rfl, hcn, _, _⟩ := own_shape h.own
  have HR := Lib.hid (rd_own h.own)
  clear h
  have h0 := own_lit w w.heap.size [] 5 0 (Nat.le_refl _) (by decide) rfl
  have hr1 := Lib.hid (HR.out.below ((Below.refl _ _).alloc (Nat.le_refl _) (.cells [].toArray 5)))
  go_enter Tryz.func64, Tryz.ntmps64
  go_wp2_with (at_builtin; (refine app8 _ rfl (.tmp 5) (.tmp 9) rfl w.heap.size _ 0 [] rfl h0 A xs.length c xs rfl rfl hr1.out (by omega) (by simp) ?_); intro v1 w1 ho hg _; have HO := Lib.hid ho; have HG := Lib.hid hg; clear ho hg)
  go_ret
  exact got8_mk HO.out (by omega) (by simp) (((Below.refl _ _).alloc (Nat.le_refl _) _).trans (below_of_grown HG.out (by simp) (fun k hk => (h0.lt k hk).1)))


end Go.Proofs.YtljfmcgeiceagaaGreat

/- No writer: every call leaves all as it was. -/
namespace Go.Proofs.YtljfmcgeiceagaaGreat
open Go Go.RowKit
set_option linter.unusedVariables false


end Go.Proofs.YtljfmcgeiceagaaGreat

/- octet.ReadUvarint and the reference's: what they return. -/
namespace Go.Proofs.YtljfmcgeiceagaaGreat
open Go Go.RowKit

theorem shl_or (a x k : Nat) (ha : a < 128 ^ k) (hx : x < 256) (hk : k ≤ 9) (h9 : k = 9 → x = 1) :
    bits .or .u64 (a : Int) (IntKind.u64.wrap (IntKind.u64.wrap (bits .and .u8 (x : Int) 127) * 2 ^ (7 * k))) = ((a + x % 128 * 128 ^ k : Nat) : Int) := by
  have p : (128 : Nat) ^ k = 2 ^ (7 * k) := by rw [Nat.pow_mul]
  have e1 : bits .and .u8 (x : Int) 127 = ((x % 128 : Nat) : Int) := by
    have := u8_and_nat x 127 hx (by omega)
    rw [nat_mask7] at this
    exact_mod_cast this
  have p9 : (2 : Nat) ^ (7 * 9) = 9223372036854775808 := by decide
  have hp : (2 : Nat) ^ (7 * k) ≤ 9223372036854775808 := by rw [← p9]; exact Nat.pow_le_pow_right (by omega) (by omega)
  have hm : x % 128 * 2 ^ (7 * k) < 18446744073709551616 := by
    by_cases h : k = 9
    · rw [h9 h, h, p9]; omega
    · have p8 : (2 : Nat) ^ (7 * 8) = 72057594037927936 := by decide
      have hp : (2 : Nat) ^ (7 * k) ≤ 72057594037927936 := by rw [← p8]; exact Nat.pow_le_pow_right (by omega) (by omega)
      have := Nat.mul_le_mul (show x % 128 ≤ 127 by omega) hp
      omega
  have ha' : a < 9223372036854775808 := by rw [p] at ha; omega
  rw [e1, IntWalk.u64_in ((x % 128 : Nat) : Int) (by omega)]
  have e2 : ((x % 128 : Nat) : Int) * 2 ^ (7 * k) = ((x % 128 * 2 ^ (7 * k) : Nat) : Int) := by
    rw [Int.natCast_mul, Int.natCast_pow]; rfl
  rw [e2, IntWalk.u64_in _ (by omega), u64_or_nat _ _ (by omega) hm, p, Nat.or_comm]
  rw [nat_join (7 * k) (x % 128 * 2 ^ (7 * k)) a (Nat.mul_mod_left _ _) (by rw [← p]; exact ha), Nat.add_comm]

set_option maxHeartbeats 400000 in
set_option maxRecDepth 100000 in
theorem readUvarint_all (A : Option Addr) (c : Nat) (bs : List Nat) (w : World) (hr : Rd w A (b8 bs)) (hby : By bs) (hl : bs.length ≤ 140737488355328) :
    Calls Tryz.prog 100 #[.slice A bs.length c] w fun e w' =>
      e = .returned (.tuple #[.int .u64 ((Uv.ru 0 0 bs).1 : Int), .int .i64 ((Uv.ru 0 0 bs).2.1 : Int), .int .i64 ((Uv.ru 0 0 bs).2.2 : Int)]) ∧ w = w' := by
  go_enter Tryz.func100, Tryz.ntmps100
  go_wp2
  go_loop [5, 10] (fun v i => ∃ k a : Nat, k ≤ bs.length ∧ k ≤ 9 ∧ Hid (a < 128 ^ k) ∧ i = .int .i64 k ∧ v = .int .u64 (a : Int) ∧ Hid (Uv.ru 0 0 bs = Uv.ru k a (bs.drop k))) (fun _ i => bs.length - (intOf i).toNat)
  case atStart => exact ⟨0, 0, Nat.zero_le _, by omega, by simp [Hid], rfl, rfl, by simp [Hid]⟩
  case round =>
    obtain ⟨k, a, hk, hk9, HA, rfl, rfl, H⟩ := hrel
    by_cases hlt : k < bs.length
    · obtain ⟨x, hx, hx256, hdr⟩ := hby.get hlt
      obtain ⟨g, off, rfl, hg, hcell⟩ := hr.at_ hx
      clear hr hx
      have HR : Hid (Uv.ru 0 0 bs = Uv.ru k a (x :: bs.drop (k + 1))) := by rw [← hdr]; exact H
      clear hdr H
      by_cases h9 : k = 9
      · have h9' : ((k : Int) == 9) = true := by rw [beq_iff_eq]; omega
        by_cases h1 : x = 1
        · have hb : ((x : Int) != 1) = false := by rw [bne_eq_false_iff_eq]; omega
          have hz : ((x : Int) == 0) = false := by rw [beq_eq_false_iff_ne]; omega
          have hF : Uv.ru 0 0 bs = (a + x % 128 * 128 ^ k, k + 1, 0) := by
            rw [HR.out]; simp only [Uv.ru]; rw [if_neg (by omega), if_neg (by omega), if_pos (by omega)]
          have HF := Lib.hid hF
          have HS := Lib.hid (shl_or a x k HA.out (by omega) (by omega) (by omega))
          have H9 := Lib.hid h9
          have H1 := Lib.hid h1
          have h0 : 0 < k := by omega
          have hx1 : x < 128 := by omega
          clear hF h9 h1
          go_wp2
          go_ret3
          exact ⟨by rw [HF.out, ← HS.out]; rfl, rfl⟩
        · have hb : ((x : Int) != 1) = true := by rw [bne_iff_ne]; omega
          have hF : Uv.ru 0 0 bs = (0, 0, 11) := by
            rw [HR.out]; simp only [Uv.ru]; rw [if_pos ⟨h9, h1⟩]
          have HF := Lib.hid hF
          have H9 := Lib.hid h9
          clear hF h9 h1
          go_wp2
          go_ret3
          exact ⟨by rw [HF.out]; rfl, rfl⟩
      · have HS := Lib.hid (shl_or a x k HA.out hx256 hk9 (fun h => absurd h h9))
        have h9' : ((k : Int) == 9) = false := by rw [beq_eq_false_iff_ne]; omega
        by_cases hz : 0 < k ∧ x = 0
        · obtain ⟨hz0, hxz⟩ := hz
          have hb : ((x : Int) == 0) = true := by rw [beq_iff_eq]; omega
          have hF : Uv.ru 0 0 bs = (0, 0, 11) := by
            rw [HR.out]; simp only [Uv.ru]; rw [if_neg (by omega), if_pos ⟨hz0, hxz⟩]
          have HF := Lib.hid hF
          clear hF hxz
          go_wp2
          go_ret3
          exact ⟨by rw [HF.out]; rfl, rfl⟩
        · have hz' : 0 < k → ((x : Int) == 0) = false := fun h => by rw [beq_eq_false_iff_ne]; omega
          by_cases hs : x < 128
          · have hF : Uv.ru 0 0 bs = (a + x % 128 * 128 ^ k, k + 1, 0) := by
              rw [HR.out]; simp only [Uv.ru]; rw [if_neg (fun h => h9 h.1), if_neg hz, if_pos hs]
            have HF := Lib.hid hF
            clear hF
            by_cases h0 : 0 < k
            all_goals
              first | have hz1 := hz' h0 | skip
              clear hz hz'
              go_wp2
              go_ret3
              exact ⟨by rw [HF.out, ← HS.out]; rfl, rfl⟩
          · have hF : Uv.ru 0 0 bs = Uv.ru (k + 1) (a + x % 128 * 128 ^ k) (bs.drop (k + 1)) := by
              rw [HR.out]; simp only [Uv.ru]; rw [if_neg (fun h => h9 h.1), if_neg hz, if_neg hs]
            have HF := Lib.hid hF
            clear hF
            have hB : a + x % 128 * 128 ^ k < 128 ^ (k + 1) := by
              have := HA.out
              have hq : (128 : Nat) ^ (k + 1) = 128 ^ k * 128 := Nat.pow_succ ..
              have hx : x % 128 * 128 ^ k ≤ 127 * 128 ^ k := Nat.mul_le_mul_right _ (by omega)
              omega
            have HB := Lib.hid hB
            clear hB
            by_cases h0 : 0 < k
            all_goals
              first | have hz1 := hz' h0 | skip
              clear hz hz'
              go_wp2
              go_round
              case rel => exact ⟨k + 1, _, by omega, by omega, HB, by go_num, by rw [← HS.out], HF⟩
              case measure => simp [intOf]; omega
    · have hF : Uv.ru 0 0 bs = (0, 0, 10) := by rw [H.out, List.drop_eq_nil_of_le (by omega)]; rfl
      have HF := Lib.hid hF
      clear hF
      go_wp2
      go_ret3
      exact ⟨by rw [HF.out]; rfl, rfl⟩

theorem readUvarint_any (A : Option Addr) (n c : Nat) (bs : List Nat) (w : World) (hr : Rd w A (b8 bs)) (hby : By bs) (hn : bs.length = n) (hl : n ≤ 140737488355328) :
    Calls Tryz.prog 100 #[.slice A n c] w fun e w' =>
      e = .returned (.tuple #[.int .u64 ((Uv.ru 0 0 bs).1 : Int), .int .i64 ((Uv.ru 0 0 bs).2.1 : Int), .int .i64 ((Uv.ru 0 0 bs).2.2 : Int)]) ∧ w = w' := by
  subst hn
  exact readUvarint_all A c bs w hr hby hl

/-- With what it comes to, told apart. -/
theorem readUvarint_is (A : Option Addr) (n c : Nat) (bs : List Nat) (w : World) (v k x : Nat) (hr : Rd w A (b8 bs)) (hby : By bs) (hn : bs.length = n) (hl : n ≤ 140737488355328) (h : Uv.ru 0 0 bs = (v, k, x)) :
    Calls Tryz.prog 100 #[.slice A n c] w fun e w' =>
      e = .returned (.tuple #[.int .u64 (v : Int), .int .i64 (k : Int), .int .i64 (x : Int)]) ∧ w = w' := by
  have := readUvarint_any A n c bs w hr hby hn hl
  rw [h] at this
  exact this
end Go.Proofs.YtljfmcgeiceagaaGreat

/- chronicleref1.ReadUvarint, the reference's reading of a short number; zigzag, four times. -/
namespace Go.Proofs.YtljfmcgeiceagaaGreat
open Go Go.RowKit

set_option maxHeartbeats 400000 in
set_option maxRecDepth 100000 in
theorem rreadUvarint_all (A : Option Addr) (c : Nat) (bs : List Nat) (w : World) (hr : Rd w A (b8 bs)) (hby : By bs) (hl : bs.length ≤ 140737488355328) :
    Calls Tryz.prog 77 #[.slice A bs.length c] w fun e w' =>
      e = .returned (.tuple #[.int .u64 ((Uv.ru 0 0 bs).1 : Int), .int .i64 ((Uv.ru 0 0 bs).2.1 : Int), .int .i64 ((Uv.ru 0 0 bs).2.2 : Int)]) ∧ w = w' := by
  go_enter Tryz.func77, Tryz.ntmps77
  go_wp2
  go_loop [5, 6, 7] (fun v t i => ∃ k a u : Nat, k ≤ bs.length ∧ k ≤ 9 ∧ Hid (a < 128 ^ k) ∧ Hid (u = 128 ^ k) ∧ i = .int .i64 k ∧ t = .int .u64 (u : Int) ∧ v = .int .u64 (a : Int) ∧ Hid (Uv.ru 0 0 bs = Uv.ru k a (bs.drop k))) (fun _ _ i => bs.length - (intOf i).toNat)
  case atStart => exact ⟨0, 0, 1, Nat.zero_le _, by omega, by simp [Hid], by simp [Hid], rfl, rfl, rfl, by simp [Hid]⟩
  case round =>
    obtain ⟨k, a, u, hk, hk9, HA, HU, rfl, rfl, rfl, H⟩ := hrel
    by_cases hlt : k < bs.length
    · obtain ⟨x, hx, hx256, hdr⟩ := hby.get hlt
      obtain ⟨g, off, rfl, hg, hcell⟩ := hr.at_ hx
      clear hr hx
      have HR : Hid (Uv.ru 0 0 bs = Uv.ru k a (x :: bs.drop (k + 1))) := by rw [← hdr]; exact H
      clear hdr H
      by_cases h9 : k = 9
      · have h9' : ((k : Int) == 9) = true := by rw [beq_iff_eq]; omega
        have h0 : 0 < k := by omega
        by_cases h1 : x = 1
        · have p9 : (128 : Nat) ^ 9 = 9223372036854775808 := by decide
          have hu := HU.out
          have ha := HA.out
          rw [h9, p9] at hu ha
          have hb : ¬ (1 : Int) < (x : Int) := by omega
          have hz : ((x : Int) == 0) = false := by rw [beq_eq_false_iff_ne]; omega
          have hF : Uv.ru 0 0 bs = (a + x % 128 * 128 ^ k, k + 1, 0) := by
            rw [HR.out]; simp only [Uv.ru]; rw [if_neg (by omega), if_neg (by omega), if_pos (by omega)]
          have hm : x % 128 * u = 9223372036854775808 := by rw [h1, hu]
          have hm1 : (x : Int) % 128 * (u : Int) ≤ 9223372036854775808 := by
            have : ((x % 128 * u : Nat) : Int) = (x : Int) % 128 * (u : Int) := by simp
            omega
          have hm0 : 0 ≤ (x : Int) % 128 * (u : Int) := by
            have : ((x % 128 * u : Nat) : Int) = (x : Int) % 128 * (u : Int) := by simp
            omega
          have ha' : a < 9223372036854775808 := ha
          have HF := Lib.hid hF
          have H9 := Lib.hid h9
          have H1 := Lib.hid h1
          have hx1 : x < 128 := by omega
          clear hF h9 h1 hu ha p9 hm
          go_wp2
          go_ret3
          exact ⟨by rw [HF.out, ← HU.out]; simp, rfl⟩
        · by_cases hxz : x = 0
          · have hb : ¬ (1 : Int) < (x : Int) := by omega
            have hb2 : ((x : Int) == 0) = true := by rw [beq_iff_eq]; omega
            have hF : Uv.ru 0 0 bs = (0, 0, 11) := by
              rw [HR.out]; simp only [Uv.ru]; rw [if_pos ⟨h9, h1⟩]
            have HF := Lib.hid hF
            have H9 := Lib.hid h9
            clear hF h9 h1 hxz
            go_wp2
            go_ret3
            exact ⟨by rw [HF.out]; rfl, rfl⟩
          · have hb : (1 : Int) < (x : Int) := by omega
            have hF : Uv.ru 0 0 bs = (0, 0, 11) := by
              rw [HR.out]; simp only [Uv.ru]; rw [if_pos ⟨h9, h1⟩]
            have HF := Lib.hid hF
            have H9 := Lib.hid h9
            clear hF h9 h1
            go_wp2
            go_ret3
            exact ⟨by rw [HF.out]; rfl, rfl⟩
      · have h9' : ((k : Int) == 9) = false := by rw [beq_eq_false_iff_ne]; omega
        have p8 : (128 : Nat) ^ 8 = 72057594037927936 := by decide
        have hp : (128 : Nat) ^ k ≤ 72057594037927936 := by rw [← p8]; exact Nat.pow_le_pow_right (by omega) (by omega)
        have hu1 : u ≤ 72057594037927936 := by rw [HU.out]; exact hp
        have ha1 : a < 72057594037927936 := Nat.lt_of_lt_of_le HA.out hp
        have hm := Nat.mul_le_mul (show x % 128 ≤ 127 by omega) hu1
        have hm1 : (x : Int) % 128 * (u : Int) ≤ 127 * 72057594037927936 := by
          have : ((x % 128 * u : Nat) : Int) = (x : Int) % 128 * (u : Int) := by simp
          omega
        have hm0 : 0 ≤ (x : Int) % 128 * (u : Int) := by
          have : ((x % 128 * u : Nat) : Int) = (x : Int) % 128 * (u : Int) := by simp
          omega
        clear hm hp p8
        by_cases hz : 0 < k ∧ x = 0
        · obtain ⟨hz0, hxz⟩ := hz
          have hb : ((x : Int) == 0) = true := by rw [beq_iff_eq]; omega
          have hF : Uv.ru 0 0 bs = (0, 0, 11) := by
            rw [HR.out]; simp only [Uv.ru]; rw [if_neg (by omega), if_pos ⟨hz0, hxz⟩]
          have HF := Lib.hid hF
          clear hF hxz
          go_wp2
          go_ret3
          exact ⟨by rw [HF.out]; rfl, rfl⟩
        · have hz' : 0 < k → ((x : Int) == 0) = false := fun h => by rw [beq_eq_false_iff_ne]; omega
          by_cases hs : x < 128
          · have hF : Uv.ru 0 0 bs = (a + x % 128 * 128 ^ k, k + 1, 0) := by
              rw [HR.out]; simp only [Uv.ru]; rw [if_neg (fun h => h9 h.1), if_neg hz, if_pos hs]
            have HF := Lib.hid hF
            clear hF
            by_cases h0 : 0 < k
            all_goals
              first | have hz1 := hz' h0 | skip
              clear hz hz'
              go_wp2
              go_ret3
              exact ⟨by rw [HF.out, ← HU.out]; simp, rfl⟩
          · have hF : Uv.ru 0 0 bs = Uv.ru (k + 1) (a + x % 128 * 128 ^ k) (bs.drop (k + 1)) := by
              rw [HR.out]; simp only [Uv.ru]; rw [if_neg (fun h => h9 h.1), if_neg hz, if_neg hs]
            have HF := Lib.hid hF
            clear hF
            have hB : a + x % 128 * 128 ^ k < 128 ^ (k + 1) := by
              have := HA.out
              have hq : (128 : Nat) ^ (k + 1) = 128 ^ k * 128 := Nat.pow_succ ..
              have hx : x % 128 * 128 ^ k ≤ 127 * 128 ^ k := Nat.mul_le_mul_right _ (by omega)
              omega
            have HB := Lib.hid hB
            have hV : u * 128 = 128 ^ (k + 1) := by rw [HU.out, Nat.pow_succ]
            have HV := Lib.hid hV
            clear hB hV
            by_cases h0 : 0 < k
            all_goals
              first | have hz1 := hz' h0 | skip
              clear hz hz'
              go_wp2
              go_round
              case rel => exact ⟨k + 1, _, _, by omega, by omega, HB, HV, by go_num, by go_num, by rw [← HU.out]; simp, HF⟩
              case measure => simp [intOf]; omega
    · have hF : Uv.ru 0 0 bs = (0, 0, 10) := by rw [H.out, List.drop_eq_nil_of_le (by omega)]; rfl
      have HF := Lib.hid hF
      clear hF
      go_wp2
      go_ret3
      exact ⟨by rw [HF.out]; rfl, rfl⟩

theorem rreadUvarint_is (A : Option Addr) (n c : Nat) (bs : List Nat) (w : World) (v k x : Nat) (hr : Rd w A (b8 bs)) (hby : By bs) (hn : bs.length = n) (hl : n ≤ 140737488355328) (h : Uv.ru 0 0 bs = (v, k, x)) :
    Calls Tryz.prog 77 #[.slice A n c] w fun e w' =>
      e = .returned (.tuple #[.int .u64 (v : Int), .int .i64 (k : Int), .int .i64 (x : Int)]) ∧ w = w' := by
  subst hn
  have := rreadUvarint_all A c bs w hr hby hl
  rw [h] at this
  exact this
end Go.Proofs.YtljfmcgeiceagaaGreat

/- Rows of bytes of the call's own whose mark lies behind their last cell: what []byte(text) makes; stores and appends onto them; marked on them. -/
namespace Go.Proofs.YtljfmcgeiceagaaGreat
open Go Go.RowKit
set_option linter.unusedVariables false

/-- A mark that no cell below n bears. -/
def Far (fz : Nat × Nat) (n : Nat) : Prop := fz.2 ≤ fz.1 ∨ n ≤ fz.1
theorem Far.not_in {fz : Nat × Nat} {n k : Nat} (h : Far fz n) (hk : k < n) : ¬ (fz.1 ≤ k ∧ k < fz.2) := by
  rcases h with h | h <;> omega

def ownsL (w : World) (base : Nat) (e : TypeId) (v : Value) (n : Nat) (xs : List Value) : Prop :=
  xs.length = n ∧
  ((v = .slice none 0 0 ∧ n = 0) ∨
   ∃ g cap cur fz, v = .slice (some ⟨g, 0, none⟩) n cap ∧ base ≤ g ∧ w.heap[g]? = some (.cells cur e fz) ∧ Far fz cap ∧ n ≤ cap ∧ cap ≤ maxLen ∧ cur.size = cap ∧ cur.toList.take n = xs)

section
variable {w : World} {base : Nat} {e : TypeId} {v : Value} {n : Nat} {xs : List Value}
theorem ownsL.shape (h : ownsL w base e v n xs) : ∃ A c, v = .slice A n c ∧ n ≤ c ∧ c ≤ maxLen ∧ (∀ a, A = some a → base ≤ a.block ∧ a.block < w.heap.size) := by
  rcases h.2 with ⟨rfl, h0⟩ | ⟨g, cap, cur, fz, rfl, hb, hh, hf, hnc, hcap, _⟩
  · subst h0
    exact ⟨none, 0, rfl, Nat.le_refl _, by simp, fun a ha => by cases ha⟩
  · exact ⟨_, cap, rfl, hnc, hcap, fun a ha => by injection ha with ha; subst ha; exact ⟨hb, (Array.getElem?_eq_some_iff.1 hh).1⟩⟩
theorem ownsL.lt (h : ownsL w base e v n xs) : ∀ k, v.ownBlock = some k → base ≤ k ∧ k < w.heap.size := by
  obtain ⟨A, c, rfl, _, _, hA⟩ := h.shape
  intro k hk
  rcases A with _ | a
  · cases hk
  · injection hk with hk
    subst hk
    exact hA a rfl
theorem ownsL.kept {w' : World} {row : Option Nat} (h : ownsL w base e v n xs) (hg : w.grownBy w' row) (hne : v.ownBlock = none ∨ v.ownBlock ≠ row) : ownsL w' base e v n xs := by
  refine ⟨h.1, ?_⟩
  rcases h.2 with hn | ⟨g, cap, cur, fz, rfl, hb, hgg, rest⟩
  · exact .inl hn
  · refine .inr ⟨g, cap, cur, fz, rfl, hb, ?_, rest⟩
    rw [hg.block g (Array.getElem?_eq_some_iff.1 hgg).1 (by simpa [Value.ownBlock] using hne)]
    exact hgg
theorem ownsL.below {w' : World} (h : ownsL w base e v n xs) (hb : Below w.heap.size w w') : ownsL w' base e v n xs :=
  h.kept (grown_of_below hb none) (by cases hv : v.ownBlock <;> simp)
theorem ownsL.cells (h : ownsL w base e v n xs) {g : Nat} (hg : v.ownBlock = some g) : ∀ j u, xs[j]? = some u → w.cell? ⟨g, j, none⟩ = some u := by
  intro j u hu
  rcases h.2 with ⟨rfl, _⟩ | ⟨g', cap, cur, fz, rfl, _, hgg, _, _, _, _, htake⟩
  · simp [Value.ownBlock] at hg
  · simp [Value.ownBlock] at hg
    subst hg
    rw [cell_of_row w g' j cur e fz hgg]
    rw [← htake, List.getElem?_take] at hu
    split at hu
    · simpa using hu
    · cases hu
theorem ownsL.rd {A : Option Addr} {c : Nat} (h : ownsL w base e (.slice A n c) n xs) : Rd w A xs := by
  intro hn
  have hsz := h.1
  rcases h.2 with ⟨hv, h0⟩ | ⟨g, cap, cur, fz, hv, hb, hh, _⟩
  · subst h0
    exact absurd (List.eq_nil_of_length_eq_zero hsz) hn
  · have hA : A = some ⟨g, 0, none⟩ := by injection hv
    subst hA
    exact ⟨g, 0, rfl, (Array.getElem?_eq_some_iff.1 hh).1, fun k u hu => by rw [Nat.zero_add]; exact h.cells (g := g) rfl k u hu⟩
theorem ownsL.frozenAt {g c : Nat} (h : ownsL w base e (.slice (some ⟨g, 0, none⟩) n c) n xs) {j : Nat} (hj : j < n) : w.frozen? ⟨g, j, none⟩ = false := by
  rcases h.2 with ⟨h', _⟩ | ⟨g', cap', cur, fz, h', _, hg, hf, hnc, _⟩
  · simp at h'
  · simp only [Value.slice.injEq, Option.some.injEq, Addr.mk.injEq, and_true, true_and] at h'
    obtain ⟨rfl, rfl⟩ := h'
    have := hf.not_in (k := j) (by omega)
    simp only [World.frozen?, hg]
    simp
    omega
theorem ownsL.stored {g c : Nat} (h : ownsL w base e (.slice (some ⟨g, 0, none⟩) n c) n xs) (j : Nat) (u : Value) :
    ownsL (w.setCell ⟨g, j, none⟩ u) base e (.slice (some ⟨g, 0, none⟩) n c) n (xs.set j u) ∧ w.grownBy (w.setCell ⟨g, j, none⟩ u) (some g) := by
  refine ⟨?_, Row.grown j u⟩
  rcases h.2 with ⟨h', _⟩ | ⟨g', cap', cur, fz, h', hb, hg, hf, hnc, hcm, hcs, htake⟩
  · simp at h'
  · simp only [Value.slice.injEq, Option.some.injEq, Addr.mk.injEq, and_true, true_and] at h'
    obtain ⟨rfl, rfl⟩ := h'
    refine ⟨by simpa using h.1, .inr ⟨g, c, cur.setIfInBounds j u, fz, rfl, hb, ?_, hf, hnc, hcm, by simpa using hcs, ?_⟩⟩
    · simp only [World.setCell, Array.getElem?_modify, hg]
      simp
    · rw [← htake, Array.toList_setIfInBounds, List.take_set]
end


end Go.Proofs.YtljfmcgeiceagaaGreat
