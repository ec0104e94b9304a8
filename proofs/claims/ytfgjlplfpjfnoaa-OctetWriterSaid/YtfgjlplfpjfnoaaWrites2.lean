/- One step of writers: raw bytes, a look, every other kind. -/
import Derived.Test.YtfgjlplfpjfnoaaWrites
import Derived.Test.YtfgjlplfpjfnoaaWrites0
namespace Go.Proofs.Ytfgjlplfpjfnoaa
open Go Go.RowKit
set_option linter.unusedVariables false

set_option maxRecDepth 100000 in
theorem writes_none10 (n : Nat) (s : ByteArray) (w : World) (hn : n < 18446744073709551616) (hs : s.size ≤ 140737488351232) :
    Calls Try.prog 39 #[.pointer none, .pointer none, (Stp.mk 10 n s).val] w fun e w' => e = .returned (.bool true) ∧ Below w.heap.size w w' := by
  unfold Stp.val
  simp only
  have hm : s.size ≤ maxLen := by unfold maxLen; omega
  go_enter Try.func39, Try.ntmps39
  go_wp2_with (first
    | (refine wpList_bytesL _ rfl (.tmp 83) 9 22 5 rfl Try.underlying9 Try.underlying22 Try.underlying5 s rfl hm ?_; intro c1 w1 ho1 hb1 hl1; have hx1 := Bx3.below (Bx3.new w ⟨10, n, s⟩) hb1 (by simp); obtain ⟨c10, c11, c12⟩ := hx1.facts; simp only at c10 c11 c12; rw [show (w.alloc (Obj.cells #[Value.int IntKind.i64 10, Value.int IntKind.u64 (n : Int), Value.string s] 55)).heap.size = w.heap.size + 1 from by simp] at ho1 hl1; have HO1 := Lib.hid ho1; clear ho1)
    | (go_at_call 74; refine (raw_none _ _ _ _).mono ?_; rintro e w9 ⟨rfl, rfl⟩)
    | (go_at_call 75; refine (rraw_none _ _ _ _).mono ?_; rintro e w9 ⟨rfl, rfl⟩)
    | (refine wpList_bytesL _ rfl (.tmp 90) 9 22 5 rfl Try.underlying9 Try.underlying22 Try.underlying5 s rfl hm ?_; intro c2 w2 ho2 hb2 hl2; have hx2 := Bx3.below hx1 hb2 (lt_of_block hx1); obtain ⟨c20, c21, c22⟩ := hx2.facts; simp only at c20 c21 c22; have HO2 := Lib.hid (HO1.out.below hb2); clear ho2)
    | (refine wpList_str _ rfl (.tmp 93) 22 9 5 rfl Try.underlying22 Try.underlying5 Try.underlying9 (some ⟨w.heap.size + 1, 0, none⟩) s.size c1 (sb s) rfl HO2.out.rd (sb_length s) (sb_by s) ?_; rw [strOf_sb])
    | (go_at_call 23; refine (marked_L _ _ _ _ 5 _ HO2.out (by omega) (by omega)).mono ?_; rintro e w3 ⟨A3, c3, rfl, hg3⟩; obtain ⟨c30, c31, c32⟩ := (Bx3.below hx2 (below_of_grown (B := w.heap.size + 1) hg3 (by omega) (fun k hk => by simp [Value.ownBlock] at hk; omega)) (by omega)).facts; simp only at c30 c31 c32))
  have q1 : Below w.heap.size w w1 := ((Below.refl _ _).alloc (Nat.le_refl _) _).trans (hb1.mono (by simp))
  have q2 : Below w.heap.size w w2 := q1.trans (hb2.mono q1.size)
  have q3 : Below w.heap.size w w3 := q2.trans (below_of_grown hg3 q2.size (fun k hk => by simp [Value.ownBlock] at hk; omega))
  go_ret
  exact ⟨by simp, q3⟩

theorem ownsL.keptS {w1 W : World} {B n c q : Nat} {e : TypeId} {xs : List Value} {S : Nat → Prop} (h : ownsL w1 B e (.slice (some ⟨q, 0, none⟩) n c) n xs) (hk : KeptS w1 W S) (hn : ¬ S q) : ownsL W B e (.slice (some ⟨q, 0, none⟩) n c) n xs := by
  refine ⟨h.1, ?_⟩
  rcases h.2 with h0 | ⟨g, cap, cur, fz, hv, hb, hgg, rest⟩
  · exact .inl h0
  · have hgq : g = q := by simp at hv; exact hv.1.symm
    subst hgq
    exact .inr ⟨g, cap, cur, fz, hv, hb, (hk.block g (Array.getElem?_eq_some_iff.1 hgg).1 hn).trans hgg, rest⟩
theorem On2.grown {base : Nat} {w0 W W' : World} {g1 g2 : Nat} {a1 a2 v1 v2 : Value} {xs ys : List Nat} (h : On2 base w0 g1 a1 g2 a2 W v1 xs v2 ys) {q : Nat} (hg : W.grownBy W' (some q)) (h0 : w0.heap.size ≤ q) (hn : ¬ Foot g1 v1 g2 v2 q) : On2 base w0 g1 a1 g2 a2 W' v1 xs v2 ys :=
  ⟨h.two.kept (KeptS.of_grown (S := fun k => k = q) hg (fun k e => by injection e with e; exact e.symm)) (fun k hk e => hn (e ▸ hk)), h.kept.trans (KeptS.of_grown (S := fun k => k = q) hg (fun k e => by injection e with e; exact e.symm)) (fun k e => .inr (by omega)), h.foot⟩
theorem On2.notFoot {base : Nat} {w0 W : World} {g1 g2 : Nat} {a1 a2 v1 v2 : Value} {us vs xs ys : List Nat} (h0 : Two base w0 g1 a1 us g2 a2 vs) {w : World} (h : On2 base w0 g1 a1 g2 a2 W v1 xs v2 ys) {q : Nat} (hq : q < w0.heap.size) (hn : ¬ Foot g1 a1 g2 a2 q) : ¬ Foot g1 v1 g2 v2 q := by
  intro hf
  rcases h.foot q hf with h1 | h1
  · exact hn h1
  · omega

end Go.Proofs.Ytfgjlplfpjfnoaa
