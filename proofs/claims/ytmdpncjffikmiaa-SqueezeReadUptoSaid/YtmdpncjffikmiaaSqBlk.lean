/- block and Write: the block of tokens. -/
import Derived.Test.YtmdpncjffikmiaaSqExp3
import Derived.Test.YtmdpncjffikmiaaStep
namespace Go.Proofs.Ytmdpncjffikmiaa
open Go Go.RowKit
set_option linter.unusedVariables false
set_option linter.unusedSimpArgs false

/-- A token's bytes, a block. -/
def bt (t : Tk) : List Nat := if 0 < t.lit.length then Uv.uv (2 * t.lit.length) ++ t.lit else Uv.uv (2 * t.l.toNat + 1) ++ Uv.uv t.d.toNat
def blk (n : Nat) (ts : List Tk) : List Nat := Uv.uv n ++ ts.flatMap bt
def wr (ts : List Tk) : List Nat × Int := if (exp [] ts).2 = 0 then (blk (exp [] ts).1.length ts, 0) else ([], (exp [] ts).2)

/-- A token that may stand somewhere. -/
def Fine (t : Tk) : Prop := (∃ m, rt t m = true) ∧ t.lit.length ≤ 4096
theorem Fine.cases {t : Tk} (h : Fine t) : (0 < t.lit.length ∧ t.d = 0 ∧ t.l = 0) ∨ (t.lit = [] ∧ 5 ≤ t.l ∧ t.l ≤ 258 ∧ 1 ≤ t.d ∧ t.d ≤ 2048) := by
  obtain ⟨⟨m, h⟩, _⟩ := h
  rcases rt_cases h with h | h
  · exact .inl h
  · exact .inr ⟨h.1, h.2.1, h.2.2.1, h.2.2.2.1, h.2.2.2.2.1⟩
theorem bt_lit {t : Tk} (h : 0 < t.lit.length) : bt t = Uv.uv (2 * t.lit.length) ++ t.lit := by unfold bt; rw [if_pos h]
theorem bt_match {t : Tk} (h : ¬ 0 < t.lit.length) : bt t = Uv.uv (2 * t.l.toNat + 1) ++ Uv.uv t.d.toNat := by unfold bt; rw [if_neg h]
theorem bt_len {t : Tk} (h : Fine t) : (bt t).length ≤ 4116 := by
  have h2 := h.2
  by_cases h0 : 0 < t.lit.length
  · rw [bt_lit h0, List.length_append]
    have := Uv.uv_len_64 (2 * t.lit.length) (by omega)
    omega
  · rcases h.cases with h1 | h1
    · exact absurd h1.1 h0
    · rw [bt_match h0, List.length_append]
      have := Uv.uv_len_64 (2 * t.l.toNat + 1) (by omega)
      have := Uv.uv_len_64 t.d.toNat (by omega)
      omega
theorem fine_of_exp : ∀ {ts : List Tk} {text T : List Nat}, exp text ts = (T, 0) → (∀ t ∈ ts, Fine t) ∧ ts.length + text.length ≤ T.length
  | [], text, T, h => by
    simp only [exp, Prod.mk.injEq] at h
    exact ⟨fun t ht => by simp at ht, by rw [h.1]; simp⟩
  | t :: r, text, T, h => by
    unfold exp at h
    split at h
    · rename_i h1
      split at h
      · simp at h
      · rename_i h2
        have ih := fine_of_exp h
        refine ⟨fun t' ht' => ?_, ?_⟩
        · rcases List.mem_cons.1 ht' with rfl | h3
          · exact ⟨⟨_, h1⟩, by omega⟩
          · exact ih.1 t' h3
        · have h4 := ih.2
          rw [addTk_length] at h4
          rcases rt_cases h1 with h5 | h5
          · simp only [List.length_cons]; omega
          · simp only [List.length_cons]; omega
    · simp at h

theorem wrote_leaves {base g : Nat} {v : Value} {T : TypeId} {xs zs : List Nat} {W W' : World} {e : Ending} (hw : Wrote base W T g v zs e W') (h : Wr base W T g v xs) : ∃ v', e = .returned (.tuple #[]) ∧ Wr base W' T g v' zs ∧ Below base W W' := by
  obtain ⟨v', he, hw, hk, hn⟩ := hw
  refine ⟨v', he, hw, (KeptS.of2 (S := fun q => q = g ∨ v.ownBlock = some q) hk (.inl rfl) (fun q hq => .inr hq)).below ?_ (Nat.le_trans h.gb (Nat.le_of_lt h.lt))⟩
  rintro q (rfl | hq)
  · exact h.gb
  · exact (h.own.lt q hq).1

/-- A writer on the way, with what it has. -/
def WOn (w W : World) (Y : List Nat) : Prop := ∃ v, Wr w.heap.size W 84 w.heap.size v Y ∧ Below w.heap.size w W
theorem WOn.below {w W W' : World} {Y : List Nat} (h : WOn w W Y) (hb : Below W.heap.size W W') : WOn w W' Y := by
  obtain ⟨v, h1, h2⟩ := h
  exact ⟨v, h1.below hb, h2.trans (hb.mono h2.size)⟩
theorem WOn.lt {w W : World} {Y : List Nat} (h : WOn w W Y) : w.heap.size < W.heap.size := by
  obtain ⟨v, h1, h2⟩ := h
  exact h1.lt
theorem WOn.kept {w W : World} {Y : List Nat} (h : WOn w W Y) : Below w.heap.size w W := by
  obtain ⟨v, h1, h2⟩ := h
  exact h2
def WPost (w : World) (Y : List Nat) (e : Ending) (W' : World) : Prop := e = .returned (.tuple #[]) ∧ WOn w W' Y
theorem won_uv {w W : World} {Y : List Nat} (h : WOn w W Y) (x : Nat) (hx : x < 18446744073709551616) (hl : Y.length + 10 ≤ 140737488355328) :
    Calls Try.prog 68 #[.pointer (some ⟨w.heap.size, 0, none⟩), .int .u64 (x : Int)] W (WPost w (Y ++ Uv.uv x)) := by
  obtain ⟨v, h1, h2⟩ := h
  refine (uvarint_w w.heap.size w.heap.size v Y x W h1 hx hl h2.size).mono ?_
  intro e W' hw
  obtain ⟨v', he, h3, h4⟩ := wrote_leaves hw h1
  exact ⟨he, v', h3, h2.trans h4⟩
/-- Beside it a token in its block. -/
def WOnB (w W : World) (Y : List Nat) (g : Nat) (x : TkV) : Prop := ∃ v, Wr w.heap.size W 84 w.heap.size v Y ∧ Below w.heap.size w W ∧ Bt W g x ∧ v.ownBlock ≠ some g ∧ g ≠ w.heap.size
theorem WOnB.on {w W : World} {Y : List Nat} {g : Nat} {x : TkV} (h : WOnB w W Y g x) : WOn w W Y := by
  obtain ⟨v, h1, h2, _⟩ := h
  exact ⟨v, h1, h2⟩
theorem WOnB.bt {w W : World} {Y : List Nat} {g : Nat} {x : TkV} (h : WOnB w W Y g x) : Bt W g x := by
  obtain ⟨v, h1, h2, h3, _⟩ := h
  exact h3
theorem WOn.box {w W : World} {Y : List Nat} (h : WOn w W Y) (x : TkV) : WOnB w (W.alloc (.cells #[.slice x.A x.lit.length x.c, .int .i64 x.d, .int .i64 x.l] 37)) Y W.heap.size x := by
  have hlt := h.lt
  obtain ⟨v, h1, h2⟩ := h
  refine ⟨v, h1.below ((Below.refl _ _).alloc (Nat.le_refl _) _), h2.trans ((Below.refl _ _).alloc h2.size _), Bt.new W x, fun e => ?_, by omega⟩
  have := (h1.own.lt _ e).2
  omega
theorem wrote_box {w W W' : World} {Y Z : List Nat} {g : Nat} {x : TkV} {v : Value} {e : Ending} (h1 : Wr w.heap.size W 84 w.heap.size v Y) (h2 : Below w.heap.size w W) (h3 : Bt W g x) (h4 : v.ownBlock ≠ some g) (h5 : g ≠ w.heap.size)
    (hw : Wrote w.heap.size W 84 w.heap.size v Z e W') : e = .returned (.tuple #[]) ∧ WOnB w W' Z g x := by
  obtain ⟨v', he, h6, h7⟩ := wrote_leaves hw h1
  obtain ⟨v2, he2, hw2, hk, hn⟩ := hw
  refine ⟨he, v2, hw2, h2.trans h7, (hk.block g h3.lt h5 (fun e => h4 e.symm)).trans h3, ?_, h5⟩
  rcases hn with e | ⟨q, e, hq⟩
  · rw [e]; exact h4
  · rw [e]; intro e2; injection e2 with e2; have := h3.lt; omega
def WPostB (w : World) (Y : List Nat) (g : Nat) (x : TkV) (e : Ending) (W' : World) : Prop := e = .returned (.tuple #[]) ∧ WOnB w W' Y g x
theorem wonb_uv {w W : World} {Y : List Nat} {g : Nat} {x : TkV} (h : WOnB w W Y g x) (u : Nat) (hx : u < 18446744073709551616) (hl : Y.length + 10 ≤ 140737488355328) :
    Calls Try.prog 68 #[.pointer (some ⟨w.heap.size, 0, none⟩), .int .u64 (u : Int)] W (WPostB w (Y ++ Uv.uv u) g x) := by
  obtain ⟨v, h1, h2, h3, h4, h5⟩ := h
  refine (uvarint_w w.heap.size w.heap.size v Y u W h1 hx hl h2.size).mono ?_
  intro e W' hw
  exact wrote_box h1 h2 h3 h4 h5 hw
theorem wonb_raw {w W : World} {Y : List Nat} {g : Nat} {x : TkV} (h : WOnB w W Y g x) (A : Option Addr) (m c : Nat) (news : List Nat) (hr : Rd W A (b8 news)) (hm : news.length = m) (hl : Y.length + m ≤ 140737488355328) :
    Calls Try.prog 69 #[.pointer (some ⟨w.heap.size, 0, none⟩), .slice A m c] W (WPostB w (Y ++ news) g x) := by
  obtain ⟨v, h1, h2, h3, h4, h5⟩ := h
  refine (raw_is w.heap.size w.heap.size v Y A m c news W h1 hr hm hl h2.size).mono ?_
  intro e W' hw
  exact wrote_box h1 h2 h3 h4 h5 hw
theorem won_bytes {w W : World} {Y : List Nat} (h : WOn w W Y) (hl : Y.length ≤ 140737488351232) :
    Calls Try.prog 70 #[.pointer (some ⟨w.heap.size, 0, none⟩)] W fun e w' => Got8 w w' e Y := by
  obtain ⟨v, h1, h2⟩ := h
  refine (bytes_w w.heap.size w.heap.size v Y W h1 hl).mono ?_
  rintro e w' ⟨A, c, rfl, ho, hb⟩
  exact ⟨A, c, rfl, own_mono ho h2.size, h2.trans (hb.mono h2.size)⟩
theorem won_new (w : World) : WOn w (w.alloc (.cells #[.slice none 0 0] 84)) [] := ⟨_, new_wr w.heap.size w (Nat.le_refl _), (Below.refl _ _).alloc (Nat.le_refl _) _⟩

theorem blk_drop {l : List TkV} {k : Nat} {x : TkV} (h : l[k]? = some x) (Y : List Nat) : Y ++ ((toks l).drop k).flatMap bt = (Y ++ bt x.tk) ++ ((toks l).drop (k + 1)).flatMap bt := by
  obtain ⟨h1, h2⟩ := List.getElem?_eq_some_iff.1 (toks_get h)
  rw [List.drop_eq_getElem_cons h1, h2, List.flatMap_cons, List.append_assoc]

section
variable (m : Nat) (A : Option Addr) (n c : Nat) (l : List TkV) (w : World) (hm : m ≤ 4096) (hr : Rd w A (tkCells l)) (hn : l.length = n) (hok : ∀ x ∈ l, x.Ok w) (hf : ∀ x ∈ l, Fine x.tk) (hl : n ≤ 4096)
include hm hr hn hok hf hl

set_option maxHeartbeats 2000000 in
set_option maxRecDepth 100000 in
theorem block_is : Calls Try.prog 51 #[.int .i64 (m : Int), .slice A n c] w (fun e w' => Got8 w w' e (blk m (toks l))) := by
  have HN := Lib.hid hn
  have HR := Lib.hid hr
  have HOK := Lib.hid hok
  have HF := Lib.hid hf
  have HW0 := Lib.hid (won_new w)
  have HU : Hid ((Uv.uv m).length ≤ 10) := Lib.hid (Uv.uv_len_64 m (by omega))
  have HS0 : Hid (blk m (toks l) = ([] ++ Uv.uv m) ++ ((toks l).drop 0).flatMap bt) := Lib.hid (by rw [List.drop_zero]; rfl)
  obtain ⟨q, hq⟩ : ∃ q, q = blk m (toks l) := ⟨_, rfl⟩
  rw [← hq] at HS0 ⊢
  clear hq hr hn hok hf
  go_enter Try.func51, Try.ntmps51
  go_wp2_with (first
    | (go_at_call 67; refine (new_is w).mono ?_; rintro e w' ⟨rfl, rfl⟩)
    | (go_at_call 68; refine (won_uv HW0.out m (by omega) (by simp)).mono ?_; rintro e w1 ⟨rfl, h1⟩; have HW1 := Lib.hid h1; clear h1))
  go_loopw [15] (fun i wr => ∃ (k : Nat) (Y : List Nat), k ≤ n ∧ i = .int .i64 k ∧ Hid (Y.length ≤ 10 + k * 4116) ∧ Hid (WOn w wr Y) ∧ Hid (q = Y ++ ((toks l).drop k).flatMap bt)) (fun i _ => n - (intOf i).toNat)
  case atStart => exact ⟨0, _, Nat.zero_le _, rfl, Lib.hid (by simpa using HU.out), HW1, HS0⟩
  case round =>
    clear HW0 HW1
    obtain ⟨k, Y, hk, rfl, HY, HW, HQ⟩ := hrel
    have hszr := HW.out.lt
    by_cases hlt : k < n
    · obtain ⟨x, hx⟩ : ∃ x, l[k]? = some x := ⟨_, List.getElem?_eq_getElem (by rw [HN.out]; exact hlt)⟩
      have HXO := Lib.hid (HOK.out x (List.mem_of_getElem? hx))
      have HXF := Lib.hid (HF.out x (List.mem_of_getElem? hx))
      obtain ⟨g, off, rfl, hg, hc0, hc1, hc2⟩ := HR.out.tok hx
      have HST : Hid (Y ++ ((toks l).drop k).flatMap bt = (Y ++ bt x.tk) ++ ((toks l).drop (k + 1)).flatMap bt) := Lib.hid (blk_drop hx Y)
      replace hc0 := (HW.out.kept.cell (p := ⟨g, off + k * 3, none⟩) hg).trans hc0
      replace hc1 := (HW.out.kept.cell (p := ⟨g, off + k * 3 + 1, none⟩) hg).trans hc1
      replace hc2 := (HW.out.kept.cell (p := ⟨g, off + k * 3 + 2, none⟩) hg).trans hc2
      have hd64 := HXO.out.d64
      have hl64 := HXO.out.l64
      have HB0 := Lib.hid (Bt.new wr x)
      have HLB := Lib.hid (bt_len HXF.out)
      have HCS := Lib.hid HXF.out.cases
      have HL4 := Lib.hid HXF.out.2
      have HWA := Lib.hid (HW.out.box x)
      have hcap := HXO.out.cap
      obtain ⟨xA, xc, lit, d, ll⟩ := x
      simp only at hc0 hc1 hc2 hd64 hl64 HWA hcap
      by_cases h0 : 0 < lit.length
      · have hl4 : lit.length ≤ 4096 := HL4.out
        have HBT : Hid (bt (TkV.tk ⟨xA, xc, lit, d, ll⟩) = Uv.uv (2 * lit.length) ++ lit) := Lib.hid (bt_lit h0)
        have HLU : Hid ((Uv.uv (2 * lit.length)).length ≤ 10) := Lib.hid (Uv.uv_len_64 _ (by omega))
        have PU := Lib.hid (fun W (h : WOnB w W Y wr.heap.size ⟨xA, xc, lit, d, ll⟩) => wonb_uv h (2 * lit.length) (by omega) (by have := HY.out; omega))
        rw [show ((2 * lit.length : Nat) : Int) = 2 * (lit.length : Int) by omega] at PU
        go_wp2_with (first
          | (go_at_call 68; go_loud (refine (PU.out _ HWA.out).mono ?_; rintro e w1 ⟨rfl, h1⟩; have HW1 := Lib.hid h1; obtain ⟨b0, b1, b2⟩ := h1.bt.facts; simp only at b0 b1 b2; clear h1))
          | (go_at_call 69; go_loud (refine (wonb_raw HW1.out _ _ _ lit (HXO.out.rd.below HW1.out.on.kept) rfl (by rw [List.length_append]; have := HY.out; have := HLU.out; omega)).mono ?_; rintro e w2 ⟨rfl, h1⟩; have HW2 := Lib.hid h1; obtain ⟨b0, b1, b2⟩ := h1.bt.facts; simp only at b0 b1 b2; clear h1)))
        go_round
        case rel => exact ⟨k + 1, _, by omega, by go_num, Lib.hid (by have := HY.out; have := HLB.out; rw [List.append_assoc, ← HBT.out, List.length_append]; omega), HW2.out.on, Lib.hid (by rw [List.append_assoc Y, ← HBT.out]; exact HQ.out.trans HST.out)⟩
        case measure => simp [intOf]; omega
      · have hdl : 0 ≤ d ∧ d ≤ 2048 ∧ 0 ≤ ll ∧ ll ≤ 258 := by
          rcases HCS.out with h | h
          · exact absurd h.1 h0
          · have h1 : 5 ≤ ll ∧ ll ≤ 258 ∧ 1 ≤ d ∧ d ≤ 2048 := h.2
            omega
        have HBT : Hid (bt (TkV.tk ⟨xA, xc, lit, d, ll⟩) = Uv.uv (2 * ll.toNat + 1) ++ Uv.uv d.toNat) := Lib.hid (bt_match h0)
        have HLU : Hid ((Uv.uv (2 * ll.toNat + 1)).length ≤ 10) := Lib.hid (Uv.uv_len_64 _ (by omega))
        have PU := Lib.hid (fun W Z (h : WOnB w W Z wr.heap.size ⟨xA, xc, lit, d, ll⟩) (h2 : Z.length ≤ 100000000) => wonb_uv h (2 * ll.toNat + 1) (by omega) (by omega))
        rw [show ((2 * ll.toNat + 1 : Nat) : Int) = 2 * ll + 1 by omega] at PU
        have PD := Lib.hid (fun W Z (h : WOnB w W Z wr.heap.size ⟨xA, xc, lit, d, ll⟩) (h2 : Z.length ≤ 100000000) => wonb_uv h d.toNat (by omega) (by omega))
        rw [show ((d.toNat : Nat) : Int) = d by omega] at PD
        go_wp2_with (first
          | (go_at_call 68; refine (PU.out _ _ HWA.out (by have := HY.out; omega)).mono ?_; rintro e w1 ⟨rfl, h1⟩; have HW1 := Lib.hid h1; obtain ⟨b0, b1, b2⟩ := h1.bt.facts; simp only at b0 b1 b2; clear h1)
          | (go_at_call 68; refine (PD.out _ _ HW1.out (by rw [List.length_append]; have := HY.out; have := HLU.out; omega)).mono ?_; rintro e w2 ⟨rfl, h1⟩; have HW2 := Lib.hid h1; obtain ⟨b0, b1, b2⟩ := h1.bt.facts; simp only at b0 b1 b2; clear h1))
        go_round
        case rel => exact ⟨k + 1, _, by omega, by go_num, Lib.hid (by have := HY.out; have := HLB.out; rw [List.append_assoc, ← HBT.out, List.length_append]; omega), HW2.out.on, Lib.hid (by rw [List.append_assoc Y, ← HBT.out]; exact HQ.out.trans HST.out)⟩
        case measure => simp [intOf]; omega
    · have HQF : Hid (Y = q) := Lib.hid (by rw [HQ.out, List.drop_of_length_le (by simp [toks, HN.out]; omega)]; simp)
      have HLF : Hid (Y.length ≤ 140737488351232) := Lib.hid (by have := HY.out; omega)
      go_wp2_with (go_at_call 70; refine (won_bytes HW.out HLF.out).mono ?_; rintro e w3 ⟨A3, c3, rfl, ho, hb⟩; have HO3 := Lib.hid ho; have HB3 := Lib.hid hb; clear ho hb)
      go_ret
      rw [← HQF.out]
      exact ⟨A3, c3, rfl, HO3.out, HB3.out⟩
end
end Go.Proofs.Ytmdpncjffikmiaa
