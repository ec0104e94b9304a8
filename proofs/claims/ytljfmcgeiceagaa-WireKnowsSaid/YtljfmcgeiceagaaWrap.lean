/- A mark, a length, a sum and a body. -/
import Derived.Test.YtljfmcgeiceagaaF2
import Derived.Test.YtljfmcgeiceagaaF4
import Derived.Test.YtljfmcgeiceagaaSums
import Derived.Test.YtljfmcgeiceagaaRefSums
namespace Go.Proofs.Ytljfmcgeiceagaa
open Go Go.RowKit
set_option linter.unusedVariables false
set_option linter.unusedSimpArgs false

/-- The sum over length and body. -/
def crcOf (body : List Nat) : Nat := Crc.ext (Crc.ext 0 (fx body.length 4)) body
def wrap (mark : Nat) (body : List Nat) : List Nat := [mark] ++ fx body.length 4 ++ fx (crcOf body) 4 ++ body
theorem wrap_length (mark : Nat) (body : List Nat) : (wrap mark body).length = body.length + 9 := by
  simp only [wrap, List.length_append, fx_length, List.length_cons, List.length_nil]
  omega
theorem ext0_lt {l : List Nat} (h : By l) : Crc.ext 0 l < 4294967296 := Crc.ext_lt (by decide) h
theorem crcOf_lt {body : List Nat} (h : By body) : crcOf body < 4294967296 := Crc.ext_lt (ext0_lt (fx_by _ _)) h
theorem wrap_by {mark : Nat} {body : List Nat} (hm : mark < 256) (h : By body) : By (wrap mark body) := by
  intro b hb
  simp only [wrap, List.mem_append, List.mem_cons, List.not_mem_nil, or_false] at hb
  rcases hb with ((rfl | hb) | hb) | hb
  · exact hm
  · exact fx_by _ _ _ hb
  · exact fx_by _ _ _ hb
  · exact h _ hb
theorem val_four (a b c d : Nat) : val [a, b, c, d] = ((a * 256 + b) * 256 + c) * 256 + d := by simp [val]
theorem fx_val {l : List Nat} (h : By l) (hl : l.length = 4) : fx (val l) 4 = l := by
  match l, hl with
  | [a, b, c, d], _ =>
    have ha := h a (by simp)
    have hb := h b (by simp)
    have hc := h c (by simp)
    have hd := h d (by simp)
    rw [fx_four, val_four]
    simp only [List.cons.injEq, and_true]
    omega
theorem val_fx {v : Nat} (h : v < 4294967296) : val (fx v 4) = v := by
  rw [fx_four, val_four]
  omega

/-- A writer's call: what it leaves. -/
theorem Wrote.leaves {base g : Nat} {v : Value} {T : TypeId} {xs zs : List Nat} {W W' : World} {e : Ending} (hw : Wrote base W T g v zs e W') (h : Wr base W T g v xs) : ∃ v', e = .returned (.tuple #[]) ∧ Wr base W' T g v' zs ∧ Below base W W' := by
  obtain ⟨v', he, hw, hk, hn⟩ := hw
  refine ⟨v', he, hw, (KeptS.of2 (S := fun q => q = g ∨ v.ownBlock = some q) hk (.inl rfl) (fun q hq => .inr hq)).below ?_ h.hb⟩
  rintro q (rfl | hq)
  · exact h.gb
  · exact (h.ownLt q hq).1

/-- What Wrap gives. -/
def Gives8 (w : World) (bs : List Nat) (e : Ending) (w' : World) : Prop := Got8 w w' e bs

set_option maxHeartbeats 400000 in
set_option maxRecDepth 100000 in
theorem rwrap_is (mark : Nat) (A : Option Addr) (n c : Nat) (body : List Nat) (w : World) (hr : Rd w A (b8 body)) (hn : body.length = n) (hby : By body) (hm : mark < 256) (hl : n ≤ 1048576) :
    Calls Try.prog 34 #[.int .u8 (mark : Int), .slice A n c] w (Gives8 w (wrap mark body)) := by
  have HN := Lib.hid hn
  have HY := Lib.hid hby
  have HR := Lib.hid hr
  have hcl := crcOf_lt hby
  have hel := ext0_lt (fx_by 4 body.length)
  have HE : Hid (Crc.ext 0 (fx n 4) = Crc.ext 0 (fx body.length 4)) := Lib.hid (by rw [hn])
  have HC : Hid (crcOf body = Crc.ext (Crc.ext 0 (fx body.length 4)) body) := Lib.hid rfl
  obtain ⟨z, hz⟩ : ∃ z, z = crcOf body := ⟨_, rfl⟩
  obtain ⟨y, hy⟩ : ∃ y, y = Crc.ext 0 (fx body.length 4) := ⟨_, rfl⟩
  rw [← hz] at hcl HC
  rw [← hy] at hel HE HC
  have HZ := Lib.hid hz
  have hf4 : ∀ v, (fx v 4).length = 4 := fun v => fx_length 4 v
  have HF4 := Lib.hid hf4
  clear hn hby hr hy hz hf4
  go_enter Try.func34, Try.ntmps34
  go_wp2_with fail
  refine (fixed_any n 4 w (by omega) (by omega) (by omega)).mono ?_
  rintro e w1 ⟨A1, c1, rfl, ho1, hb1⟩
  have HO1 := Lib.hid ho1
  have B1 := Lib.hid hb1
  clear ho1 hb1
  go_wp2_with (first
    | (go_at_call 55; refine (rsum_is A1 _ c1 (fx n 4) w1 y (rd_own HO1.out) (fx_by _ _) rfl (by rw [HF4.out]; omega) HE.out.symm).mono ?_; rintro e w2 ⟨rfl, rfl⟩)
    | (go_at_call 54; refine (rextend_is y A n c body w1 z hel (HR.out.below B1.out) HY.out HN.out (by omega) HC.out).mono ?_; rintro e w2 ⟨rfl, rfl⟩)
    | (go_at_call 56; refine (rnew_is w1).mono ?_; rintro e w3 ⟨rfl, rfl⟩; have HW3 := Lib.hid (rnew_wr w1.heap.size w1 (Nat.le_refl _)); have B3 := Lib.hid ((Below.refl w1.heap.size w1).alloc (Nat.le_refl _) (.cells #[.slice none 0 0] 106)))
    | (go_at_call 57; refine (rbyte_is w1.heap.size w1.heap.size _ [] mark _ HW3.out (by simp) B3.out.size).mono ?_; intro e w4 hw; obtain ⟨v4, rfl, hw4, hb4⟩ := hw.leaves HW3.out; have HW4 := Lib.hid hw4; have B4 := Lib.hid (B3.out.trans hb4); clear hw hw4 hb4))
  refine (rraw_is w1.heap.size w1.heap.size v4 ([] ++ [mark]) A1 _ c1 (fx n 4) w4 HW4.out ((rd_own HO1.out).below B4.out) rfl (by rw [HF4.out]; simp) B4.out.size).mono ?_
  intro e w5 hw
  obtain ⟨v5, rfl, hw5, hb5⟩ := hw.leaves HW4.out
  have HW5 := Lib.hid hw5
  have B5 := Lib.hid (B4.out.trans hb5)
  clear hw hw5 hb5
  go_wp2_with fail
  refine (ru32_w w1.heap.size w1.heap.size v5 _ z w5 HW5.out hcl (by simp [HF4.out]) B5.out.size).mono ?_
  intro e w6 hw
  obtain ⟨v6, rfl, hw6, hb6⟩ := hw.leaves HW5.out
  have HW6 := Lib.hid hw6
  have B6 := Lib.hid (B5.out.trans hb6)
  clear hw hw6 hb6
  go_wp2_with fail
  refine (rraw_is w1.heap.size w1.heap.size v6 _ A n c body w6 HW6.out ((HR.out.below B1.out).below B6.out) HN.out (by simp [HF4.out]; omega) B6.out.size).mono ?_
  intro e w7 hw
  obtain ⟨v7, rfl, hw7, hb7⟩ := hw.leaves HW6.out
  have HW7 := Lib.hid hw7
  have B7 := Lib.hid (B6.out.trans hb7)
  clear hw hw7 hb7
  go_wp2_with fail
  have hwr : ([] ++ [mark] ++ fx n 4 ++ fx z 4 ++ body) = wrap mark body := by
    rw [HZ.out, ← HN.out]
    rfl
  rw [hwr] at HW7
  refine (rbytes_w w1.heap.size w1.heap.size v7 _ w7 HW7.out (by rw [wrap_length, HN.out]; omega)).mono ?_
  rintro e w8 ⟨A8, c8, rfl, ho8, hb8⟩
  have HO8 := Lib.hid ho8
  have B8 := Lib.hid (B7.out.trans (hb8.mono B7.out.size))
  clear ho8 hb8
  go_wp2_with fail
  go_ret
  refine ⟨A8, c8, rfl, own_lower HO8.out ?_, B1.out.trans (B8.out.mono B1.out.size)⟩
  exact Nat.le_trans B1.out.size B7.out.size
end Go.Proofs.Ytljfmcgeiceagaa
