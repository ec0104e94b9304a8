/- Several texts in one: Wrap, RsBack, WrapB, HeadB. -/
import Derived.Test.YtljfmcgeiceagaaGreatF2
import Derived.Test.YtljfmcgeiceagaaGreatF4
import Derived.Test.YtljfmcgeiceagaaGreatX1
/- A mark, a length, a sum and a body. -/
namespace Go.Proofs.YtljfmcgeiceagaaGreat
open Go Go.RowKit
set_option linter.unusedVariables false
set_option linter.unusedSimpArgs false

/-- The sum over length and body. -/
def crcOf (body : List Nat) : Nat := Crc.ext (Crc.ext 0 (fx body.length 4)) body
def wrap (mark : Nat) (body : List Nat) : List Nat := [mark] ++ fx body.length 4 ++ fx (crcOf body) 4 ++ body
theorem wrap_length (mark : Nat) (body : List Nat) : (wrap mark body).length = body.length + 9 := by
  simp only [wrap, List.length_append, fx_length, List.length_cons, List.length_nil]
  omega
theorem ext0_lt {l : List Nat} (h : By l) : Crc.ext 0 l < 4294967296 := Crc.ext_lt (by decide) h
theorem crcOf_lt {body : List Nat} (h : By body) : crcOf body < 4294967296 := Crc.ext_lt (ext0_lt (fx_by _ _)) h
theorem wrap_by {mark : Nat} {body : List Nat} (hm : mark < 256) (h : By body) : By (wrap mark body) := by
  intro b hb
  simp only [wrap, List.mem_append, List.mem_cons, List.not_mem_nil, or_false] at hb
  rcases hb with ((rfl | hb) | hb) | hb
  · exact hm
  · exact fx_by _ _ _ hb
  · exact fx_by _ _ _ hb
  · exact h _ hb
theorem val_four (a b c d : Nat) : val [a, b, c, d] = ((a * 256 + b) * 256 + c) * 256 + d := by simp [val]
theorem fx_val {l : List Nat} (h : By l) (hl : l.length = 4) : fx (val l) 4 = l := by
  match l, hl with
  | [a, b, c, d], _ =>
    have ha := h a (by simp)
    have hb := h b (by simp)
    have hc := h c (by simp)
    have hd := h d (by simp)
    rw [fx_four, val_four]
    simp only [List.cons.injEq, and_true]
    omega
theorem val_fx {v : Nat} (h : v < 4294967296) : val (fx v 4) = v := by
  rw [fx_four, val_four]
  omega

/-- A writer's call: what it leaves. -/
theorem Wrote.leaves {base g : Nat} {v : Value} {T : TypeId} {xs zs : List Nat} {W W' : World} {e : Ending} (hw : Wrote base W T g v zs e W') (h : Wr base W T g v xs) : ∃ v', e = .returned (.tuple #[]) ∧ Wr base W' T g v' zs ∧ Below base W W' := by
  obtain ⟨v', he, hw, hk, hn⟩ := hw
  refine ⟨v', he, hw, (KeptS.of2 (S := fun q => q = g ∨ v.ownBlock = some q) hk (.inl rfl) (fun q hq => .inr hq)).below ?_ h.hb⟩
  rintro q (rfl | hq)
  · exact h.gb
  · exact (h.ownLt q hq).1

/-- What Wrap gives. -/
def Gives8 (w : World) (bs : List Nat) (e : Ending) (w' : World) : Prop := Got8 w w' e bs

set_option maxHeartbeats 400000 in
set_option maxRecDepth 100000 in
theorem rwrap_is (mark : Nat) (A : Option Addr) (n c : Nat) (body : List Nat) (w : World) (hr : Rd w A (b8 body)) (hn : body.length = n) (hby : By body) (hm : mark < 256) (hl : n ≤ 1048576) :
    Calls Tryz.prog 56 #[.int .u8 (mark : Int), .slice A n c] w (Gives8 w (wrap mark body)) := by
  have HN := Lib.hid hn
  have HY := Lib.hid hby
  have HR := Lib.hid hr
  have hcl := crcOf_lt hby
  have hel := ext0_lt (fx_by 4 body.length)
  have HE : Hid (Crc.ext 0 (fx n 4) = Crc.ext 0 (fx body.length 4)) := Lib.hid (by rw [hn])
  have HC : Hid (crcOf body = Crc.ext (Crc.ext 0 (fx body.length 4)) body) := Lib.hid rfl
  obtain ⟨z, hz⟩ : ∃ z, z = crcOf body := ⟨_, rfl⟩
  obtain ⟨y, hy⟩ : ∃ y, y = Crc.ext 0 (fx body.length 4) := ⟨_, rfl⟩
  rw [← hz] at hcl HC
  rw [← hy] at hel HE HC
  have HZ := Lib.hid hz
  have hf4 : ∀ v, (fx v 4).length = 4 := fun v => fx_length 4 v
  have HF4 := Lib.hid hf4
  clear hn hby hr hy hz hf4
  go_enter Tryz.func56, Tryz.ntmps56
  go_wp2_with fail
  refine (fixed_any n 4 w (by omega) (by omega) (by omega)).mono ?_
  rintro e w1 ⟨A1, c1, rfl, ho1, hb1⟩
  have HO1 := Lib.hid ho1
  have B1 := Lib.hid hb1
  clear ho1 hb1
  go_wp2_with (first
    | (go_at_call 93; refine (rsum_is A1 _ c1 (fx n 4) w1 y (rd_own HO1.out) (fx_by _ _) rfl (by rw [HF4.out]; omega) HE.out.symm).mono ?_; rintro e w2 ⟨rfl, rfl⟩)
    | (go_at_call 92; refine (rextend_is y A n c body w1 z hel (HR.out.below B1.out) HY.out HN.out (by omega) HC.out).mono ?_; rintro e w2 ⟨rfl, rfl⟩)
    | (go_at_call 57; refine (rnew_is w1).mono ?_; rintro e w3 ⟨rfl, rfl⟩; have HW3 := Lib.hid (rnew_wr w1.heap.size w1 (Nat.le_refl _)); have B3 := Lib.hid ((Below.refl w1.heap.size w1).alloc (Nat.le_refl _) (.cells #[.slice none 0 0] 110)))
    | (go_at_call 58; refine (rbyte_is w1.heap.size w1.heap.size _ [] mark _ HW3.out (by simp) B3.out.size).mono ?_; intro e w4 hw; obtain ⟨v4, rfl, hw4, hb4⟩ := hw.leaves HW3.out; have HW4 := Lib.hid hw4; have B4 := Lib.hid (B3.out.trans hb4); clear hw hw4 hb4))
  refine (rraw_is w1.heap.size w1.heap.size v4 ([] ++ [mark]) A1 _ c1 (fx n 4) w4 HW4.out ((rd_own HO1.out).below B4.out) rfl (by rw [HF4.out]; simp) B4.out.size).mono ?_
  intro e w5 hw
  obtain ⟨v5, rfl, hw5, hb5⟩ := hw.leaves HW4.out
  have HW5 := Lib.hid hw5
  have B5 := Lib.hid (B4.out.trans hb5)
  clear hw hw5 hb5
  go_wp2_with fail
  refine (ru32_w w1.heap.size w1.heap.size v5 _ z w5 HW5.out hcl (by simp [HF4.out]) B5.out.size).mono ?_
  intro e w6 hw
  obtain ⟨v6, rfl, hw6, hb6⟩ := hw.leaves HW5.out
  have HW6 := Lib.hid hw6
  have B6 := Lib.hid (B5.out.trans hb6)
  clear hw hw6 hb6
  go_wp2_with fail
  refine (rraw_is w1.heap.size w1.heap.size v6 _ A n c body w6 HW6.out ((HR.out.below B1.out).below B6.out) HN.out (by simp [HF4.out]; omega) B6.out.size).mono ?_
  intro e w7 hw
  obtain ⟨v7, rfl, hw7, hb7⟩ := hw.leaves HW6.out
  have HW7 := Lib.hid hw7
  have B7 := Lib.hid (B6.out.trans hb7)
  clear hw hw7 hb7
  go_wp2_with fail
  have hwr : ([] ++ [mark] ++ fx n 4 ++ fx z 4 ++ body) = wrap mark body := by
    rw [HZ.out, ← HN.out]
    rfl
  rw [hwr] at HW7
  refine (rbytes_w w1.heap.size w1.heap.size v7 _ w7 HW7.out (by rw [wrap_length, HN.out]; omega)).mono ?_
  rintro e w8 ⟨A8, c8, rfl, ho8, hb8⟩
  have HO8 := Lib.hid ho8
  have B8 := Lib.hid (B7.out.trans (hb8.mono B7.out.size))
  clear ho8 hb8
  go_wp2_with fail
  go_ret
  refine ⟨A8, c8, rfl, own_lower HO8.out ?_, B1.out.trans (B8.out.mono B1.out.size)⟩
  exact Nat.le_trans B1.out.size B7.out.size
end Go.Proofs.YtljfmcgeiceagaaGreat

/- Readers over bytes that were written. -/
namespace Go.Proofs.YtljfmcgeiceagaaGreat
open Go Go.RowKit
set_option linter.unusedVariables false
set_option linter.unusedSimpArgs false

theorem ru_all (v : Nat) (t : List Nat) (h : v < 18446744073709551616) : Uv.ru 0 0 (Uv.uv v ++ t) = (v, (Uv.uv v).length, 0) := by
  have := Uv.ru_uv t v 0 0 (by simpa using h) (by omega) (fun h => absurd h (by omega))
  simpa using this
section
variable {pre b post : List Nat}
theorem take_read {n : Nat} (hb : b.length = n) : (⟨pre ++ (b ++ post), pre.length, 0, 0⟩ : Rs).take n = (b, ⟨pre ++ (b ++ post), pre.length + n, 0, 0⟩) := by
  unfold Rs.take Rs.rest Rs.go
  rw [if_neg (by simp), if_neg (by omega), if_neg (by simp; omega)]
  subst hb
  simp
theorem num_read {v : Nat} (hv : v < 18446744073709551616) : (⟨pre ++ (Uv.uv v ++ post), pre.length, 0, 0⟩ : Rs).num = (v, ⟨pre ++ (Uv.uv v ++ post), pre.length + (Uv.uv v).length, 0, 0⟩) := by
  unfold Rs.num Rs.go
  simp [ru_all v post hv]
theorem text_read {s : ByteArray} {most : Int} (hs : s.size ≤ 140737488351232) (hm : (s.size : Int) ≤ most) :
    (⟨pre ++ ((Uv.uv s.size ++ sb s) ++ post), pre.length, 0, 0⟩ : Rs).text most = (sb s, ⟨pre ++ ((Uv.uv s.size ++ sb s) ++ post), pre.length + (Uv.uv s.size ++ sb s).length, 0, 0⟩) := by
  have hn := num_read (pre := pre) (post := sb s ++ post) (v := s.size) (by omega)
  rw [← List.append_assoc (Uv.uv s.size)] at hn
  unfold Rs.text
  rw [hn]
  simp only [ne_eq, not_true_eq_false, if_false]
  rw [if_neg (by omega)]
  unfold Rs.rest Rs.go
  have hl : (sb s).length = s.size := sb_length s
  rw [if_neg (by simp only [List.length_append]; omega)]
  have e1 : pre ++ (Uv.uv s.size ++ sb s ++ post) = (pre ++ Uv.uv s.size) ++ (sb s ++ post) := by simp
  have e2 : (pre ++ Uv.uv s.size).length = pre.length + (Uv.uv s.size).length := List.length_append
  have e3 : ((pre ++ (Uv.uv s.size ++ sb s ++ post)).drop (pre.length + (Uv.uv s.size).length)).take s.size = sb s := by
    rw [e1, ← e2, List.drop_left, List.take_left' hl]
  rw [e3]
  simp only [List.length_append, hl, Nat.add_assoc]
theorem take_back {s : Rs} {n : Nat} (h0 : s.err = 0) (h : (s.take n).2.err = 0) : n ≤ s.rest ∧ s.take n = ((s.bs.drop s.p).take n, s.go n) := by
  unfold Rs.take at h ⊢
  rw [if_neg (by simpa using h0), if_neg (by omega)] at h ⊢
  by_cases hr : (s.rest : Int) < n
  · rw [if_pos hr] at h
    rw [Rs.fail, Rs.failAt_yes _ h0 (by decide)] at h
    simp at h
  · rw [if_neg hr]
    exact ⟨by omega, rfl⟩
theorem num_back {s : Rs} (hok : s.Ok) (h0 : s.err = 0) (h : s.num.2.err = 0) : s.num.1 < 18446744073709551616 ∧ (Uv.uv s.num.1).length ≤ s.rest ∧ s.num.2 = s.go (Uv.uv s.num.1).length ∧ (s.bs.drop s.p).take (Uv.uv s.num.1).length = Uv.uv s.num.1 := by
  obtain ⟨v, k, x, hr, hv, ⟨rfl, hk, hn⟩ | ⟨hx, rfl, hn⟩⟩ := Rs.num_cases hok h0
  · rw [hn]
    obtain ⟨v', a1, a2, a3, a4, _, _⟩ := Uv.ru_taken (s.bs.drop s.p) 0 0 (by_drop hok.by_ s.p) (by omega) (by omega) (by rw [hr])
    rw [hr] at a1 a2
    simp only [Nat.pow_zero, Nat.mul_one, Nat.zero_add] at a1 a2
    subst a1 a2
    simp only [List.length_drop] at a3
    exact ⟨hv, a3, rfl, a4⟩
  · rw [hn] at h
    simp only at h
    omega
end
end Go.Proofs.YtljfmcgeiceagaaGreat

/- What is wrapped, in its parts. -/
namespace Go.Proofs.YtljfmcgeiceagaaGreat
open Go Go.RowKit
set_option linter.unusedVariables false
set_option linter.unusedSimpArgs false

theorem Rs.take_ok {s : Rs} (h0 : s.err = 0) {k : Nat} (hk : k ≤ s.rest) : s.take (k : Int) = ((s.bs.drop s.p).take k, s.go k) := by
  unfold Rs.take
  rw [if_neg (by simp [h0]), if_neg (by omega), if_neg (by omega), show ((k : Int)).toNat = k by omega]
theorem split9 {b : List Nat} (h : 9 ≤ b.length) : b = [b.headD 0] ++ (b.drop 1).take 4 ++ (b.drop 5).take 4 ++ b.drop 9 := by
  cases b with
  | nil => simp at h
  | cons x r =>
    have e1 : r = r.take 4 ++ r.drop 4 := (List.take_append_drop 4 r).symm
    have e2 : r.drop 4 = (r.drop 4).take 4 ++ (r.drop 4).drop 4 := (List.take_append_drop 4 _).symm
    simp only [List.headD_cons, List.drop_succ_cons, List.drop_zero, List.cons_append, List.nil_append, List.cons.injEq, true_and, List.append_assoc]
    rw [List.drop_drop] at e2
    rw [← e2]
    exact e1
theorem wrap_parts (m : Nat) (body : List Nat) : (wrap m body).headD 0 = m ∧ ((wrap m body).drop 1).take 4 = fx body.length 4 ∧ ((wrap m body).drop 5).take 4 = fx (crcOf body) 4 ∧ (wrap m body).drop 9 = body := by
  have h1 := fx_length 4 body.length
  have h2 := fx_length 4 (crcOf body)
  unfold wrap
  refine ⟨by simp, ?_, ?_, ?_⟩
  · simp only [List.cons_append, List.nil_append, List.append_assoc, List.drop_succ_cons, List.drop_zero]
    rw [List.take_left' h1]
  · simp only [List.cons_append, List.nil_append, List.append_assoc, List.drop_succ_cons]
    rw [List.drop_left' h1, List.take_left' h2]
  · simp only [List.cons_append, List.nil_append, List.append_assoc, List.drop_succ_cons]
    rw [← List.append_assoc, List.drop_left' (by rw [List.length_append, h1, h2])]
end Go.Proofs.YtljfmcgeiceagaaGreat

/- Parts of rows; readers that have gone on. -/
namespace Go.Proofs.YtljfmcgeiceagaaGreat
open Go Go.RowKit
set_option linter.unusedVariables false
set_option linter.unusedSimpArgs false

theorem rd_seg {w : World} {g off p k : Nat} {bs : List Nat} (h : Rd w (some ⟨g, off, none⟩) (b8 bs)) : Rd w (some ⟨g, off + p, none⟩) (b8 ((bs.drop p).take k)) := by
  intro hne
  have hb : b8 bs ≠ [] := by
    rintro e
    have : bs = [] := by simpa [b8] using e
    subst this
    simp [b8] at hne
  obtain ⟨g', off', e, hg, hc⟩ := h hb
  injection e with e
  injection e with e1 e2 e3
  subst e1 e2
  refine ⟨g, off + p, rfl, hg, fun j u hu => ?_⟩
  have hj : j < k := by
    have := (List.getElem?_eq_some_iff.1 hu).1
    simp [b8] at this
    omega
  have hu2 : (b8 bs)[p + j]? = some u := by
    rw [b8_get] at hu ⊢
    rw [List.getElem?_take, if_pos hj, List.getElem?_drop] at hu
    exact hu
  have := hc _ _ hu2
  rw [Nat.add_assoc]
  exact this
theorem rd_rest {w : World} {g off p : Nat} {bs : List Nat} (h : Rd w (some ⟨g, off, none⟩) (b8 bs)) : Rd w (some ⟨g, off + p, none⟩) (b8 (bs.drop p)) := by
  have := rd_seg (p := p) (k := bs.length) h
  rw [List.take_of_length_le (by simp)] at this
  exact this
theorem Rd.some_ {w : World} {A : Option Addr} {bs : List Nat} (h : Rd w A (b8 bs)) (hn : 0 < bs.length) : ∃ g off, A = some ⟨g, off, none⟩ ∧ g < w.heap.size ∧ w.cell? ⟨g, off, none⟩ = some (.int .u8 (bs.headD 0 : Nat)) := by
  obtain ⟨g, off, e, hg, hc⟩ := h (by rintro e; have : bs = [] := (by simpa [b8] using e); subst this; simp at hn)
  refine ⟨g, off, e, hg, ?_⟩
  cases bs with
  | nil => simp at hn
  | cons x r =>
    have := hc 0 (.int .u8 (x : Int)) (by simp [b8])
    simpa using this
theorem Turned.low {base : Nat} {W W' : World} {T : TypeId} {cf : Rs → Value → Array Value} {g : Nat} {v : Value} {s : Rs} (h : Turned base W T cf g v s W') (hb : base ≤ W.heap.size) : Below base W W' :=
  h.kept.below (fun q hq => by subst hq; exact h.rd.gb) hb
theorem take_all {seg : List Nat} {k : Nat} (h : seg.length = k) : ((⟨seg, 0, 0, 0⟩ : Rs).take (k : Int)).1 = seg := by
  simp [Rs.take, Rs.rest, h]
  rw [← h]
  simp
  rw [if_neg (by omega)]
end Go.Proofs.YtljfmcgeiceagaaGreat
