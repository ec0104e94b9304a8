/- Expand: the text of tokens. -/
import Derived.Test.YtmdpncjffikmiaaSqExp2
namespace Go.Proofs.Ytmdpncjffikmiaa
open Go Go.RowKit
set_option linter.unusedVariables false
set_option linter.unusedSimpArgs false

/-- Bytes in new memory, and a code. -/
def Ans8 (w : World) (q : List Nat × Int) (e : Ending) (w' : World) : Prop :=
  ∃ A c, e = .returned (.tuple #[.slice A q.1.length c, .int .i64 q.2]) ∧ w'.ownsRow w.heap.size 5 1 (.slice A q.1.length c) q.1.length (b8 q.1) ∧ Below w.heap.size w w'
theorem ans8_none (w W : World) (q : List Nat × Int) (z : Int) (hq : q = ([], z)) (hb : Below w.heap.size w W) : Ans8 w q (.returned (.tuple #[.slice none 0 0, .int .i64 z])) W := by
  subst hq
  exact ⟨none, 0, rfl, World.ownsRow_nil _ _ _ _, hb⟩
theorem ans8_some (w W : World) (q : List Nat × Int) (xs : List Nat) (v : Value) (N : Nat) (z : Int) (hq : q = (xs, z)) (hN : N = xs.length) (hown : W.ownsRow w.heap.size 5 1 v N (b8 xs)) (hb : Below w.heap.size w W) : Ans8 w q (.returned (.tuple #[v, .int .i64 z])) W := by
  subst hq hN
  obtain ⟨A, c, rfl, h⟩ := own8_of hown
  exact ⟨A, c, rfl, h, hb⟩

theorem exp_bad {T : List Nat} {t : Tk} {r : List Tk} (h : rt t T.length = false) : exp T (t :: r) = ([], 21) := by rw [exp, if_neg (by simp [h])]
theorem exp_long {T : List Nat} {t : Tk} {r : List Tk} (h : rt t T.length = true) (h2 : 4096 < T.length + t.lit.length + t.l.toNat) : exp T (t :: r) = ([], 2) := by rw [exp, if_pos h, if_pos h2]
theorem exp_next {T : List Nat} {t : Tk} {r : List Tk} (h : rt t T.length = true) (h2 : ¬ 4096 < T.length + t.lit.length + t.l.toNat) : exp T (t :: r) = exp (addTk T t) r := by rw [exp, if_pos h, if_neg h2]

section
variable (A : Option Addr) (n c : Nat) (l : List TkV) (w : World) (hr : Rd w A (tkCells l)) (hn : l.length = n) (hok : ∀ x ∈ l, x.Ok w) (hl : n ≤ 4000000000000)
include hr hn hok hl

set_option maxHeartbeats 1000000 in
set_option maxRecDepth 100000 in
theorem expand_is : Calls Try.prog 18 #[.slice A n c] w (Ans8 w (exp [] (toks l))) := by
  have HN := Lib.hid hn
  have HR := Lib.hid hr
  have HOK := Lib.hid hok
  have HS0 : Hid (exp [] (toks l) = exp [] ((toks l).drop 0)) := Lib.hid (by rw [List.drop_zero])
  have HE0 : Hid (exp [] ((toks l).drop n) = exp [] ((toks l).drop n)) := Lib.hid rfl
  obtain ⟨q, hq⟩ : ∃ q, q = exp [] (toks l) := ⟨_, rfl⟩
  rw [← hq] at HS0 ⊢
  clear hq hr hn hok HE0
  go_enter Try.func18, Try.ntmps18
  go_wp2
  go_loopw [4, 9] (fun v i wr => ∃ (k N : Nat) (T : List Nat) (vi : Value), k ≤ n ∧ N ≤ 4096 ∧ i = .int .i64 k ∧ v = vi ∧ Hid (N = T.length) ∧ Hid (wr.ownsRow w.heap.size 5 1 vi N (b8 T)) ∧ Hid (q = exp T ((toks l).drop k)) ∧ Hid (Below w.heap.size w wr)) (fun _ i _ => n - (intOf i).toNat)
  case atStart => exact ⟨0, 0, [], _, Nat.zero_le _, by omega, rfl, rfl, Lib.hid rfl, Lib.hid (World.ownsRow_nil _ _ _ _), HS0, Lib.hid (Below.refl _ _)⟩
  case round =>
    obtain ⟨k, N, T, vi, hk, hN4, rfl, rfl, HT, HO, HQ, HB⟩ := hrel
    have hsz := HB.out.size
    obtain ⟨A9, c9, rfl, _⟩ := own_shape HO.out
    by_cases hlt : k < n
    · obtain ⟨x, hx⟩ : ∃ x, l[k]? = some x := ⟨_, List.getElem?_eq_getElem (by rw [HN.out]; exact hlt)⟩
      have HXO := Lib.hid (HOK.out x (List.mem_of_getElem? hx))
      obtain ⟨g, off, rfl, hg, hc0, hc1, hc2⟩ := HR.out.tok hx
      have HST : Hid (exp T ((toks l).drop k) = exp T (x.tk :: (toks l).drop (k + 1))) := Lib.hid (exp_drop (toks_get hx) T)
      replace hc0 := (HB.out.cell (p := ⟨g, off + k * 3, none⟩) hg).trans hc0
      replace hc1 := (HB.out.cell (p := ⟨g, off + k * 3 + 1, none⟩) hg).trans hc1
      replace hc2 := (HB.out.cell (p := ⟨g, off + k * 3 + 2, none⟩) hg).trans hc2
      have hd64 := HXO.out.d64
      have hl64 := HXO.out.l64
      have hsz8 := HXO.out.sz
      have PR := Lib.hid (fun W => right_is x N W (by omega) hd64 hl64 hsz8)
      have PA := Lib.hid (fun W h1 h2 h3 h4 h5 => added_is w.heap.size (.slice A9 N c9) T x w W (Nat.le_refl _) h1 h2 HXO.out h3 h4 h5)
      have HB0 := Lib.hid (Bt.new wr x)
      have HL : Hid (N = T.length → rt x.tk N = rt x.tk T.length) := Lib.hid (fun h => by rw [h])
      obtain ⟨xA, xc, lit, d, ll⟩ := x
      simp only at hc0 hc1 hc2 hd64 hl64 hsz8
      unfold TkV.val at PR PA
      simp only at PR PA
      obtain ⟨b, hb⟩ : ∃ b, b = rt (TkV.tk ⟨xA, xc, lit, d, ll⟩) N := ⟨_, rfl⟩
      rw [← hb] at PR
      have HBV := Lib.hid hb
      clear hb hx
      rcases b with _ | _
      · have HV := Lib.hid (exp_bad (r := (toks l).drop (k + 1)) ((HL.out HT.out).symm.trans HBV.out.symm))
        go_wp2_with (go_at_call 47; refine (PR.out _).mono ?_; rintro e w1 ⟨rfl, hb1⟩; have HB1 := Lib.hid hb1; clear hb1)
        go_ret2
        exact ans8_none _ _ _ _ (HQ.out.trans (HST.out.trans HV.out)) (HB.out.trans (((Below.refl _ _).alloc (by omega) _).trans (HB1.out.mono (by simp; omega))))
      · have hL : 0 ≤ ll ∧ ll ≤ 258 := by
          rcases rt_cases HBV.out.symm with h | h
          · have h2 : ll = 0 := h.2.2
            omega
          · have h2 : 5 ≤ ll := h.2.1
            exact ⟨by omega, h.2.2.1⟩
        have hrt : rt (TkV.tk ⟨xA, xc, lit, d, ll⟩) T.length = true := ((HL.out HT.out).symm.trans HBV.out.symm)
        by_cases hlong : (4096 : Int) < (N : Int) + (lit.length : Int) + ll
        · have HV := Lib.hid (exp_long (r := (toks l).drop (k + 1)) hrt (by have := HT.out; show 4096 < T.length + lit.length + ll.toNat; omega))
          clear hrt
          go_wp2_with (go_at_call 47; refine (PR.out _).mono ?_; rintro e w1 ⟨rfl, hb1⟩; have HB1 := Lib.hid hb1; obtain ⟨b0, b1, b2⟩ := (HB0.out.below hb1 (by simp)).facts; simp only at b0 b1 b2; clear hb1)
          go_ret2
          exact ans8_none _ _ _ _ (HQ.out.trans (HST.out.trans HV.out)) (HB.out.trans (((Below.refl _ _).alloc (by omega) _).trans (HB1.out.mono (by simp; omega))))
        · have HV := Lib.hid (exp_next (r := (toks l).drop (k + 1)) hrt (by have := HT.out; show ¬ 4096 < T.length + lit.length + ll.toNat; omega))
          have HRT := Lib.hid hrt
          have HLE : Hid (T.length + lit.length + ll.toNat ≤ 4096) := Lib.hid (by have := HT.out; omega)
          have HLN : Hid ((addTk T (TkV.tk ⟨xA, xc, lit, d, ll⟩)).length ≤ 4096) := Lib.hid (by rw [addTk_length]; exact HLE.out)
          have HOT : Hid (wr.ownsRow w.heap.size 5 1 (.slice A9 N c9) T.length (b8 T)) := Lib.hid (by rw [← HT.out]; exact HO.out)
          clear hrt
          go_wp2_with (first
            | (go_at_call 47; refine (PR.out _).mono ?_; rintro e w1 ⟨rfl, hb1⟩; have HB1 := Lib.hid hb1; obtain ⟨b0, b1, b2⟩ := (HB0.out.below hb1 (by simp)).facts; simp only at b0 b1 b2; clear hb1)
            | (go_at_call 48; go_loud (have hs1 := HB1.out.size; simp only [World.size_alloc] at hs1; refine (PA.out _ (HB.out.trans (((Below.refl _ _).alloc (by omega) _).trans (HB1.out.mono (by simp; omega)))) (by omega) (own_below (HOT.out.alloc _) HB1.out) HRT.out HLE.out).mono ?_; rintro e w2 ⟨v2, rfl, hown2, hb2⟩; have HO2 := Lib.hid hown2; have HB2 := Lib.hid hb2; clear hown2 hb2)))
          go_roundw
          case rel => exact ⟨k + 1, _, _, _, by omega, HLN.out, by go_num, rfl, Lib.hid rfl, HO2, Lib.hid (HQ.out.trans (HST.out.trans HV.out)), Lib.hid ((HB.out.trans (((Below.refl _ _).alloc (by omega) _).trans (HB1.out.mono (by simp; omega)))).trans HB2.out)⟩
          case measure => simp [intOf]; omega
    · have hkn : k = n := by omega
      have HF : Hid (q = (T, 0)) := Lib.hid (by rw [HQ.out, List.drop_of_length_le (by simp [toks, HN.out]; omega)]; rfl)
      clear hk hlt
      go_wp2_with fail
      go_ret2
      exact ans8_some _ _ _ T _ _ _ HF.out HT.out HO.out HB.out
end
end Go.Proofs.Ytmdpncjffikmiaa
