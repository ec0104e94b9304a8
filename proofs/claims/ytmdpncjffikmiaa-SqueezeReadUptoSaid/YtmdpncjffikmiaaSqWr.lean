/- Write, both; the document's Number. -/
import Derived.Test.YtmdpncjffikmiaaSqBlk
import Derived.Test.YtmdpncjffikmiaaSqRExp
namespace Go.Proofs.Ytmdpncjffikmiaa
open Go Go.RowKit
set_option linter.unusedVariables false
set_option linter.unusedSimpArgs false

theorem wr_ok {ts : List Tk} {T : List Nat} (h : exp [] ts = (T, 0)) : wr ts = (blk T.length ts, 0) := by unfold wr; rw [h]; rfl
theorem wr_bad {ts : List Tk} {T : List Nat} {z : Int} (h : exp [] ts = (T, z)) (hz : z ≠ 0) : wr ts = ([], z) := by unfold wr; rw [h]; simp [hz]
theorem exp_code : ∀ (ts : List Tk) (text : List Nat), (exp text ts).2 = 0 ∨ (exp text ts).2 = 2 ∨ (exp text ts).2 = 21
  | [], text => .inl rfl
  | t :: r, text => by
    unfold exp
    split
    · split
      · exact .inr (.inl rfl)
      · exact exp_code r _
    · exact .inr (.inr rfl)

section
variable (A : Option Addr) (n c : Nat) (l : List TkV) (w : World) (hr : Rd w A (tkCells l)) (hn : l.length = n) (hok : ∀ x ∈ l, x.Ok w) (hl : n ≤ 4000000000000)
include hr hn hok hl

set_option maxHeartbeats 1000000 in
set_option maxRecDepth 100000 in
theorem write_is : Calls Try.prog 24 #[.slice A n c] w (Ans8 w (wr (toks l))) := by
  have PE := Lib.hid (expand_is A n c l w hr hn hok hl)
  have PB := Lib.hid (fun m W (h : Below w.heap.size w W) (hm : m ≤ 4096) (hf : ∀ x ∈ l, Fine x.tk) (h2 : n ≤ 4096) => block_is m A n c l W hm (hr.below h) hn (fun x hx => (hok x hx).below h) hf h2)
  have HC := Lib.hid (exp_code (toks l) [])
  have HL := Lib.hid (exp_len (toks l) [] (by simp))
  obtain ⟨q, hq⟩ : ∃ q, q = exp [] (toks l) := ⟨_, rfl⟩
  have HQ := Lib.hid hq.symm
  rw [← hq] at PE HC HL
  obtain ⟨T, z⟩ := q
  simp only at HC HL
  clear hq
  by_cases hz : z = 0
  · subst hz
    have HW := Lib.hid (wr_ok HQ.out)
    have hf := fine_of_exp HQ.out
    have hT : T.length ≤ 4096 := HL.out
    have hn4 : n ≤ 4096 := by have h := hf.2; simp only [toks, List.length_map, List.length_nil] at h; omega
    have HF : Hid (∀ x ∈ l, Fine x.tk) := Lib.hid (fun x hx => hf.1 _ (List.mem_map.2 ⟨x, hx, rfl⟩))
    clear hf hr hn hok
    go_enter Try.func24, Try.ntmps24
    go_wp2_with (first
      | (go_at_call 18; refine PE.out.mono ?_; rintro e w1 ⟨A1, c1, rfl, ho1, hb1⟩; have HB1 := Lib.hid hb1; clear ho1 hb1)
      | (go_at_call 51; refine (PB.out _ _ HB1.out hT HF.out hn4).mono ?_; rintro e w2 ⟨A2, c2, rfl, ho2, hb2⟩; have HO2 := Lib.hid ho2; have HB2 := Lib.hid hb2; clear ho2 hb2))
    go_ret2
    rw [HW.out]
    exact ⟨A2, c2, rfl, own_mono HO2.out HB1.out.size, HB1.out.trans (HB2.out.mono HB1.out.size)⟩
  · have HW := Lib.hid (wr_bad HQ.out hz)
    clear hr hn hok
    go_enter Try.func24, Try.ntmps24
    go_wp2_with (first
      | (go_at_call 18; refine PE.out.mono ?_; rintro e w1 ⟨A1, c1, rfl, ho1, hb1⟩; have HB1 := Lib.hid hb1; clear ho1 hb1))
    go_ret2
    exact ans8_none _ _ _ _ HW.out HB1.out
end

set_option maxHeartbeats 1000000 in
set_option maxRecDepth 100000 in
theorem number_any (v : Nat) (w : World) (hv : v < 1000000) :
    Calls Try.prog 50 #[.int .i64 (v : Int)] w fun e w' => Got8 w w' e (Uv.uv v) := by
  obtain ⟨i0, hi, hz0, hz1, hz2⟩ := info_parts info8
  go_enter Try.func50, Try.ntmps50
  go_wp2
  go_loopw [0, 3] (fun x b wr => ∃ (u : Nat) (bs : List Nat), u ≤ v ∧ x = .int .i64 (u : Int) ∧ wr.ownsRow w.heap.size 5 1 b bs.length (b8 bs) ∧ Below w.heap.size w wr ∧ Hid (bs ++ Uv.uv u = Uv.uv v))
    (fun x _ _ => (intOf x).toNat)
  case atStart => exact ⟨v, [], Nat.le_refl _, rfl, World.ownsRow_nil _ _ _ _, Below.refl _ _, by simp [Hid]⟩
  case round =>
    obtain ⟨u, bs, hu, rfl, hown, hbel, H⟩ := hrel
    have hlen : bs.length ≤ 10 := by
      have h1 := Uv.uv_len_64 v (by omega)
      rw [← H.out] at h1
      simp at h1
      omega
    have hsz := hbel.size
    by_cases hlt : u < 128
    · go_wp2_with (at_builtin; (refine wpList_push wr rfl _ _ 23 rfl w.heap.size 5 i0 (.int .u8 0) 1 Try.underlying23 hi hz0 hz1 hz2 rfl u3 bs.length (b8 bs) rfl hown (.int .u8 (u : Int)) rfl rfl (by omega) (by unfold maxLen; omega) hsz ?_); intro v' w1 hown' hgrow _)
      go_ret
      have e : bs ++ [u] = Uv.uv v := by rw [← H.out, Uv.uv_small hlt]
      exact got8_mk hown' (by rw [← e]; simp) (by rw [← e, b8_append]; rfl) (hbel.trans (below_of_grown hgrow hsz (fun k hk => (hown.lt k hk).1)))
    · go_wp2_with (at_builtin; (refine wpList_push wr rfl _ _ 23 rfl w.heap.size 5 i0 (.int .u8 0) 1 Try.underlying23 hi hz0 hz1 hz2 rfl u3 bs.length (b8 bs) rfl hown (.int .u8 ((u : Int) % 128 + 128)) rfl rfl (by omega) (by unfold maxLen; omega) hsz ?_); intro v' w1 hown' hgrow _)
      have hbel' := hbel.trans (below_of_grown hgrow hsz (fun k hk => (hown.lt k hk).1))
      clear hown hbel hgrow
      go_wp2
      go_roundw
      case rel => exact ⟨u / 128, bs ++ [u % 128 + 128], by omega, by go_num, by simpa [b8] using hown', hbel', by rw [← H.out, Uv.uv_big (v := u) (by omega)]; simp [Hid]⟩
      case measure => simp [intOf]; omega
end Go.Proofs.Ytmdpncjffikmiaa
