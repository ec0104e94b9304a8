/- The document's readers: Text. (Printed by gen_rrdr5.py.) -/
import Derived.Test.YtfgjlplfpjfnoaaRRdr4
import Derived.StillTailTactics
namespace Go.Proofs.Ytfgjlplfpjfnoaa
open Go Go.RowKit
set_option linter.unusedVariables false
set_option linter.unusedSimpArgs false

theorem at_world {P : Program} {C : Code} {Q : Exit → Act → World → Prop} {a : Act} {w : World} (F : World → Prop) (hF : F w) (h : ∀ W, F W → Code.wp P C Q a W) : Code.wp P C Q a w := h w hF
theorem ru_nil_no {z k : Nat} (h : Uv.ru 0 0 [] = (z, k, 0)) : False := by simp [Uv.ru] at h
set_option maxRecDepth 100000 in
theorem rtext_bad (base g : Nat) (v : Value) (s : Rs) (most : Int) (w : World) (h : Rdr base w 113 Rs.rcells g v s) (h0 : s.err ≠ 0) :
    Calls Try.prog 100 #[.pointer (some ⟨g, 0, none⟩), .int .i64 most] w (Gave base w 113 Rs.rcells g v (.string ⟨#[]⟩) s) := by
  obtain ⟨c0, c1, c2, c3, f1, f2, f3⟩ := h.rf
  have hlt := h.lt
  have hb : (s.err != 0) = true := by simpa using h0
  have HH := Lib.hid h
  clear h
  go_enter Try.func100, Try.ntmps100
  go_wp2
  go_ret
  exact ⟨rfl, HH.out.turned⟩
set_option maxRecDepth 100000 in
theorem rtext_rnone (most : Int) (w : World) :
    Calls Try.prog 100 #[.pointer none, .int .i64 most] w fun r w' => r = .returned (.string ⟨#[]⟩) ∧ w = w' := by
  go_enter Try.func100, Try.ntmps100
  go_wp2
  go_ret
  exact ⟨rfl, rfl⟩


set_option maxHeartbeats 400000 in
set_option maxRecDepth 100000 in
theorem rtext_no_nil (base g : Nat) (s : Rs) (z k x : Nat) (most : Int) (w : World) (h : Rdr base w 113 Rs.rcells g (.slice none 0 0) s) (h0 : s.err = 0) (hbs : s.bs = []) (hp0 : s.p = 0) (hx : x = 10 ∨ x = 11) (hru : Uv.ru 0 0 (s.bs.drop s.p) = (0, k, x))  :
    Calls Try.prog 100 #[.pointer (some ⟨g, 0, none⟩), .int .i64 most] w (Gave base w 113 Rs.rcells g (.slice none 0 0) (.string ⟨#[]⟩) (s.fail (x : Int))) := by
  obtain ⟨c0, c1, c2, c3, f1, f2, f3⟩ := h.rf
  have hlt := h.lt
  have hle := h.ok.le
  have hsz := h.ok.sz
  have hrd : Rd w none (b8 (s.bs.drop s.p)) := (by rw [hbs, List.drop_nil]; exact Rd.nil_ _ _)
  have hdl : (s.bs.drop s.p).length = s.bs.length - s.p := by simp
  have PR := Lib.hid (fun W N C (hW : Below w.heap.size w W) (hN : (s.bs.drop s.p).length = N) (hN2 : N ≤ 140737488355328) => rreadUvarint_is none N C (s.bs.drop s.p) W 0 k x (hrd.below hW) (by_drop h.ok.by_ _) hN hN2 hru)
  have PF := Lib.hid (fun m (e : Int) (he : -9223372036854775808 ≤ e ∧ e ≤ 9223372036854775807) => rfail_is base g _ s e (w.drewN m) (h.drew m) he)
  unfold RStep0 at PF
  rw [h0] at c2
  have HH := Lib.hid h
  have HDL := Lib.hid hdl
  have hn0 : s.bs.length = 0 := by rw [hbs]; rfl
  rw [hn0] at hle hsz HDL
  have HP0 := Lib.hid hp0
  rw [hp0] at c1
  clear h hrd hdl hru hle hsz
  go_enter Try.func100, Try.ntmps100
  go_wp2
  go_quiet ((go_at_call 24; refine (PR.out _ _ _ (below_drewN (Below.refl _ _) _) (by have := HDL.out; omega) (by omega)).mono ?_; rintro r w1 ⟨rfl, rfl⟩; exact ⟨rfl, _, rfl⟩))
  have hxe : ((x : Int) == 0) = false := by rw [beq_eq_false_iff_ne]; omega
  have hxn : ((x : Int) != 0) = true := by rw [bne_iff_ne]; omega
  go_wp2
  go_quiet (fail)
  go_wp2_with (go_at_call 104; refine (PF.out _ _ (by omega)).mono ?_; rintro r w1 ⟨rfl, ht⟩; have HT := Lib.hid ht; clear ht)
  go_ret
  exact ⟨rfl, HT.out.of_drew⟩

set_option maxHeartbeats 400000 in
set_option maxRecDepth 100000 in
theorem rtext_no_end (base g : Nat) (q n c : Nat) (s : Rs) (z k x : Nat) (most : Int) (w : World) (h : Rdr base w 113 Rs.rcells g (.slice (some ⟨q, 0, none⟩) n c) s) (h0 : s.err = 0) (hn : n = s.bs.length) (hnc : n ≤ c) (hcp : c = s.p) (hx : x = 10 ∨ x = 11) (hru : Uv.ru 0 0 (s.bs.drop s.p) = (0, k, x))  :
    Calls Try.prog 100 #[.pointer (some ⟨g, 0, none⟩), .int .i64 most] w (Gave base w 113 Rs.rcells g (.slice (some ⟨q, 0, none⟩) n c) (.string ⟨#[]⟩) (s.fail (x : Int))) := by
  obtain ⟨c0, c1, c2, c3, f1, f2, f3⟩ := h.rf
  have hlt := h.lt
  have hle := h.ok.le
  have hsz := h.ok.sz
  have hrd : Rd w (some ⟨q, 0, none⟩) (b8 (s.bs.drop s.p)) := (by rw [List.drop_eq_nil_of_le (by omega)]; exact Rd.nil_ _ _)
  have hdl : (s.bs.drop s.p).length = s.bs.length - s.p := by simp
  have PR := Lib.hid (fun W N C (hW : Below w.heap.size w W) (hN : (s.bs.drop s.p).length = N) (hN2 : N ≤ 140737488355328) => rreadUvarint_is (some ⟨q, 0, none⟩) N C (s.bs.drop s.p) W 0 k x (hrd.below hW) (by_drop h.ok.by_ _) hN hN2 hru)
  have PF := Lib.hid (fun m (e : Int) (he : -9223372036854775808 ≤ e ∧ e ≤ 9223372036854775807) => rfail_is base g _ s e (w.drewN m) (h.drew m) he)
  unfold RStep0 at PF
  rw [h0] at c2
  have HH := Lib.hid h
  have HDL := Lib.hid hdl
  rw [← hn] at hle hsz HDL
  obtain ⟨pp, hpp⟩ : ∃ pp, pp = s.p := ⟨_, rfl⟩
  rw [← hpp] at c1 hle HDL hcp PR
  have HPP := Lib.hid hpp
  subst hcp
  have hnp : n = c := by omega
  subst hnp
  clear h hrd hdl hru hpp hn
  go_enter Try.func100, Try.ntmps100
  go_wp2
  go_quiet ((go_at_call 24; refine (PR.out _ _ _ (below_drewN (Below.refl _ _) _) (by have := HDL.out; omega) (by omega)).mono ?_; rintro r w1 ⟨rfl, rfl⟩; exact ⟨rfl, _, rfl⟩))
  have hxe : ((x : Int) == 0) = false := by rw [beq_eq_false_iff_ne]; omega
  have hxn : ((x : Int) != 0) = true := by rw [bne_iff_ne]; omega
  go_wp2
  go_quiet (fail)
  go_wp2_with (go_at_call 104; refine (PF.out _ _ (by omega)).mono ?_; rintro r w1 ⟨rfl, ht⟩; have HT := Lib.hid ht; clear ht)
  go_ret
  exact ⟨rfl, HT.out.of_drew⟩

set_option maxHeartbeats 400000 in
set_option maxRecDepth 100000 in
theorem rtext_no_in (base g : Nat) (q n c : Nat) (s : Rs) (z k x : Nat) (most : Int) (w : World) (h : Rdr base w 113 Rs.rcells g (.slice (some ⟨q, 0, none⟩) n c) s) (h0 : s.err = 0) (hn : n = s.bs.length) (hnc : n ≤ c) (hcp : s.p < c) (hx : x = 10 ∨ x = 11) (hru : Uv.ru 0 0 (s.bs.drop s.p) = (0, k, x))  :
    Calls Try.prog 100 #[.pointer (some ⟨g, 0, none⟩), .int .i64 most] w (Gave base w 113 Rs.rcells g (.slice (some ⟨q, 0, none⟩) n c) (.string ⟨#[]⟩) (s.fail (x : Int))) := by
  obtain ⟨c0, c1, c2, c3, f1, f2, f3⟩ := h.rf
  have hlt := h.lt
  have hle := h.ok.le
  have hsz := h.ok.sz
  have hrd : Rd w (some ⟨q, s.p, none⟩) (b8 (s.bs.drop s.p)) := (by have h9 := h.own; rw [← hn] at h9; exact rd_tail (A := some ⟨q, 0, none⟩) (rd_own h9) rfl)
  have hdl : (s.bs.drop s.p).length = s.bs.length - s.p := by simp
  have PR := Lib.hid (fun W N C (hW : Below w.heap.size w W) (hN : (s.bs.drop s.p).length = N) (hN2 : N ≤ 140737488355328) => rreadUvarint_is (some ⟨q, s.p, none⟩) N C (s.bs.drop s.p) W 0 k x (hrd.below hW) (by_drop h.ok.by_ _) hN hN2 hru)
  have PF := Lib.hid (fun m (e : Int) (he : -9223372036854775808 ≤ e ∧ e ≤ 9223372036854775807) => rfail_is base g _ s e (w.drewN m) (h.drew m) he)
  unfold RStep0 at PF
  rw [h0] at c2
  have HH := Lib.hid h
  have HDL := Lib.hid hdl
  rw [← hn] at hle hsz HDL
  obtain ⟨pp, hpp⟩ : ∃ pp, pp = s.p := ⟨_, rfl⟩
  rw [← hpp] at c1 hle HDL hcp PR
  have HPP := Lib.hid hpp
  have HNN := Lib.hid hn
  clear h hrd hdl hru hpp hn
  go_enter Try.func100, Try.ntmps100
  go_wp2
  go_quiet ((go_at_call 24; refine (PR.out _ _ _ (below_drewN (Below.refl _ _) _) (by have := HDL.out; omega) (by omega)).mono ?_; rintro r w1 ⟨rfl, rfl⟩; exact ⟨rfl, _, rfl⟩))
  have hxe : ((x : Int) == 0) = false := by rw [beq_eq_false_iff_ne]; omega
  have hxn : ((x : Int) != 0) = true := by rw [bne_iff_ne]; omega
  go_wp2
  go_quiet (fail)
  go_wp2_with (go_at_call 104; refine (PF.out _ _ (by omega)).mono ?_; rintro r w1 ⟨rfl, ht⟩; have HT := Lib.hid ht; clear ht)
  go_ret
  exact ⟨rfl, HT.out.of_drew⟩

set_option maxHeartbeats 400000 in
set_option maxRecDepth 100000 in
theorem rtext_long (base g : Nat) (q n c : Nat) (s : Rs) (z k x : Nat) (most : Int) (w : World) (h : Rdr base w 113 Rs.rcells g (.slice (some ⟨q, 0, none⟩) n c) s) (h0 : s.err = 0) (hn : n = s.bs.length) (hnc : n ≤ c) (hcp : s.p < c) (hk : s.p + k ≤ s.bs.length) (hru : Uv.ru 0 0 (s.bs.drop s.p) = (z, k, 0)) (hz64 : z < 18446744073709551616) (hm64 : most ≤ 9223372036854775807) (hz : max most 0 < (z : Int)) :
    Calls Try.prog 100 #[.pointer (some ⟨g, 0, none⟩), .int .i64 most] w (Gave base w 113 Rs.rcells g (.slice (some ⟨q, 0, none⟩) n c) (.string ⟨#[]⟩) (s.fail 14)) := by
  obtain ⟨c0, c1, c2, c3, f1, f2, f3⟩ := h.rf
  have hlt := h.lt
  have hle := h.ok.le
  have hsz := h.ok.sz
  have hrd : Rd w (some ⟨q, s.p, none⟩) (b8 (s.bs.drop s.p)) := (by have h9 := h.own; rw [← hn] at h9; exact rd_tail (A := some ⟨q, 0, none⟩) (rd_own h9) rfl)
  have hdl : (s.bs.drop s.p).length = s.bs.length - s.p := by simp
  have PR := Lib.hid (fun W N C (hW : Below w.heap.size w W) (hN : (s.bs.drop s.p).length = N) (hN2 : N ≤ 140737488355328) => rreadUvarint_is (some ⟨q, s.p, none⟩) N C (s.bs.drop s.p) W z k 0 (hrd.below hW) (by_drop h.ok.by_ _) hN hN2 hru)
  have PF := Lib.hid (fun m (e : Int) (he : -9223372036854775808 ≤ e ∧ e ≤ 9223372036854775807) => rfail_is base g _ s e (w.drewN m) (h.drew m) he)
  unfold RStep0 at PF
  rw [h0] at c2
  have HH := Lib.hid h
  have HDL := Lib.hid hdl
  have HK := Lib.hid hk
  rw [← hn] at hle hsz HDL hk
  obtain ⟨pp, hpp⟩ : ∃ pp, pp = s.p := ⟨_, rfl⟩
  rw [← hpp] at c1 hle HDL hcp PR hk
  have HPP := Lib.hid hpp
  have HNN := Lib.hid hn
  clear h hrd hdl hru hpp hn
  go_enter Try.func100, Try.ntmps100
  go_wp2
  go_quiet ((go_at_call 24; refine (PR.out _ _ _ (below_drewN (Below.refl _ _) _) (by have := HDL.out; omega) (by omega)).mono ?_; rintro r w1 ⟨rfl, rfl⟩; exact ⟨rfl, _, rfl⟩))
  by_cases hm : most < 0
  · have hz' : 0 < z := by omega
    clear hz
    go_wp2
    all_goals (try (exfalso; omega))
    go_quiet (fail)
    go_wp2_with (go_at_call 104; refine (PF.out _ _ (by omega)).mono ?_; rintro r w1 ⟨rfl, ht⟩; have HT := Lib.hid ht; clear ht)
    go_ret
    exact ⟨rfl, HT.out.of_drew⟩
  · have hz' : most < (z : Int) := by omega
    clear hz
    go_wp2
    all_goals (try (exfalso; omega))
    go_quiet (fail)
    go_wp2_with (go_at_call 104; refine (PF.out _ _ (by omega)).mono ?_; rintro r w1 ⟨rfl, ht⟩; have HT := Lib.hid ht; clear ht)
    go_ret
    exact ⟨rfl, HT.out.of_drew⟩

set_option maxHeartbeats 400000 in
set_option maxRecDepth 100000 in
theorem rtext_short (base g : Nat) (q n c : Nat) (s : Rs) (z k x : Nat) (most : Int) (w : World) (h : Rdr base w 113 Rs.rcells g (.slice (some ⟨q, 0, none⟩) n c) s) (h0 : s.err = 0) (hn : n = s.bs.length) (hnc : n ≤ c) (hcp : s.p < c) (hk : s.p + k ≤ s.bs.length) (hru : Uv.ru 0 0 (s.bs.drop s.p) = (z, k, 0)) (hz64 : z < 18446744073709551616) (hm64 : most ≤ 9223372036854775807) (hz : (z : Int) ≤ max most 0) (hr : s.bs.length < s.p + k + z) :
    Calls Try.prog 100 #[.pointer (some ⟨g, 0, none⟩), .int .i64 most] w (Gave base w 113 Rs.rcells g (.slice (some ⟨q, 0, none⟩) n c) (.string ⟨#[]⟩) (s.fail 10)) := by
  obtain ⟨c0, c1, c2, c3, f1, f2, f3⟩ := h.rf
  have hlt := h.lt
  have hle := h.ok.le
  have hsz := h.ok.sz
  have hrd : Rd w (some ⟨q, s.p, none⟩) (b8 (s.bs.drop s.p)) := (by have h9 := h.own; rw [← hn] at h9; exact rd_tail (A := some ⟨q, 0, none⟩) (rd_own h9) rfl)
  have hdl : (s.bs.drop s.p).length = s.bs.length - s.p := by simp
  have PR := Lib.hid (fun W N C (hW : Below w.heap.size w W) (hN : (s.bs.drop s.p).length = N) (hN2 : N ≤ 140737488355328) => rreadUvarint_is (some ⟨q, s.p, none⟩) N C (s.bs.drop s.p) W z k 0 (hrd.below hW) (by_drop h.ok.by_ _) hN hN2 hru)
  have PF := Lib.hid (fun m (e : Int) (he : -9223372036854775808 ≤ e ∧ e ≤ 9223372036854775807) => rfail_is base g _ s e (w.drewN m) (h.drew m) he)
  unfold RStep0 at PF
  rw [h0] at c2
  have HH := Lib.hid h
  have HDL := Lib.hid hdl
  have HK := Lib.hid hk
  rw [← hn] at hle hsz HDL hk hr
  obtain ⟨pp, hpp⟩ : ∃ pp, pp = s.p := ⟨_, rfl⟩
  rw [← hpp] at c1 hle HDL hcp PR hk hr
  have HPP := Lib.hid hpp
  have HNN := Lib.hid hn
  clear h hrd hdl hru hpp hn
  go_enter Try.func100, Try.ntmps100
  go_wp2
  go_quiet ((go_at_call 24; refine (PR.out _ _ _ (below_drewN (Below.refl _ _) _) (by have := HDL.out; omega) (by omega)).mono ?_; rintro r w1 ⟨rfl, rfl⟩; exact ⟨rfl, _, rfl⟩))
  by_cases hm : most < 0
  · have hz' : z = 0 := by omega
    clear hz
    omega
  · have hz' : (z : Int) ≤ most := by omega
    clear hz
    go_wp2
    all_goals (try (exfalso; omega))
    go_quiet (fail)
    go_wp2_with (go_at_call 104; refine (PF.out _ _ (by omega)).mono ?_; rintro r w1 ⟨rfl, ht⟩; have HT := Lib.hid ht; clear ht)
    go_ret
    exact ⟨rfl, HT.out.of_drew⟩

set_option maxHeartbeats 400000 in
set_option maxRecDepth 100000 in
theorem rtext_yes_a (base g : Nat) (q n c : Nat) (s : Rs) (z k x : Nat) (most : Int) (w : World) (h : Rdr base w 113 Rs.rcells g (.slice (some ⟨q, 0, none⟩) n c) s) (h0 : s.err = 0) (hn : n = s.bs.length) (hnc : n ≤ c) (hcp : s.p < c) (hk : s.p + k ≤ s.bs.length) (hru : Uv.ru 0 0 (s.bs.drop s.p) = (z, k, 0)) (hz64 : z < 18446744073709551616) (hm64 : most ≤ 9223372036854775807) (hz : (z : Int) ≤ max most 0) (hr : s.p + k + z ≤ s.bs.length) (hpc : c = s.p + k) :
    Calls Try.prog 100 #[.pointer (some ⟨g, 0, none⟩), .int .i64 most] w (Gave base w 113 Rs.rcells g (.slice (some ⟨q, 0, none⟩) n c) (.string (strOf ((s.bs.drop (s.p + k)).take z))) (s.go (k + z))) := by
  obtain ⟨c0, c1, c2, c3, f1, f2, f3⟩ := h.rf
  have hlt := h.lt
  have hle := h.ok.le
  have hsz := h.ok.sz
  have hrd : Rd w (some ⟨q, s.p, none⟩) (b8 (s.bs.drop s.p)) := (by have h9 := h.own; rw [← hn] at h9; exact rd_tail (A := some ⟨q, 0, none⟩) (rd_own h9) rfl)
  have hdl : (s.bs.drop s.p).length = s.bs.length - s.p := by simp
  have PR := Lib.hid (fun W N C (hW : Below w.heap.size w W) (hN : (s.bs.drop s.p).length = N) (hN2 : N ≤ 140737488355328) => rreadUvarint_is (some ⟨q, s.p, none⟩) N C (s.bs.drop s.p) W z k 0 (hrd.below hW) (by_drop h.ok.by_ _) hN hN2 hru)
  have PF := Lib.hid (fun m (e : Int) (he : -9223372036854775808 ≤ e ∧ e ≤ 9223372036854775807) => rfail_is base g _ s e (w.drewN m) (h.drew m) he)
  unfold RStep0 at PF
  rw [h0] at c2
  have HH := Lib.hid h
  have HDL := Lib.hid hdl
  have HK := Lib.hid hk
  rw [← hn] at hle hsz HDL hk hr
  obtain ⟨pp, hpp⟩ : ∃ pp, pp = s.p := ⟨_, rfl⟩
  rw [← hpp] at c1 hle HDL hcp PR hk hr hpc
  have HPP := Lib.hid hpp
  have HNN := Lib.hid hn
  clear h hrd hdl hru hpp hn
  have hbl : ((s.bs.drop (s.p + k)).take z).length = z := by
    have := HNN.out
    have := HPP.out
    simp only [List.length_take, List.length_drop]
    omega
  have hby : By ((s.bs.drop (s.p + k)).take z) := fun b hb => HH.out.ok.by_ b (List.mem_of_mem_drop (List.mem_of_mem_take hb))
  obtain ⟨bs, hbs⟩ : ∃ bs, bs = (s.bs.drop (s.p + k)).take z := ⟨_, rfl⟩
  rw [← hbs] at hbl hby ⊢
  have HBL := Lib.hid hbl
  have HBY := Lib.hid hby
  have HBS := Lib.hid hbs
  clear hbl hby hbs
  go_enter Try.func100, Try.ntmps100
  go_wp2
  go_quiet ((go_at_call 24; refine (PR.out _ _ _ (below_drewN (Below.refl _ _) _) (by have := HDL.out; omega) (by omega)).mono ?_; rintro r w1 ⟨rfl, rfl⟩; exact ⟨rfl, _, rfl⟩))
  by_cases hm : most < 0
  · have hz' : z = 0 := by omega
    clear hz
    go_wp2
    all_goals (try (exfalso; omega))
    go_quiet (fail)
    go_wp2
    skip
    have hz0 : z = 0 := by omega
    have t1 : ((pp : Int) + (k : Int)).toNat = pp + k := by omega
    have b1 : (0 : Int) ≤ (pp : Int) + (k : Int) := by omega
    have b2 : (pp : Int) + (k : Int) ≤ (c : Int) := by omega
    have t2 : ((pp : Int) + (k : Int) + (z : Int)).toNat = pp + k + z := by omega
    have b3 : (0 : Int) ≤ (pp : Int) + (k : Int) + (z : Int) := by omega
    have b5 : (pp : Int) + (k : Int) ≤ (pp : Int) + (k : Int) + (z : Int) := by omega
    have b4 : (pp : Int) + (k : Int) + (z : Int) ≤ (c : Int) := by omega
    refine at_world (fun W => Turned base w 113 Rs.rcells g (.slice (some ⟨q, 0, none⟩) n c) (s.go (k + z)) W) (Turned.of_drew ((HH.out.drew _).rmoved h0 (k := k + z) (by rw [← HPP.out, ← HNN.out]; omega) (by rw [← HPP.out]; omega))) ?_
    intro W3 HT3
    obtain ⟨d0, d1, _, _, _, _, _⟩ := HT3.rd.rf
    have hlt3 := HT3.rd.lt
    rw [show (((s.go (k + z)).p : Nat) : Int) = (pp : Int) + (k : Int) + (z : Int) from by simp only [Rs.go]; have := HPP.out; omega] at d1
    have h9 := HT3.rd.own
    rw [show (s.go (k + z)).bs = s.bs from rfl, ← HNN.out] at h9
    have hr9 : Rd W3 (some ⟨q, 0, none⟩) (b8 bs) := (by have : bs = [] := List.eq_nil_of_length_eq_zero (by have := HBL.out; omega); rw [this]; exact Rd.nil_ _ _)
    have HR9 := Lib.hid (hr9.below (Below.refl _ _).drew)
    have HT4 := Lib.hid HT3
    clear HT3 h9 hr9
    refine wp_region_still_tail 10 (by kernel_rfl) (by kernel_rfl) ?_
    simp only [List.take_succ_cons, List.take_zero, List.drop_succ_cons, List.drop_zero]
    repeat still_step
    refine wpStill_nil ?_
    change wpList _ _ _ _ _ W3.drew
    refine wpList_str _ rfl (.tmp 88) 22 9 5 rfl Try.underlying22 Try.underlying5 Try.underlying9 (some ⟨q, 0, none⟩) _ _ bs rfl HR9.out (by have := HBL.out; omega) HBY.out ?_
    go_wp2
    go_ret
    have h9 := HT4.out.below (Below.refl _ _).drew
    exact ⟨rfl, by first | exact h9 | simpa [hz'] using h9⟩
  · have hz' : (z : Int) ≤ most := by omega
    clear hz
    go_wp2
    all_goals (try (exfalso; omega))
    go_quiet (fail)
    go_wp2
    skip
    have hz0 : z = 0 := by omega
    have t1 : ((pp : Int) + (k : Int)).toNat = pp + k := by omega
    have b1 : (0 : Int) ≤ (pp : Int) + (k : Int) := by omega
    have b2 : (pp : Int) + (k : Int) ≤ (c : Int) := by omega
    have t2 : ((pp : Int) + (k : Int) + (z : Int)).toNat = pp + k + z := by omega
    have b3 : (0 : Int) ≤ (pp : Int) + (k : Int) + (z : Int) := by omega
    have b5 : (pp : Int) + (k : Int) ≤ (pp : Int) + (k : Int) + (z : Int) := by omega
    have b4 : (pp : Int) + (k : Int) + (z : Int) ≤ (c : Int) := by omega
    refine at_world (fun W => Turned base w 113 Rs.rcells g (.slice (some ⟨q, 0, none⟩) n c) (s.go (k + z)) W) (Turned.of_drew ((HH.out.drew _).rmoved h0 (k := k + z) (by rw [← HPP.out, ← HNN.out]; omega) (by rw [← HPP.out]; omega))) ?_
    intro W3 HT3
    obtain ⟨d0, d1, _, _, _, _, _⟩ := HT3.rd.rf
    have hlt3 := HT3.rd.lt
    rw [show (((s.go (k + z)).p : Nat) : Int) = (pp : Int) + (k : Int) + (z : Int) from by simp only [Rs.go]; have := HPP.out; omega] at d1
    have h9 := HT3.rd.own
    rw [show (s.go (k + z)).bs = s.bs from rfl, ← HNN.out] at h9
    have hr9 : Rd W3 (some ⟨q, 0, none⟩) (b8 bs) := (by have : bs = [] := List.eq_nil_of_length_eq_zero (by have := HBL.out; omega); rw [this]; exact Rd.nil_ _ _)
    have HR9 := Lib.hid (hr9.below (Below.refl _ _).drew)
    have HT4 := Lib.hid HT3
    clear HT3 h9 hr9
    refine wp_region_still_tail 10 (by kernel_rfl) (by kernel_rfl) ?_
    simp only [List.take_succ_cons, List.take_zero, List.drop_succ_cons, List.drop_zero]
    repeat still_step
    refine wpStill_nil ?_
    change wpList _ _ _ _ _ W3.drew
    refine wpList_str _ rfl (.tmp 88) 22 9 5 rfl Try.underlying22 Try.underlying5 Try.underlying9 (some ⟨q, 0, none⟩) _ _ bs rfl HR9.out (by have := HBL.out; omega) HBY.out ?_
    go_wp2
    go_ret
    have h9 := HT4.out.below (Below.refl _ _).drew
    exact ⟨rfl, by first | exact h9 | simpa [hz'] using h9⟩

set_option maxHeartbeats 400000 in
set_option maxRecDepth 100000 in
theorem rtext_yes_b (base g : Nat) (q n c : Nat) (s : Rs) (z k x : Nat) (most : Int) (w : World) (h : Rdr base w 113 Rs.rcells g (.slice (some ⟨q, 0, none⟩) n c) s) (h0 : s.err = 0) (hn : n = s.bs.length) (hnc : n ≤ c) (hcp : s.p < c) (hk : s.p + k ≤ s.bs.length) (hru : Uv.ru 0 0 (s.bs.drop s.p) = (z, k, 0)) (hz64 : z < 18446744073709551616) (hm64 : most ≤ 9223372036854775807) (hz : (z : Int) ≤ max most 0) (hr : s.p + k + z ≤ s.bs.length) (hpc : s.p + k < c) :
    Calls Try.prog 100 #[.pointer (some ⟨g, 0, none⟩), .int .i64 most] w (Gave base w 113 Rs.rcells g (.slice (some ⟨q, 0, none⟩) n c) (.string (strOf ((s.bs.drop (s.p + k)).take z))) (s.go (k + z))) := by
  obtain ⟨c0, c1, c2, c3, f1, f2, f3⟩ := h.rf
  have hlt := h.lt
  have hle := h.ok.le
  have hsz := h.ok.sz
  have hrd : Rd w (some ⟨q, s.p, none⟩) (b8 (s.bs.drop s.p)) := (by have h9 := h.own; rw [← hn] at h9; exact rd_tail (A := some ⟨q, 0, none⟩) (rd_own h9) rfl)
  have hdl : (s.bs.drop s.p).length = s.bs.length - s.p := by simp
  have PR := Lib.hid (fun W N C (hW : Below w.heap.size w W) (hN : (s.bs.drop s.p).length = N) (hN2 : N ≤ 140737488355328) => rreadUvarint_is (some ⟨q, s.p, none⟩) N C (s.bs.drop s.p) W z k 0 (hrd.below hW) (by_drop h.ok.by_ _) hN hN2 hru)
  have PF := Lib.hid (fun m (e : Int) (he : -9223372036854775808 ≤ e ∧ e ≤ 9223372036854775807) => rfail_is base g _ s e (w.drewN m) (h.drew m) he)
  unfold RStep0 at PF
  rw [h0] at c2
  have HH := Lib.hid h
  have HDL := Lib.hid hdl
  have HK := Lib.hid hk
  rw [← hn] at hle hsz HDL hk hr
  obtain ⟨pp, hpp⟩ : ∃ pp, pp = s.p := ⟨_, rfl⟩
  rw [← hpp] at c1 hle HDL hcp PR hk hr hpc
  have HPP := Lib.hid hpp
  have HNN := Lib.hid hn
  clear h hrd hdl hru hpp hn
  have hbl : ((s.bs.drop (s.p + k)).take z).length = z := by
    have := HNN.out
    have := HPP.out
    simp only [List.length_take, List.length_drop]
    omega
  have hby : By ((s.bs.drop (s.p + k)).take z) := fun b hb => HH.out.ok.by_ b (List.mem_of_mem_drop (List.mem_of_mem_take hb))
  obtain ⟨bs, hbs⟩ : ∃ bs, bs = (s.bs.drop (s.p + k)).take z := ⟨_, rfl⟩
  rw [← hbs] at hbl hby ⊢
  have HBL := Lib.hid hbl
  have HBY := Lib.hid hby
  have HBS := Lib.hid hbs
  clear hbl hby hbs
  go_enter Try.func100, Try.ntmps100
  go_wp2
  go_quiet ((go_at_call 24; refine (PR.out _ _ _ (below_drewN (Below.refl _ _) _) (by have := HDL.out; omega) (by omega)).mono ?_; rintro r w1 ⟨rfl, rfl⟩; exact ⟨rfl, _, rfl⟩))
  by_cases hm : most < 0
  · have hz' : z = 0 := by omega
    clear hz
    go_wp2
    all_goals (try (exfalso; omega))
    go_quiet (fail)
    go_wp2
    have hne : ¬ c = pp + k := by omega
    have hz0 : z = z := by omega
    have t1 : ((pp : Int) + (k : Int)).toNat = pp + k := by omega
    have b1 : (0 : Int) ≤ (pp : Int) + (k : Int) := by omega
    have b2 : (pp : Int) + (k : Int) ≤ (c : Int) := by omega
    have t2 : ((pp : Int) + (k : Int) + (z : Int)).toNat = pp + k + z := by omega
    have b3 : (0 : Int) ≤ (pp : Int) + (k : Int) + (z : Int) := by omega
    have b5 : (pp : Int) + (k : Int) ≤ (pp : Int) + (k : Int) + (z : Int) := by omega
    have b4 : (pp : Int) + (k : Int) + (z : Int) ≤ (c : Int) := by omega
    refine at_world (fun W => Turned base w 113 Rs.rcells g (.slice (some ⟨q, 0, none⟩) n c) (s.go (k + z)) W) (Turned.of_drew ((HH.out.drew _).rmoved h0 (k := k + z) (by rw [← HPP.out, ← HNN.out]; omega) (by rw [← HPP.out]; omega))) ?_
    intro W3 HT3
    obtain ⟨d0, d1, _, _, _, _, _⟩ := HT3.rd.rf
    have hlt3 := HT3.rd.lt
    rw [show (((s.go (k + z)).p : Nat) : Int) = (pp : Int) + (k : Int) + (z : Int) from by simp only [Rs.go]; have := HPP.out; omega] at d1
    have h9 := HT3.rd.own
    rw [show (s.go (k + z)).bs = s.bs from rfl, ← HNN.out] at h9
    have hr9 : Rd W3 (some ⟨q, pp + k, none⟩) (b8 bs) := (by have h8 := rd_part (p := s.p + k) (k := z) (A := some ⟨q, 0, none⟩) (rd_own h9) rfl; rw [← HBS.out, ← HPP.out] at h8; exact h8)
    have HR9 := Lib.hid (hr9.below (Below.refl _ _).drew)
    have HT4 := Lib.hid HT3
    clear HT3 h9 hr9
    refine wp_region_still_tail 10 (by kernel_rfl) (by kernel_rfl) ?_
    simp only [List.take_succ_cons, List.take_zero, List.drop_succ_cons, List.drop_zero]
    repeat still_step
    refine wpStill_nil ?_
    change wpList _ _ _ _ _ W3.drew
    refine wpList_str _ rfl (.tmp 88) 22 9 5 rfl Try.underlying22 Try.underlying5 Try.underlying9 (some ⟨q, pp + k, none⟩) _ _ bs rfl HR9.out (by have := HBL.out; omega) HBY.out ?_
    go_wp2
    go_ret
    have h9 := HT4.out.below (Below.refl _ _).drew
    exact ⟨rfl, by first | exact h9 | simpa [hz'] using h9⟩
  · have hz' : (z : Int) ≤ most := by omega
    clear hz
    go_wp2
    all_goals (try (exfalso; omega))
    go_quiet (fail)
    go_wp2
    have hne : ¬ c = pp + k := by omega
    have hz0 : z = z := by omega
    have t1 : ((pp : Int) + (k : Int)).toNat = pp + k := by omega
    have b1 : (0 : Int) ≤ (pp : Int) + (k : Int) := by omega
    have b2 : (pp : Int) + (k : Int) ≤ (c : Int) := by omega
    have t2 : ((pp : Int) + (k : Int) + (z : Int)).toNat = pp + k + z := by omega
    have b3 : (0 : Int) ≤ (pp : Int) + (k : Int) + (z : Int) := by omega
    have b5 : (pp : Int) + (k : Int) ≤ (pp : Int) + (k : Int) + (z : Int) := by omega
    have b4 : (pp : Int) + (k : Int) + (z : Int) ≤ (c : Int) := by omega
    refine at_world (fun W => Turned base w 113 Rs.rcells g (.slice (some ⟨q, 0, none⟩) n c) (s.go (k + z)) W) (Turned.of_drew ((HH.out.drew _).rmoved h0 (k := k + z) (by rw [← HPP.out, ← HNN.out]; omega) (by rw [← HPP.out]; omega))) ?_
    intro W3 HT3
    obtain ⟨d0, d1, _, _, _, _, _⟩ := HT3.rd.rf
    have hlt3 := HT3.rd.lt
    rw [show (((s.go (k + z)).p : Nat) : Int) = (pp : Int) + (k : Int) + (z : Int) from by simp only [Rs.go]; have := HPP.out; omega] at d1
    have h9 := HT3.rd.own
    rw [show (s.go (k + z)).bs = s.bs from rfl, ← HNN.out] at h9
    have hr9 : Rd W3 (some ⟨q, pp + k, none⟩) (b8 bs) := (by have h8 := rd_part (p := s.p + k) (k := z) (A := some ⟨q, 0, none⟩) (rd_own h9) rfl; rw [← HBS.out, ← HPP.out] at h8; exact h8)
    have HR9 := Lib.hid (hr9.below (Below.refl _ _).drew)
    have HT4 := Lib.hid HT3
    clear HT3 h9 hr9
    refine wp_region_still_tail 10 (by kernel_rfl) (by kernel_rfl) ?_
    simp only [List.take_succ_cons, List.take_zero, List.drop_succ_cons, List.drop_zero]
    repeat still_step
    refine wpStill_nil ?_
    change wpList _ _ _ _ _ W3.drew
    refine wpList_str _ rfl (.tmp 88) 22 9 5 rfl Try.underlying22 Try.underlying5 Try.underlying9 (some ⟨q, pp + k, none⟩) _ _ bs rfl HR9.out (by have := HBL.out; omega) HBY.out ?_
    go_wp2
    go_ret
    have h9 := HT4.out.below (Below.refl _ _).drew
    exact ⟨rfl, by first | exact h9 | simpa [hz'] using h9⟩

theorem rtext_r (base g : Nat) (v : Value) (s : Rs) (most : Int) (w : World) (h : Rdr base w 113 Rs.rcells g v s) (hmost : -9223372036854775808 ≤ most ∧ most ≤ 9223372036854775807) :
    Calls Try.prog 100 #[.pointer (some ⟨g, 0, none⟩), .int .i64 most] w (Gave base w 113 Rs.rcells g v (.string (strOf (s.text most).1)) (s.text most).2) := by
  by_cases h0 : s.err = 0
  · obtain ⟨z, k, x, hru, hz, ⟨rfl, hk, hnum⟩ | ⟨hx, rfl, hnum⟩⟩ := Rs.num_cases h.ok h0
    · rcases h.row with ⟨rfl, hb, hp⟩ | ⟨q, c, rfl, hc, _⟩
      · rw [hb, List.drop_nil] at hru
        exact (ru_nil_no hru).elim
      · have hle := h.ok.le
        by_cases hcp : c = s.p
        · rw [List.drop_eq_nil_of_le (by omega)] at hru
          exact (ru_nil_no hru).elim
        · have he : s.num.2.err = 0 := by rw [hnum]; exact h0
          by_cases hm : max most 0 < (z : Int)
          · have e : s.text most = ([], s.fail 14) := by
              rw [Rs.text_long h.ok most he (by rw [hnum]; exact hm), hnum, Rs.fail, Rs.failAt_yes _ h0 (by omega), Rs.failAt_yes _ (by exact h0) (by omega)]
              rfl
            rw [e]
            exact rtext_long base g q _ c s z k 0 most w h h0 rfl hc (by omega) hk hru hz hmost.2 hm
          · by_cases hr : s.bs.length < s.p + k + z
            · have e : s.text most = ([], s.fail 10) := by
                rw [Rs.text_short h.ok most he (by rw [hnum]; simp only; omega) (by rw [hnum]; simp only [Rs.rest, Rs.go]; omega), hnum, Rs.fail, Rs.failAt_yes _ h0 (by omega), Rs.failAt_yes _ (by exact h0) (by omega)]
                rfl
              rw [e]
              exact rtext_short base g q _ c s z k 0 most w h h0 rfl hc (by omega) hk hru hz hmost.2 (by omega) hr
            · have e : s.text most = ((s.bs.drop (s.p + k)).take z, s.go (k + z)) := by
                rw [Rs.text_yes h.ok most he (by rw [hnum]; simp only; omega) (by rw [hnum]; simp only [Rs.rest, Rs.go]; omega), hnum]
                simp only [Rs.go, Nat.add_assoc]
              rw [e]
              by_cases hpc : c = s.p + k
              · exact rtext_yes_a base g q _ c s z k 0 most w h h0 rfl hc (by omega) hk hru hz hmost.2 (by omega) (by omega) hpc
              · exact rtext_yes_b base g q _ c s z k 0 most w h h0 rfl hc (by omega) hk hru hz hmost.2 (by omega) (by omega) (by omega)
    · have hf : s.num.2 = s.fail (x : Int) := by rw [hnum, Rs.fail, Rs.failAt_yes _ h0 (by omega)]
      have e : s.text most = ([], s.fail (x : Int)) := by
        rw [Rs.text_bad most (by rw [hnum]; simp only; omega), hf]
      rw [e]
      rcases h.row with ⟨rfl, hb, hp⟩ | ⟨q, c, rfl, hc, _⟩
      · exact rtext_no_nil base g s 0 k x most w h h0 hb hp hx hru
      · have hle := h.ok.le
        by_cases hcp : c = s.p
        · exact rtext_no_end base g q _ c s 0 k x most w h h0 rfl hc hcp hx hru
        · exact rtext_no_in base g q _ c s 0 k x most w h h0 rfl hc (by omega) hx hru
  · have e : s.text most = ([], s) := by unfold Rs.text; rw [if_pos h0]
    rw [e]
    exact rtext_bad base g v s most w h h0
end Go.Proofs.Ytfgjlplfpjfnoaa
