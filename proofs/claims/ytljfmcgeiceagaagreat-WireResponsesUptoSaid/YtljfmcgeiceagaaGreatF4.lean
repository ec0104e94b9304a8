/- Several texts in one: Rdr4, Rdr5. -/
import Derived.Test.YtljfmcgeiceagaaGreatF3
import Derived.Test.YtljfmcgeiceagaaGreatF1
/- Readers: Uvarint. (Printed by gen_rdr4.py.) -/
namespace Go.Proofs.YtljfmcgeiceagaaGreat
open Go Go.RowKit
set_option linter.unusedVariables false
set_option linter.unusedSimpArgs false

theorem rd_tail {w : World} {q p : Nat} {A : Option Addr} {bs : List Nat} (h : Rd w A (b8 bs)) (hA : A = some ⟨q, 0, none⟩) : Rd w (some ⟨q, p, none⟩) (b8 (bs.drop p)) := by
  have := rd_part (p := p) (k := bs.length) h hA
  rw [List.take_of_length_le (by simp)] at this
  exact this
/-- How a reader's row may lie. -/
theorem Rdr.row {base : Nat} {W : World} {T : TypeId} {cf : Rs → Value → Array Value} {g : Nat} {v : Value} {s : Rs} (h : Rdr base W T cf g v s) :
    (v = .slice none 0 0 ∧ s.bs = [] ∧ s.p = 0) ∨ ∃ q c, v = .slice (some ⟨q, 0, none⟩) s.bs.length c ∧ s.bs.length ≤ c ∧ c ≤ maxLen ∧ q < W.heap.size := by
  rcases h.own.2 with ⟨h1, h2⟩ | ⟨q, c, cur, h1, _, hh, h3, h4, _⟩
  · have := h.ok.le
    exact .inl ⟨h1, List.eq_nil_of_length_eq_zero h2, by omega⟩
  · exact .inr ⟨q, c, h1, h3, h4, (Array.getElem?_eq_some_iff.1 hh).1⟩

set_option maxRecDepth 100000 in
theorem uv_bad (base g : Nat) (v : Value) (s : Rs) (w : World) (h : Rdr base w 88 Rs.cells g v s) (h0 : s.err ≠ 0) :
    Calls Tryz.prog 70 #[.pointer (some ⟨g, 0, none⟩)] w (Gave base w 88 Rs.cells g v (.int .u64 0) s) := by
  obtain ⟨c0, c1, c2, c3, c4, f1, f2, f3, f4⟩ := h.pf
  have hlt := h.lt
  have hb : (s.err != 0) = true := by simpa using h0
  rw [hb] at c2
  have HH := Lib.hid h
  clear h
  go_enter Tryz.func70, Tryz.ntmps70
  go_wp2
  go_ret
  exact ⟨rfl, HH.out.turned⟩
set_option maxHeartbeats 400000 in
set_option maxRecDepth 100000 in
theorem uv_nil_yes (base g : Nat) (s : Rs) (z k x : Nat) (w : World) (h : Rdr base w 88 Rs.cells g (.slice none 0 0) s) (h0 : s.err = 0) (hbs : s.bs = []) (hp0 : s.p = 0) (hk : s.p + k ≤ s.bs.length) (hru : Uv.ru 0 0 (s.bs.drop s.p) = (z, k, 0)) :
    Calls Tryz.prog 70 #[.pointer (some ⟨g, 0, none⟩)] w (Gave base w 88 Rs.cells g (.slice none 0 0) (.int .u64 (z : Nat)) (s.go k)) := by
  obtain ⟨c0, c1, c2, c3, c4, f1, f2, f3, f4⟩ := h.pf
  have hlt := h.lt
  have hle := h.ok.le
  have hsz := h.ok.sz
  have hrd : Rd w none (b8 (s.bs.drop s.p)) := (by rw [hbs, List.drop_nil]; exact Rd.nil_ _ _)
  have hdl : (s.bs.drop s.p).length = s.bs.length - s.p := by simp
  have PR := Lib.hid (fun W N C (hW : Below w.heap.size w W) (hN : (s.bs.drop s.p).length = N) (hN2 : N ≤ 140737488355328) => readUvarint_is none N C (s.bs.drop s.p) W z k 0 (hrd.below hW) (by_drop h.ok.by_ _) hN hN2 hru)
  have PF := Lib.hid (fun m => fail_is base g _ s (0 : Int) (w.drewN m) (h.drew m) (by omega))
  unfold Step0 at PF
  rw [h0] at c2
  have HH := Lib.hid h
  have HDL := Lib.hid hdl
  have HK := Lib.hid hk
  have hn0 : s.bs.length = 0 := by rw [hbs]; rfl
  rw [hn0] at hle hsz HDL
  have HP0 := Lib.hid hp0
  rw [hp0] at c1
  clear h hrd hdl hru hle hsz
  go_enter Tryz.func70, Tryz.ntmps70
  go_wp2
  go_quiet ((go_at_call 100; refine (PR.out _ _ _ (below_drewN (Below.refl _ _) _) (by have := HDL.out; omega) (by omega)).mono ?_; rintro r w1 ⟨rfl, rfl⟩; exact ⟨rfl, _, rfl⟩))
  go_wp2_with (go_at_call 71; refine (PF.out nq).mono ?_; rintro r w1 ⟨rfl, ht⟩; (rw [Rs.fail, Rs.failAt_ok] at ht); obtain ⟨d0, d1, d2, d3, d4, e1, e2, e3, e4⟩ := ht.rd.pf; (rw [h0] at d2); (rw [show s.p = 0 from by rw [HP0.out]] at d1); have hlt1 := ht.rd.lt; have HT := Lib.hid ht; clear ht)
  go_ret
  exact ⟨rfl, HT.out.of_drew.then (HT.out.rd.moved h0 HK.out (by rw [show s.p = 0 from by rw [HP0.out]] <;> omega))⟩

set_option maxHeartbeats 400000 in
set_option maxRecDepth 100000 in
theorem uv_nil_no (base g : Nat) (s : Rs) (z k x : Nat) (w : World) (h : Rdr base w 88 Rs.cells g (.slice none 0 0) s) (h0 : s.err = 0) (hbs : s.bs = []) (hp0 : s.p = 0) (hx : x = 10 ∨ x = 11) (hru : Uv.ru 0 0 (s.bs.drop s.p) = (0, k, x)) :
    Calls Tryz.prog 70 #[.pointer (some ⟨g, 0, none⟩)] w (Gave base w 88 Rs.cells g (.slice none 0 0) (.int .u64 (0 : Nat)) (s.fail (x : Int))) := by
  obtain ⟨c0, c1, c2, c3, c4, f1, f2, f3, f4⟩ := h.pf
  have hlt := h.lt
  have hle := h.ok.le
  have hsz := h.ok.sz
  have hrd : Rd w none (b8 (s.bs.drop s.p)) := (by rw [hbs, List.drop_nil]; exact Rd.nil_ _ _)
  have hdl : (s.bs.drop s.p).length = s.bs.length - s.p := by simp
  have PR := Lib.hid (fun W N C (hW : Below w.heap.size w W) (hN : (s.bs.drop s.p).length = N) (hN2 : N ≤ 140737488355328) => readUvarint_is none N C (s.bs.drop s.p) W 0 k x (hrd.below hW) (by_drop h.ok.by_ _) hN hN2 hru)
  have PF := Lib.hid (fun m => fail_is base g _ s (x : Int) (w.drewN m) (h.drew m) (by omega))
  unfold Step0 at PF
  rw [h0] at c2
  have HH := Lib.hid h
  have HDL := Lib.hid hdl
  have hn0 : s.bs.length = 0 := by rw [hbs]; rfl
  rw [hn0] at hle hsz HDL
  have HP0 := Lib.hid hp0
  rw [hp0] at c1
  clear h hrd hdl hru hle hsz
  go_enter Tryz.func70, Tryz.ntmps70
  go_wp2
  go_quiet ((go_at_call 100; refine (PR.out _ _ _ (below_drewN (Below.refl _ _) _) (by have := HDL.out; omega) (by omega)).mono ?_; rintro r w1 ⟨rfl, rfl⟩; exact ⟨rfl, _, rfl⟩))
  have hxe : ((x : Int) != 0) = true := by rw [bne_iff_ne]; omega
  go_wp2_with (go_at_call 71; refine (PF.out nq).mono ?_; rintro r w1 ⟨rfl, ht⟩; obtain ⟨d0, d1, d2, d3, d4, e1, e2, e3, e4⟩ := ht.rd.pf; (rw [Rs.fail, Rs.failAt_yes _ h0 (by omega)] at d2); (simp only at d2); (rw [hxe] at d2); have hlt1 := ht.rd.lt; have HT := Lib.hid ht; clear ht)
  go_ret
  exact ⟨rfl, HT.out.of_drew⟩

set_option maxHeartbeats 400000 in
set_option maxRecDepth 100000 in
theorem uv_end_yes (base g : Nat) (q n c : Nat) (s : Rs) (z k x : Nat) (w : World) (h : Rdr base w 88 Rs.cells g (.slice (some ⟨q, 0, none⟩) n c) s) (h0 : s.err = 0) (hn : n = s.bs.length) (hnc : n ≤ c) (hcp : c = s.p) (hk : s.p + k ≤ s.bs.length) (hru : Uv.ru 0 0 (s.bs.drop s.p) = (z, k, 0)) :
    Calls Tryz.prog 70 #[.pointer (some ⟨g, 0, none⟩)] w (Gave base w 88 Rs.cells g (.slice (some ⟨q, 0, none⟩) n c) (.int .u64 (z : Nat)) (s.go k)) := by
  obtain ⟨c0, c1, c2, c3, c4, f1, f2, f3, f4⟩ := h.pf
  have hlt := h.lt
  have hle := h.ok.le
  have hsz := h.ok.sz
  have hrd : Rd w (some ⟨q, 0, none⟩) (b8 (s.bs.drop s.p)) := (by rw [List.drop_eq_nil_of_le (by omega)]; exact Rd.nil_ _ _)
  have hdl : (s.bs.drop s.p).length = s.bs.length - s.p := by simp
  have PR := Lib.hid (fun W N C (hW : Below w.heap.size w W) (hN : (s.bs.drop s.p).length = N) (hN2 : N ≤ 140737488355328) => readUvarint_is (some ⟨q, 0, none⟩) N C (s.bs.drop s.p) W z k 0 (hrd.below hW) (by_drop h.ok.by_ _) hN hN2 hru)
  have PF := Lib.hid (fun m => fail_is base g _ s (0 : Int) (w.drewN m) (h.drew m) (by omega))
  unfold Step0 at PF
  rw [h0] at c2
  have HH := Lib.hid h
  have HDL := Lib.hid hdl
  have HK := Lib.hid hk
  rw [← hn] at hle hsz HDL hk
  obtain ⟨pp, hpp⟩ : ∃ pp, pp = s.p := ⟨_, rfl⟩
  rw [← hpp] at c1 hle HDL hcp PR hk
  have HPP := Lib.hid hpp
  subst hcp
  have hnp : n = c := by omega
  subst hnp
  clear h hrd hdl hru hpp hn
  go_enter Tryz.func70, Tryz.ntmps70
  go_wp2
  go_quiet ((go_at_call 100; refine (PR.out _ _ _ (below_drewN (Below.refl _ _) _) (by have := HDL.out; omega) (by omega)).mono ?_; rintro r w1 ⟨rfl, rfl⟩; exact ⟨rfl, _, rfl⟩))
  go_wp2_with (go_at_call 71; refine (PF.out nq).mono ?_; rintro r w1 ⟨rfl, ht⟩; (rw [Rs.fail, Rs.failAt_ok] at ht); obtain ⟨d0, d1, d2, d3, d4, e1, e2, e3, e4⟩ := ht.rd.pf; (rw [h0] at d2); (rw [show s.p = n from by rw [← HPP.out]] at d1); have hlt1 := ht.rd.lt; have HT := Lib.hid ht; clear ht)
  go_ret
  exact ⟨rfl, HT.out.of_drew.then (HT.out.rd.moved h0 HK.out (by rw [show s.p = n from by rw [← HPP.out]] <;> omega))⟩

set_option maxHeartbeats 400000 in
set_option maxRecDepth 100000 in
theorem uv_end_no (base g : Nat) (q n c : Nat) (s : Rs) (z k x : Nat) (w : World) (h : Rdr base w 88 Rs.cells g (.slice (some ⟨q, 0, none⟩) n c) s) (h0 : s.err = 0) (hn : n = s.bs.length) (hnc : n ≤ c) (hcp : c = s.p) (hx : x = 10 ∨ x = 11) (hru : Uv.ru 0 0 (s.bs.drop s.p) = (0, k, x)) :
    Calls Tryz.prog 70 #[.pointer (some ⟨g, 0, none⟩)] w (Gave base w 88 Rs.cells g (.slice (some ⟨q, 0, none⟩) n c) (.int .u64 (0 : Nat)) (s.fail (x : Int))) := by
  obtain ⟨c0, c1, c2, c3, c4, f1, f2, f3, f4⟩ := h.pf
  have hlt := h.lt
  have hle := h.ok.le
  have hsz := h.ok.sz
  have hrd : Rd w (some ⟨q, 0, none⟩) (b8 (s.bs.drop s.p)) := (by rw [List.drop_eq_nil_of_le (by omega)]; exact Rd.nil_ _ _)
  have hdl : (s.bs.drop s.p).length = s.bs.length - s.p := by simp
  have PR := Lib.hid (fun W N C (hW : Below w.heap.size w W) (hN : (s.bs.drop s.p).length = N) (hN2 : N ≤ 140737488355328) => readUvarint_is (some ⟨q, 0, none⟩) N C (s.bs.drop s.p) W 0 k x (hrd.below hW) (by_drop h.ok.by_ _) hN hN2 hru)
  have PF := Lib.hid (fun m => fail_is base g _ s (x : Int) (w.drewN m) (h.drew m) (by omega))
  unfold Step0 at PF
  rw [h0] at c2
  have HH := Lib.hid h
  have HDL := Lib.hid hdl
  rw [← hn] at hle hsz HDL
  obtain ⟨pp, hpp⟩ : ∃ pp, pp = s.p := ⟨_, rfl⟩
  rw [← hpp] at c1 hle HDL hcp PR
  have HPP := Lib.hid hpp
  subst hcp
  have hnp : n = c := by omega
  subst hnp
  clear h hrd hdl hru hpp hn
  go_enter Tryz.func70, Tryz.ntmps70
  go_wp2
  go_quiet ((go_at_call 100; refine (PR.out _ _ _ (below_drewN (Below.refl _ _) _) (by have := HDL.out; omega) (by omega)).mono ?_; rintro r w1 ⟨rfl, rfl⟩; exact ⟨rfl, _, rfl⟩))
  have hxe : ((x : Int) != 0) = true := by rw [bne_iff_ne]; omega
  go_wp2_with (go_at_call 71; refine (PF.out nq).mono ?_; rintro r w1 ⟨rfl, ht⟩; obtain ⟨d0, d1, d2, d3, d4, e1, e2, e3, e4⟩ := ht.rd.pf; (rw [Rs.fail, Rs.failAt_yes _ h0 (by omega)] at d2); (simp only at d2); (rw [hxe] at d2); have hlt1 := ht.rd.lt; have HT := Lib.hid ht; clear ht)
  go_ret
  exact ⟨rfl, HT.out.of_drew⟩

set_option maxHeartbeats 400000 in
set_option maxRecDepth 100000 in
theorem uv_in_yes (base g : Nat) (q n c : Nat) (s : Rs) (z k x : Nat) (w : World) (h : Rdr base w 88 Rs.cells g (.slice (some ⟨q, 0, none⟩) n c) s) (h0 : s.err = 0) (hn : n = s.bs.length) (hnc : n ≤ c) (hcp : s.p < c) (hk : s.p + k ≤ s.bs.length) (hru : Uv.ru 0 0 (s.bs.drop s.p) = (z, k, 0)) :
    Calls Tryz.prog 70 #[.pointer (some ⟨g, 0, none⟩)] w (Gave base w 88 Rs.cells g (.slice (some ⟨q, 0, none⟩) n c) (.int .u64 (z : Nat)) (s.go k)) := by
  obtain ⟨c0, c1, c2, c3, c4, f1, f2, f3, f4⟩ := h.pf
  have hlt := h.lt
  have hle := h.ok.le
  have hsz := h.ok.sz
  have hrd : Rd w (some ⟨q, s.p, none⟩) (b8 (s.bs.drop s.p)) := (by have h9 := h.own; rw [← hn] at h9; exact rd_tail (A := some ⟨q, 0, none⟩) (rd_own h9) rfl)
  have hdl : (s.bs.drop s.p).length = s.bs.length - s.p := by simp
  have PR := Lib.hid (fun W N C (hW : Below w.heap.size w W) (hN : (s.bs.drop s.p).length = N) (hN2 : N ≤ 140737488355328) => readUvarint_is (some ⟨q, s.p, none⟩) N C (s.bs.drop s.p) W z k 0 (hrd.below hW) (by_drop h.ok.by_ _) hN hN2 hru)
  have PF := Lib.hid (fun m => fail_is base g _ s (0 : Int) (w.drewN m) (h.drew m) (by omega))
  unfold Step0 at PF
  rw [h0] at c2
  have HH := Lib.hid h
  have HDL := Lib.hid hdl
  have HK := Lib.hid hk
  rw [← hn] at hle hsz HDL hk
  obtain ⟨pp, hpp⟩ : ∃ pp, pp = s.p := ⟨_, rfl⟩
  rw [← hpp] at c1 hle HDL hcp PR hk
  have HPP := Lib.hid hpp
  clear h hrd hdl hru hpp hn
  go_enter Tryz.func70, Tryz.ntmps70
  go_wp2
  go_quiet ((go_at_call 100; refine (PR.out _ _ _ (below_drewN (Below.refl _ _) _) (by have := HDL.out; omega) (by omega)).mono ?_; rintro r w1 ⟨rfl, rfl⟩; exact ⟨rfl, _, rfl⟩))
  go_wp2_with (go_at_call 71; refine (PF.out nq).mono ?_; rintro r w1 ⟨rfl, ht⟩; (rw [Rs.fail, Rs.failAt_ok] at ht); obtain ⟨d0, d1, d2, d3, d4, e1, e2, e3, e4⟩ := ht.rd.pf; (rw [h0] at d2); (rw [show s.p = pp from by rw [← HPP.out]] at d1); have hlt1 := ht.rd.lt; have HT := Lib.hid ht; clear ht)
  go_ret
  exact ⟨rfl, HT.out.of_drew.then (HT.out.rd.moved h0 HK.out (by rw [show s.p = pp from by rw [← HPP.out]] <;> omega))⟩

set_option maxHeartbeats 400000 in
set_option maxRecDepth 100000 in
theorem uv_in_no (base g : Nat) (q n c : Nat) (s : Rs) (z k x : Nat) (w : World) (h : Rdr base w 88 Rs.cells g (.slice (some ⟨q, 0, none⟩) n c) s) (h0 : s.err = 0) (hn : n = s.bs.length) (hnc : n ≤ c) (hcp : s.p < c) (hx : x = 10 ∨ x = 11) (hru : Uv.ru 0 0 (s.bs.drop s.p) = (0, k, x)) :
    Calls Tryz.prog 70 #[.pointer (some ⟨g, 0, none⟩)] w (Gave base w 88 Rs.cells g (.slice (some ⟨q, 0, none⟩) n c) (.int .u64 (0 : Nat)) (s.fail (x : Int))) := by
  obtain ⟨c0, c1, c2, c3, c4, f1, f2, f3, f4⟩ := h.pf
  have hlt := h.lt
  have hle := h.ok.le
  have hsz := h.ok.sz
  have hrd : Rd w (some ⟨q, s.p, none⟩) (b8 (s.bs.drop s.p)) := (by have h9 := h.own; rw [← hn] at h9; exact rd_tail (A := some ⟨q, 0, none⟩) (rd_own h9) rfl)
  have hdl : (s.bs.drop s.p).length = s.bs.length - s.p := by simp
  have PR := Lib.hid (fun W N C (hW : Below w.heap.size w W) (hN : (s.bs.drop s.p).length = N) (hN2 : N ≤ 140737488355328) => readUvarint_is (some ⟨q, s.p, none⟩) N C (s.bs.drop s.p) W 0 k x (hrd.below hW) (by_drop h.ok.by_ _) hN hN2 hru)
  have PF := Lib.hid (fun m => fail_is base g _ s (x : Int) (w.drewN m) (h.drew m) (by omega))
  unfold Step0 at PF
  rw [h0] at c2
  have HH := Lib.hid h
  have HDL := Lib.hid hdl
  rw [← hn] at hle hsz HDL
  obtain ⟨pp, hpp⟩ : ∃ pp, pp = s.p := ⟨_, rfl⟩
  rw [← hpp] at c1 hle HDL hcp PR
  have HPP := Lib.hid hpp
  clear h hrd hdl hru hpp hn
  go_enter Tryz.func70, Tryz.ntmps70
  go_wp2
  go_quiet ((go_at_call 100; refine (PR.out _ _ _ (below_drewN (Below.refl _ _) _) (by have := HDL.out; omega) (by omega)).mono ?_; rintro r w1 ⟨rfl, rfl⟩; exact ⟨rfl, _, rfl⟩))
  have hxe : ((x : Int) != 0) = true := by rw [bne_iff_ne]; omega
  go_wp2_with (go_at_call 71; refine (PF.out nq).mono ?_; rintro r w1 ⟨rfl, ht⟩; obtain ⟨d0, d1, d2, d3, d4, e1, e2, e3, e4⟩ := ht.rd.pf; (rw [Rs.fail, Rs.failAt_yes _ h0 (by omega)] at d2); (simp only at d2); (rw [hxe] at d2); have hlt1 := ht.rd.lt; have HT := Lib.hid ht; clear ht)
  go_ret
  exact ⟨rfl, HT.out.of_drew⟩

theorem uv_r (base g : Nat) (v : Value) (s : Rs) (w : World) (h : Rdr base w 88 Rs.cells g v s) :
    Calls Tryz.prog 70 #[.pointer (some ⟨g, 0, none⟩)] w (Gave base w 88 Rs.cells g v (.int .u64 (s.num.1 : Nat)) s.num.2) := by
  by_cases h0 : s.err = 0
  · obtain ⟨z, k, x, hru, hz, ⟨rfl, hk, hnum⟩ | ⟨hx, rfl, hnum⟩⟩ := Rs.num_cases h.ok h0
    · rw [hnum]
      rcases h.row with ⟨rfl, hb, hp⟩ | ⟨q, c, rfl, hc, _⟩
      · exact uv_nil_yes base g s z k 0 w h h0 hb hp hk hru
      · have hle := h.ok.le
        by_cases hcp : c = s.p
        · exact uv_end_yes base g q _ c s z k 0 w h h0 rfl hc hcp hk hru
        · exact uv_in_yes base g q _ c s z k 0 w h h0 rfl hc (by omega) hk hru
    · have hf : s.num = (0, s.fail (x : Int)) := by rw [hnum, Rs.fail, Rs.failAt_yes _ h0 (by omega)]
      rw [hf]
      rcases h.row with ⟨rfl, hb, hp⟩ | ⟨q, c, rfl, hc, _⟩
      · exact uv_nil_no base g s 0 k x w h h0 hb hp hx hru
      · have hle := h.ok.le
        by_cases hcp : c = s.p
        · exact uv_end_no base g q _ c s 0 k x w h h0 rfl hc hcp hx hru
        · exact uv_in_no base g q _ c s 0 k x w h h0 rfl hc (by omega) hx hru
  · rw [Rs.num_bad h0]
    exact uv_bad base g v s w h h0

set_option maxRecDepth 100000 in
theorem varint_r (base g : Nat) (v : Value) (s : Rs) (w : World) (h : Rdr base w 88 Rs.cells g v s) :
    Calls Tryz.prog 28 #[.pointer (some ⟨g, 0, none⟩)] w (Gave base w 88 Rs.cells g v (.int .i64 (Uv.zag (s.num.1 : Int))) s.num.2) := by
  have P1 := Lib.hid (uv_r base g v s w h)
  unfold Gave at P1 ⊢
  have hn := h.ok.num.2.1
  clear h
  go_enter Tryz.func28, Tryz.ntmps28
  go_wp2_with (first
    | (go_at_call 70; refine P1.out.mono ?_; rintro r w1 ⟨rfl, ht⟩; have HT := Lib.hid ht; clear ht)
    | (go_at_call 72; refine (unzigzag_any _ _ hn).mono ?_; rintro r w2 ⟨rfl, rfl⟩))
  go_ret
  exact ⟨rfl, HT.out⟩
end Go.Proofs.YtljfmcgeiceagaaGreat

/- Readers: Text, End, NewReader. -/
namespace Go.Proofs.YtljfmcgeiceagaaGreat
open Go Go.RowKit
set_option linter.unusedVariables false
set_option linter.unusedSimpArgs false
set_option linter.unusedSectionVars false

theorem Rs.text_bad {s : Rs} (most : Int) (h : s.num.2.err ≠ 0) : s.text most = ([], s.num.2) := by
  unfold Rs.text
  by_cases h0 : s.err ≠ 0
  · rw [if_pos h0, Rs.num_bad h0]
  · rw [if_neg h0, if_pos h]
theorem Rs.text_long {s : Rs} (hs : s.Ok) (most : Int) (h : s.num.2.err = 0) (hm : max most 0 < (s.num.1 : Int)) : s.text most = ([], s.num.2.failAt 14 s.p) := by
  have h0 := Rs.num_ok hs h
  unfold Rs.text
  rw [if_neg (by simp [h0]), if_neg (by simp [h]), if_pos hm]
theorem Rs.text_short {s : Rs} (hs : s.Ok) (most : Int) (h : s.num.2.err = 0) (hm : (s.num.1 : Int) ≤ max most 0) (hr : s.num.2.rest < s.num.1) : s.text most = ([], s.num.2.failAt 10 s.p) := by
  have h0 := Rs.num_ok hs h
  unfold Rs.text
  rw [if_neg (by simp [h0]), if_neg (by simp [h]), if_neg (by omega), if_pos hr]
theorem Rs.text_yes {s : Rs} (hs : s.Ok) (most : Int) (h : s.num.2.err = 0) (hm : (s.num.1 : Int) ≤ max most 0) (hr : s.num.1 ≤ s.num.2.rest) : s.text most = ((s.bs.drop s.num.2.p).take s.num.1, s.num.2.go s.num.1) := by
  have h0 := Rs.num_ok hs h
  unfold Rs.text
  rw [if_neg (by simp [h0]), if_neg (by simp [h]), if_neg (by omega), if_neg (by omega)]

section
variable (base g : Nat) (v : Value) (s : Rs) (most : Int) (w : World) (h : Rdr base w 88 Rs.cells g v s) (hmost : -9223372036854775808 ≤ most ∧ most ≤ 9223372036854775807)
include h hmost

set_option maxHeartbeats 400000 in
set_option maxRecDepth 100000 in
theorem text_r_bad (hb : s.num.2.err ≠ 0) :
    Calls Tryz.prog 30 #[.pointer (some ⟨g, 0, none⟩), .int .i64 most] w (Gave base w 88 Rs.cells g v (.string (strOf (s.text most).1)) (s.text most).2) := by
  rw [Rs.text_bad most hb]
  have P0 := Lib.hid (place_is base g v s w h)
  have P1 := Lib.hid (uv_r base g v s w h)
  unfold Gave at P1 ⊢
  have hxe : (s.num.2.err != 0) = true := by simpa using hb
  clear h
  go_enter Tryz.func30, Tryz.ntmps30
  go_wp2_with (first
    | (go_at_call 73; refine P0.out.mono ?_; rintro r w0 ⟨rfl, rfl⟩)
    | (go_at_call 70; refine P1.out.mono ?_; rintro r w1 ⟨rfl, ht⟩; obtain ⟨d0, d1, d2, d3, d4, e1, e2, e3, e4⟩ := ht.rd.pf; (rw [hxe] at d2); have hlt1 := ht.rd.lt; have HT := Lib.hid ht; clear ht))
  go_ret
  exact ⟨rfl, HT.out⟩

set_option maxHeartbeats 400000 in
set_option maxRecDepth 100000 in
theorem text_r_long (M : Nat) (hM : max most 0 = (M : Int)) (hb : s.num.2.err = 0) (hm : M < s.num.1) :
    Calls Tryz.prog 30 #[.pointer (some ⟨g, 0, none⟩), .int .i64 most] w (Gave base w 88 Rs.cells g v (.string (strOf (s.text most).1)) (s.text most).2) := by
  rw [Rs.text_long h.ok most hb (by omega)]
  have P0 := Lib.hid (place_is base g v s w h)
  have P1 := Lib.hid (uv_r base g v s w h)
  have hn := h.ok.num
  have P2 := Lib.hid (fun W (h : Rdr base W 88 Rs.cells g v s.num.2) => failAt_is base g v s.num.2 14 s.p W h (by omega) (by rw [hn.2.2]; exact (show s.p ≤ s.bs.length from by have := ‹Rdr base w _ Rs.cells g v s›.ok.le; exact this)))
  unfold Step0 at P2
  unfold Gave at P1 ⊢
  have hz := hn.2.1
  obtain ⟨s1, hs1⟩ : ∃ s1, s1 = s.num.2 := ⟨_, rfl⟩
  obtain ⟨z, hzz⟩ : ∃ z, z = s.num.1 := ⟨_, rfl⟩
  rw [← hs1] at P1 P2 hb ⊢
  rw [← hzz] at P1 hm hz
  clear h hn hs1 hzz
  have hM1 : M ≤ 9223372036854775807 := by omega
  go_enter Tryz.func30, Tryz.ntmps30
  go_wp2_with (first
    | (go_at_call 73; refine P0.out.mono ?_; rintro r w0 ⟨rfl, rfl⟩)
    | (go_at_call 70; refine P1.out.mono ?_; rintro r w1 ⟨rfl, ht⟩; obtain ⟨d0, d1, d2, d3, d4, e1, e2, e3, e4⟩ := ht.rd.pf; (rw [hb] at d2); have hlt1 := ht.rd.lt; have HT := Lib.hid ht; clear ht)
    | (go_at_call 74; refine (P2.out _ HT.out.rd).mono ?_; rintro r w2 ⟨rfl, ht⟩; have HT2 := Lib.hid ht; clear ht))
  all_goals go_ret
  all_goals exact ⟨rfl, HT.out.then HT2.out⟩

set_option maxHeartbeats 400000 in
set_option maxRecDepth 100000 in
theorem text_r_short (M : Nat) (hM : max most 0 = (M : Int)) (hb : s.num.2.err = 0) (hm : s.num.1 ≤ M) (hr : s.num.2.rest < s.num.1) :
    Calls Tryz.prog 30 #[.pointer (some ⟨g, 0, none⟩), .int .i64 most] w (Gave base w 88 Rs.cells g v (.string (strOf (s.text most).1)) (s.text most).2) := by
  rw [Rs.text_short h.ok most hb (by omega) hr]
  have P0 := Lib.hid (place_is base g v s w h)
  have P1 := Lib.hid (uv_r base g v s w h)
  have hn := h.ok.num
  have PR := Lib.hid (fun W (h : Rdr base W 88 Rs.cells g v s.num.2) => rest_is base g v s.num.2 W h)
  have P2 := Lib.hid (fun W (h : Rdr base W 88 Rs.cells g v s.num.2) => failAt_is base g v s.num.2 10 s.p W h (by omega) (by rw [hn.2.2]; exact (show s.p ≤ s.bs.length from by have := ‹Rdr base w _ Rs.cells g v s›.ok.le; exact this)))
  unfold Step0 at P2
  unfold Gave at P1 ⊢
  have hz := hn.2.1
  have hsz : s.num.2.rest ≤ 140737488351232 := by have := hn.1.sz; unfold Rs.rest; omega
  obtain ⟨s1, hs1⟩ : ∃ s1, s1 = s.num.2 := ⟨_, rfl⟩
  obtain ⟨z, hzz⟩ : ∃ z, z = s.num.1 := ⟨_, rfl⟩
  rw [← hs1] at P1 P2 PR hb hr hsz ⊢
  rw [← hzz] at P1 hm hz hr
  obtain ⟨rt, hrt⟩ : ∃ rt, rt = s1.rest := ⟨_, rfl⟩
  rw [← hrt] at PR hr hsz
  clear h hn hs1 hzz hrt
  have hM1 : M ≤ 9223372036854775807 := by omega
  go_enter Tryz.func30, Tryz.ntmps30
  go_wp2_with (first
    | (go_at_call 73; refine P0.out.mono ?_; rintro r w0 ⟨rfl, rfl⟩)
    | (go_at_call 70; refine P1.out.mono ?_; rintro r w1 ⟨rfl, ht⟩; obtain ⟨d0, d1, d2, d3, d4, e1, e2, e3, e4⟩ := ht.rd.pf; (rw [hb] at d2); have hlt1 := ht.rd.lt; have HT := Lib.hid ht; clear ht)
    | (go_at_call 32; refine (PR.out _ HT.out.rd).mono ?_; rintro r w2 ⟨rfl, m2, rfl⟩)
    | (go_at_call 74; refine (P2.out _ (HT.out.rd.drew m2)).mono ?_; rintro r w3 ⟨rfl, ht⟩; have HT2 := Lib.hid ht; clear ht))
  all_goals go_ret
  all_goals exact ⟨rfl, HT.out.then HT2.out.of_drew⟩

set_option maxHeartbeats 400000 in
set_option maxRecDepth 100000 in
theorem text_r_yes (M : Nat) (hM : max most 0 = (M : Int)) (hb : s.num.2.err = 0) (hm : s.num.1 ≤ M) (hr : s.num.1 ≤ s.num.2.rest) :
    Calls Tryz.prog 30 #[.pointer (some ⟨g, 0, none⟩), .int .i64 most] w (Gave base w 88 Rs.cells g v (.string (strOf (s.text most).1)) (s.text most).2) := by
  rw [Rs.text_yes h.ok most hb (by omega) hr]
  have P0 := Lib.hid (place_is base g v s w h)
  have P1 := Lib.hid (uv_r base g v s w h)
  have hn := h.ok.num
  have PR := Lib.hid (fun W (h : Rdr base W 88 Rs.cells g v s.num.2) => rest_is base g v s.num.2 W h)
  have P2 := Lib.hid (fun W (h : Rdr base W 88 Rs.cells g v s.num.2) => take_yes base g v s.num.2 s.num.1 W h hb hr)
  rw [hn.2.2] at P2
  unfold Took at P2
  unfold Gave at P1 ⊢
  have hz := hn.2.1
  have hsz : s.num.2.rest ≤ 140737488351232 := by have := hn.1.sz; unfold Rs.rest; omega
  have hby : By ((s.bs.drop s.num.2.p).take s.num.1) := fun b hb' => h.ok.by_ b (List.mem_of_mem_drop (List.mem_of_mem_take hb'))
  have HY := Lib.hid hby
  clear hby
  obtain ⟨s1, hs1⟩ : ∃ s1, s1 = s.num.2 := ⟨_, rfl⟩
  obtain ⟨z, hzz⟩ : ∃ z, z = s.num.1 := ⟨_, rfl⟩
  rw [← hs1] at P1 P2 PR hb hr hsz HY ⊢
  rw [← hzz] at P1 P2 hm hz hr HY ⊢
  obtain ⟨rt, hrt⟩ : ∃ rt, rt = s1.rest := ⟨_, rfl⟩
  rw [← hrt] at PR hr hsz
  obtain ⟨bs, hbs⟩ : ∃ bs, bs = (s.bs.drop s1.p).take z := ⟨_, rfl⟩
  rw [← hbs] at P2 HY ⊢
  clear h hn hs1 hzz hrt hbs
  have hM1 : M ≤ 9223372036854775807 := by omega
  go_enter Tryz.func30, Tryz.ntmps30
  go_wp2_with (first
    | (go_at_call 73; refine P0.out.mono ?_; rintro r w0 ⟨rfl, rfl⟩)
    | (go_at_call 70; refine P1.out.mono ?_; rintro r w1 ⟨rfl, ht⟩; obtain ⟨d0, d1, d2, d3, d4, e1, e2, e3, e4⟩ := ht.rd.pf; (rw [hb] at d2); have hlt1 := ht.rd.lt; have HT := Lib.hid ht; clear ht)
    | (go_at_call 32; refine (PR.out _ HT.out.rd).mono ?_; rintro r w2 ⟨rfl, m2, rfl⟩)
    | (go_at_call 69; refine (P2.out _ (HT.out.rd.drew m2)).mono ?_; rintro r w3 ⟨A3, c3, rfl, hc3, hr3, ht⟩; have HT2 := Lib.hid ht; have HR3 := Lib.hid hr3; clear ht hr3)
    | (refine wpList_str _ rfl (.tmp 38) 27 9 5 rfl Tryz.underlying27 Tryz.underlying5 Tryz.underlying9 A3 _ c3 bs rfl HR3.out rfl HY.out ?_))
  all_goals go_ret
  all_goals exact ⟨rfl, HT.out.then HT2.out.of_drew⟩

theorem text_r :
    Calls Tryz.prog 30 #[.pointer (some ⟨g, 0, none⟩), .int .i64 most] w (Gave base w 88 Rs.cells g v (.string (strOf (s.text most).1)) (s.text most).2) := by
  by_cases hb : s.num.2.err = 0
  · obtain ⟨M, hM⟩ : ∃ M : Nat, max most 0 = (M : Int) := ⟨(max most 0).toNat, by omega⟩
    by_cases hm : s.num.1 ≤ M
    · by_cases hr : s.num.1 ≤ s.num.2.rest
      · exact text_r_yes base g v s most w h hmost M hM hb hm hr
      · exact text_r_short base g v s most w h hmost M hM hb hm (by omega)
    · exact text_r_long base g v s most w h hmost M hM hb (by omega)
  · exact text_r_bad base g v s most w h hmost hb
end
def Rs.fin (s : Rs) : Int × Nat := if s.err ≠ 0 then (s.err, s.ea) else if s.p < s.bs.length then (13, s.p) else (0, 0)
set_option maxRecDepth 100000 in
theorem end_r_bad (base g : Nat) (v : Value) (s : Rs) (w : World) (h : Rdr base w 88 Rs.cells g v s) (h0 : s.err ≠ 0) :
    Calls Tryz.prog 33 #[.pointer (some ⟨g, 0, none⟩)] w fun r w' => r = .returned (.agg #[.int .i64 s.err, .int .i64 (s.ea : Int)]) ∧ Below w.heap.size w w' := by
  obtain ⟨c0, c1, c2, c3, c4, f1, f2, f3, f4⟩ := h.pf
  have hlt := h.lt
  have hb : (s.err != 0) = true := by simpa using h0
  rw [hb] at c2
  clear h
  go_enter Tryz.func33, Tryz.ntmps33
  go_wp2
  refine bodyPost_ret (v := .agg #[.int .i64 s.err, .int .i64 (s.ea : Int)]) (by simp [results, Tryz.results33, go_sem, *]) rfl ⟨rfl, ?_⟩
  exact (Below.refl _ _).alloc (Nat.le_refl _) _
set_option maxRecDepth 100000 in
theorem end_r_left (base g : Nat) (v : Value) (s : Rs) (w : World) (h : Rdr base w 88 Rs.cells g v s) (h0 : s.err = 0) (hp : s.p < s.bs.length) :
    Calls Tryz.prog 33 #[.pointer (some ⟨g, 0, none⟩)] w fun r w' => r = .returned (.agg #[.int .i64 13, .int .i64 (s.p : Int)]) ∧ Below w.heap.size w w' := by
  obtain ⟨c0, c1, c2, c3, c4, f1, f2, f3, f4⟩ := h.pf
  obtain ⟨A, c, rfl, _⟩ := own_shape h.own
  have hlt := h.lt
  rw [h0] at c2
  obtain ⟨p, hpp⟩ : ∃ p, p = s.p := ⟨_, rfl⟩
  obtain ⟨n, hn⟩ : ∃ n, n = s.bs.length := ⟨_, rfl⟩
  rw [← hpp] at c1 hp ⊢
  rw [← hn] at c0 hp
  clear h hpp hn
  go_enter Tryz.func33, Tryz.ntmps33
  go_wp2
  go_quiet (fail)
  go_wp2
  refine bodyPost_ret (v := .agg #[.int .i64 13, .int .i64 (p : Int)]) (by simp [results, Tryz.results33, go_sem, *]) rfl ⟨rfl, ?_⟩
  exact ((below_drewN ((Below.refl _ _).alloc (Nat.le_refl _) _) nq).setCell (Nat.le_refl _) _).setCell (Nat.le_refl _) _
set_option maxRecDepth 100000 in
theorem end_r_ok (base g : Nat) (v : Value) (s : Rs) (w : World) (h : Rdr base w 88 Rs.cells g v s) (h0 : s.err = 0) (hp : s.p = s.bs.length) :
    Calls Tryz.prog 33 #[.pointer (some ⟨g, 0, none⟩)] w fun r w' => r = .returned (.agg #[.int .i64 0, .int .i64 0]) ∧ Below w.heap.size w w' := by
  obtain ⟨c0, c1, c2, c3, c4, f1, f2, f3, f4⟩ := h.pf
  obtain ⟨A, c, rfl, _⟩ := own_shape h.own
  have hlt := h.lt
  rw [h0] at c2
  obtain ⟨p, hpp⟩ : ∃ p, p = s.p := ⟨_, rfl⟩
  rw [← hp, ← hpp] at c0
  rw [← hpp] at c1
  clear h hpp hp
  go_enter Tryz.func33, Tryz.ntmps33
  go_wp2
  go_quiet (fail)
  go_wp2
  refine bodyPost_ret (v := .agg #[.int .i64 0, .int .i64 0]) (by simp [results, Tryz.results33, go_sem, *]) rfl ⟨rfl, ?_⟩
  exact ((below_drewN ((Below.refl _ _).alloc (Nat.le_refl _) _) nq).setCell (Nat.le_refl _) _).setCell (Nat.le_refl _) _
theorem end_r (base g : Nat) (v : Value) (s : Rs) (w : World) (h : Rdr base w 88 Rs.cells g v s) :
    Calls Tryz.prog 33 #[.pointer (some ⟨g, 0, none⟩)] w fun r w' => r = .returned (.agg #[.int .i64 s.fin.1, .int .i64 (s.fin.2 : Int)]) ∧ Below w.heap.size w w' := by
  unfold Rs.fin
  by_cases h0 : s.err = 0
  · have hle := h.ok.le
    by_cases hp : s.p < s.bs.length
    · simp only [h0, ne_eq, not_true_eq_false, if_false, hp, if_true]
      exact end_r_left base g v s w h h0 hp
    · simp only [h0, ne_eq, not_true_eq_false, if_false, hp]
      exact end_r_ok base g v s w h h0 (by omega)
  · simp only [h0, ne_eq, not_false_eq_true, if_true]
    exact end_r_bad base g v s w h h0
/-- What is made anew. -/
def Newed (w : World) (T : TypeId) (cf : Rs → Value → Array Value) (bs : List Nat) (r : Ending) (w' : World) : Prop :=
  ∃ g v, r = .returned (.pointer (some ⟨g, 0, none⟩)) ∧ Rdr w.heap.size w' T cf g v ⟨bs, 0, 0, 0⟩ ∧ Below w.heap.size w w'
theorem ok_new {bs : List Nat} (hb : By bs) (hl : bs.length ≤ 140737488351232) : Rs.Ok ⟨bs, 0, 0, 0⟩ := ⟨Nat.zero_le _, hb, hl, fun _ => rfl, fun h => absurd rfl h, by simp only; omega, Nat.zero_le _⟩
theorem rdr_new {base : Nat} {w1 : World} {T : TypeId} {cf : Rs → Value → Array Value} {v : Value} {bs : List Nat} {n : Nat} {xs : List Value} (ho : w1.ownsRow base 5 1 v n xs) (hn : n = bs.length) (hx : xs = b8 bs) (hb : By bs) (hl : bs.length ≤ 140737488351232) (hbase : base ≤ w1.heap.size) :
    Rdr base (w1.alloc (.cells (cf ⟨bs, 0, 0, 0⟩ v) T)) T cf w1.heap.size v ⟨bs, 0, 0, 0⟩ := by
  subst hn hx
  refine ⟨heap_alloc_new w1 _, ho.alloc _, ?_, hbase, ok_new hb hl⟩
  intro q hq
  have := (ho.lt q hq).2
  omega
set_option maxRecDepth 100000 in
theorem newReader_is (A : Option Addr) (n c : Nat) (bs : List Nat) (w : World) (hr : Rd w A (b8 bs)) (hn : bs.length = n) (hby : By bs) (hl : n ≤ 140737488351232) :
    Calls Tryz.prog 25 #[.slice A n c] w (Newed w 88 Rs.cells bs) := by
  have HN := Lib.hid hn
  have HY := Lib.hid hby
  clear hn hby
  go_enter Tryz.func25, Tryz.ntmps25
  go_wp2_with (at_builtin; (refine app8 w rfl (.const (.slice none 0 0)) (.tmp 3) rfl w.heap.size (.slice none 0 0) 0 [] rfl (World.ownsRow_nil _ _ _ _) A n c bs rfl HN.out hr (by omega) (Nat.le_refl _) ?_); intro v' w2 ho hg hn; obtain ⟨A9, c9, rfl, _⟩ := own_shape ho; have HO := Lib.hid ho; have HG := Lib.hid hg; clear ho hg hn)
  go_ret
  have hb := below_of_grown HG.out (Nat.le_refl _) (fun k hk => by cases hk)
  rw [Nat.zero_add] at HO
  exact ⟨_, _, rfl, rdr_new (cf := Rs.cells) HO.out HN.out.symm rfl HY.out (by rw [HN.out]; exact hl) hb.size, hb.alloc hb.size _⟩
end Go.Proofs.YtljfmcgeiceagaaGreat
