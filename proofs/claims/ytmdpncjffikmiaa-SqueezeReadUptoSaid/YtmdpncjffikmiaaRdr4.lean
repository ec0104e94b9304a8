/- Readers: Uvarint. (Printed by gen_rdr4.py.) -/
import Derived.Test.YtmdpncjffikmiaaRdr3
namespace Go.Proofs.Ytmdpncjffikmiaa
open Go Go.RowKit
set_option linter.unusedVariables false
set_option linter.unusedSimpArgs false

theorem rd_tail {w : World} {q p : Nat} {A : Option Addr} {bs : List Nat} (h : Rd w A (b8 bs)) (hA : A = some ⟨q, 0, none⟩) : Rd w (some ⟨q, p, none⟩) (b8 (bs.drop p)) := by
  have := rd_part (p := p) (k := bs.length) h hA
  rw [List.take_of_length_le (by simp)] at this
  exact this
/-- How a reader's row may lie. -/
theorem Rdr.row {base : Nat} {W : World} {T : TypeId} {cf : Rs → Value → Array Value} {g : Nat} {v : Value} {s : Rs} (h : Rdr base W T cf g v s) :
    (v = .slice none 0 0 ∧ s.bs = [] ∧ s.p = 0) ∨ ∃ q c, v = .slice (some ⟨q, 0, none⟩) s.bs.length c ∧ s.bs.length ≤ c ∧ c ≤ maxLen ∧ q < W.heap.size := by
  rcases h.own.2 with ⟨h1, h2⟩ | ⟨q, c, cur, h1, _, hh, h3, h4, _⟩
  · have := h.ok.le
    exact .inl ⟨h1, List.eq_nil_of_length_eq_zero h2, by omega⟩
  · exact .inr ⟨q, c, h1, h3, h4, (Array.getElem?_eq_some_iff.1 hh).1⟩

set_option maxRecDepth 100000 in
theorem uv_bad (base g : Nat) (v : Value) (s : Rs) (w : World) (h : Rdr base w 78 Rs.cells g v s) (h0 : s.err ≠ 0) :
    Calls Try.prog 61 #[.pointer (some ⟨g, 0, none⟩)] w (Gave base w 78 Rs.cells g v (.int .u64 0) s) := by
  obtain ⟨c0, c1, c2, c3, c4, f1, f2, f3, f4⟩ := h.pf
  have hlt := h.lt
  have hb : (s.err != 0) = true := by simpa using h0
  rw [hb] at c2
  have HH := Lib.hid h
  clear h
  go_enter Try.func61, Try.ntmps61
  go_wp2
  go_ret
  exact ⟨rfl, HH.out.turned⟩
set_option maxRecDepth 100000 in
theorem uv_rnone (w : World) :
    Calls Try.prog 61 #[.pointer none] w fun r w' => r = .returned (.int .u64 0) ∧ w = w' := by
  go_enter Try.func61, Try.ntmps61
  go_wp2
  go_ret
  exact ⟨rfl, rfl⟩


set_option maxHeartbeats 400000 in
set_option maxRecDepth 100000 in
theorem uv_nil_yes (base g : Nat) (s : Rs) (z k x : Nat) (w : World) (h : Rdr base w 78 Rs.cells g (.slice none 0 0) s) (h0 : s.err = 0) (hbs : s.bs = []) (hp0 : s.p = 0) (hk : s.p + k ≤ s.bs.length) (hru : Uv.ru 0 0 (s.bs.drop s.p) = (z, k, 0)) :
    Calls Try.prog 61 #[.pointer (some ⟨g, 0, none⟩)] w (Gave base w 78 Rs.cells g (.slice none 0 0) (.int .u64 (z : Nat)) (s.go k)) := by
  obtain ⟨c0, c1, c2, c3, c4, f1, f2, f3, f4⟩ := h.pf
  have hlt := h.lt
  have hle := h.ok.le
  have hsz := h.ok.sz
  have hrd : Rd w none (b8 (s.bs.drop s.p)) := (by rw [hbs, List.drop_nil]; exact Rd.nil_ _ _)
  have hdl : (s.bs.drop s.p).length = s.bs.length - s.p := by simp
  have PR := Lib.hid (fun W N C (hW : Below w.heap.size w W) (hN : (s.bs.drop s.p).length = N) (hN2 : N ≤ 140737488355328) => readUvarint_is none N C (s.bs.drop s.p) W z k 0 (hrd.below hW) (by_drop h.ok.by_ _) hN hN2 hru)
  have PF := Lib.hid (fun m => fail_is base g _ s (0 : Int) (w.drewN m) (h.drew m) (by omega))
  unfold Step0 at PF
  rw [h0] at c2
  have HH := Lib.hid h
  have HDL := Lib.hid hdl
  have HK := Lib.hid hk
  have hn0 : s.bs.length = 0 := by rw [hbs]; rfl
  rw [hn0] at hle hsz HDL
  have HP0 := Lib.hid hp0
  rw [hp0] at c1
  clear h hrd hdl hru hle hsz
  go_enter Try.func61, Try.ntmps61
  go_wp2
  go_quiet ((go_at_call 74; refine (PR.out _ _ _ (below_drewN (Below.refl _ _) _) (by have := HDL.out; omega) (by omega)).mono ?_; rintro r w1 ⟨rfl, rfl⟩; exact ⟨rfl, _, rfl⟩))
  go_wp2_with (go_at_call 75; refine (PF.out nq).mono ?_; rintro r w1 ⟨rfl, ht⟩; (rw [Rs.fail, Rs.failAt_ok] at ht); obtain ⟨d0, d1, d2, d3, d4, e1, e2, e3, e4⟩ := ht.rd.pf; (rw [h0] at d2); (rw [show s.p = 0 from by rw [HP0.out]] at d1); have hlt1 := ht.rd.lt; have HT := Lib.hid ht; clear ht)
  go_ret
  exact ⟨rfl, HT.out.of_drew.then (HT.out.rd.moved h0 HK.out (by rw [show s.p = 0 from by rw [HP0.out]] <;> omega))⟩

set_option maxHeartbeats 400000 in
set_option maxRecDepth 100000 in
theorem uv_nil_no (base g : Nat) (s : Rs) (z k x : Nat) (w : World) (h : Rdr base w 78 Rs.cells g (.slice none 0 0) s) (h0 : s.err = 0) (hbs : s.bs = []) (hp0 : s.p = 0) (hx : x = 10 ∨ x = 11) (hru : Uv.ru 0 0 (s.bs.drop s.p) = (0, k, x)) :
    Calls Try.prog 61 #[.pointer (some ⟨g, 0, none⟩)] w (Gave base w 78 Rs.cells g (.slice none 0 0) (.int .u64 (0 : Nat)) (s.fail (x : Int))) := by
  obtain ⟨c0, c1, c2, c3, c4, f1, f2, f3, f4⟩ := h.pf
  have hlt := h.lt
  have hle := h.ok.le
  have hsz := h.ok.sz
  have hrd : Rd w none (b8 (s.bs.drop s.p)) := (by rw [hbs, List.drop_nil]; exact Rd.nil_ _ _)
  have hdl : (s.bs.drop s.p).length = s.bs.length - s.p := by simp
  have PR := Lib.hid (fun W N C (hW : Below w.heap.size w W) (hN : (s.bs.drop s.p).length = N) (hN2 : N ≤ 140737488355328) => readUvarint_is none N C (s.bs.drop s.p) W 0 k x (hrd.below hW) (by_drop h.ok.by_ _) hN hN2 hru)
  have PF := Lib.hid (fun m => fail_is base g _ s (x : Int) (w.drewN m) (h.drew m) (by omega))
  unfold Step0 at PF
  rw [h0] at c2
  have HH := Lib.hid h
  have HDL := Lib.hid hdl
  have hn0 : s.bs.length = 0 := by rw [hbs]; rfl
  rw [hn0] at hle hsz HDL
  have HP0 := Lib.hid hp0
  rw [hp0] at c1
  clear h hrd hdl hru hle hsz
  go_enter Try.func61, Try.ntmps61
  go_wp2
  go_quiet ((go_at_call 74; refine (PR.out _ _ _ (below_drewN (Below.refl _ _) _) (by have := HDL.out; omega) (by omega)).mono ?_; rintro r w1 ⟨rfl, rfl⟩; exact ⟨rfl, _, rfl⟩))
  have hxe : ((x : Int) != 0) = true := by rw [bne_iff_ne]; omega
  go_wp2_with (go_at_call 75; refine (PF.out nq).mono ?_; rintro r w1 ⟨rfl, ht⟩; obtain ⟨d0, d1, d2, d3, d4, e1, e2, e3, e4⟩ := ht.rd.pf; (rw [Rs.fail, Rs.failAt_yes _ h0 (by omega)] at d2); (simp only at d2); (rw [hxe] at d2); have hlt1 := ht.rd.lt; have HT := Lib.hid ht; clear ht)
  go_ret
  exact ⟨rfl, HT.out.of_drew⟩

set_option maxHeartbeats 400000 in
set_option maxRecDepth 100000 in
theorem uv_end_yes (base g : Nat) (q n c : Nat) (s : Rs) (z k x : Nat) (w : World) (h : Rdr base w 78 Rs.cells g (.slice (some ⟨q, 0, none⟩) n c) s) (h0 : s.err = 0) (hn : n = s.bs.length) (hnc : n ≤ c) (hcp : c = s.p) (hk : s.p + k ≤ s.bs.length) (hru : Uv.ru 0 0 (s.bs.drop s.p) = (z, k, 0)) :
    Calls Try.prog 61 #[.pointer (some ⟨g, 0, none⟩)] w (Gave base w 78 Rs.cells g (.slice (some ⟨q, 0, none⟩) n c) (.int .u64 (z : Nat)) (s.go k)) := by
  obtain ⟨c0, c1, c2, c3, c4, f1, f2, f3, f4⟩ := h.pf
  have hlt := h.lt
  have hle := h.ok.le
  have hsz := h.ok.sz
  have hrd : Rd w (some ⟨q, 0, none⟩) (b8 (s.bs.drop s.p)) := (by rw [List.drop_eq_nil_of_le (by omega)]; exact Rd.nil_ _ _)
  have hdl : (s.bs.drop s.p).length = s.bs.length - s.p := by simp
  have PR := Lib.hid (fun W N C (hW : Below w.heap.size w W) (hN : (s.bs.drop s.p).length = N) (hN2 : N ≤ 140737488355328) => readUvarint_is (some ⟨q, 0, none⟩) N C (s.bs.drop s.p) W z k 0 (hrd.below hW) (by_drop h.ok.by_ _) hN hN2 hru)
  have PF := Lib.hid (fun m => fail_is base g _ s (0 : Int) (w.drewN m) (h.drew m) (by omega))
  unfold Step0 at PF
  rw [h0] at c2
  have HH := Lib.hid h
  have HDL := Lib.hid hdl
  have HK := Lib.hid hk
  rw [← hn] at hle hsz HDL hk
  obtain ⟨pp, hpp⟩ : ∃ pp, pp = s.p := ⟨_, rfl⟩
  rw [← hpp] at c1 hle HDL hcp PR hk
  have HPP := Lib.hid hpp
  subst hcp
  have hnp : n = c := by omega
  subst hnp
  clear h hrd hdl hru hpp hn
  go_enter Try.func61, Try.ntmps61
  go_wp2
  go_quiet ((go_at_call 74; refine (PR.out _ _ _ (below_drewN (Below.refl _ _) _) (by have := HDL.out; omega) (by omega)).mono ?_; rintro r w1 ⟨rfl, rfl⟩; exact ⟨rfl, _, rfl⟩))
  go_wp2_with (go_at_call 75; refine (PF.out nq).mono ?_; rintro r w1 ⟨rfl, ht⟩; (rw [Rs.fail, Rs.failAt_ok] at ht); obtain ⟨d0, d1, d2, d3, d4, e1, e2, e3, e4⟩ := ht.rd.pf; (rw [h0] at d2); (rw [show s.p = n from by rw [← HPP.out]] at d1); have hlt1 := ht.rd.lt; have HT := Lib.hid ht; clear ht)
  go_ret
  exact ⟨rfl, HT.out.of_drew.then (HT.out.rd.moved h0 HK.out (by rw [show s.p = n from by rw [← HPP.out]] <;> omega))⟩

set_option maxHeartbeats 400000 in
set_option maxRecDepth 100000 in
theorem uv_end_no (base g : Nat) (q n c : Nat) (s : Rs) (z k x : Nat) (w : World) (h : Rdr base w 78 Rs.cells g (.slice (some ⟨q, 0, none⟩) n c) s) (h0 : s.err = 0) (hn : n = s.bs.length) (hnc : n ≤ c) (hcp : c = s.p) (hx : x = 10 ∨ x = 11) (hru : Uv.ru 0 0 (s.bs.drop s.p) = (0, k, x)) :
    Calls Try.prog 61 #[.pointer (some ⟨g, 0, none⟩)] w (Gave base w 78 Rs.cells g (.slice (some ⟨q, 0, none⟩) n c) (.int .u64 (0 : Nat)) (s.fail (x : Int))) := by
  obtain ⟨c0, c1, c2, c3, c4, f1, f2, f3, f4⟩ := h.pf
  have hlt := h.lt
  have hle := h.ok.le
  have hsz := h.ok.sz
  have hrd : Rd w (some ⟨q, 0, none⟩) (b8 (s.bs.drop s.p)) := (by rw [List.drop_eq_nil_of_le (by omega)]; exact Rd.nil_ _ _)
  have hdl : (s.bs.drop s.p).length = s.bs.length - s.p := by simp
  have PR := Lib.hid (fun W N C (hW : Below w.heap.size w W) (hN : (s.bs.drop s.p).length = N) (hN2 : N ≤ 140737488355328) => readUvarint_is (some ⟨q, 0, none⟩) N C (s.bs.drop s.p) W 0 k x (hrd.below hW) (by_drop h.ok.by_ _) hN hN2 hru)
  have PF := Lib.hid (fun m => fail_is base g _ s (x : Int) (w.drewN m) (h.drew m) (by omega))
  unfold Step0 at PF
  rw [h0] at c2
  have HH := Lib.hid h
  have HDL := Lib.hid hdl
  rw [← hn] at hle hsz HDL
  obtain ⟨pp, hpp⟩ : ∃ pp, pp = s.p := ⟨_, rfl⟩
  rw [← hpp] at c1 hle HDL hcp PR
  have HPP := Lib.hid hpp
  subst hcp
  have hnp : n = c := by omega
  subst hnp
  clear h hrd hdl hru hpp hn
  go_enter Try.func61, Try.ntmps61
  go_wp2
  go_quiet ((go_at_call 74; refine (PR.out _ _ _ (below_drewN (Below.refl _ _) _) (by have := HDL.out; omega) (by omega)).mono ?_; rintro r w1 ⟨rfl, rfl⟩; exact ⟨rfl, _, rfl⟩))
  have hxe : ((x : Int) != 0) = true := by rw [bne_iff_ne]; omega
  go_wp2_with (go_at_call 75; refine (PF.out nq).mono ?_; rintro r w1 ⟨rfl, ht⟩; obtain ⟨d0, d1, d2, d3, d4, e1, e2, e3, e4⟩ := ht.rd.pf; (rw [Rs.fail, Rs.failAt_yes _ h0 (by omega)] at d2); (simp only at d2); (rw [hxe] at d2); have hlt1 := ht.rd.lt; have HT := Lib.hid ht; clear ht)
  go_ret
  exact ⟨rfl, HT.out.of_drew⟩

set_option maxHeartbeats 400000 in
set_option maxRecDepth 100000 in
theorem uv_in_yes (base g : Nat) (q n c : Nat) (s : Rs) (z k x : Nat) (w : World) (h : Rdr base w 78 Rs.cells g (.slice (some ⟨q, 0, none⟩) n c) s) (h0 : s.err = 0) (hn : n = s.bs.length) (hnc : n ≤ c) (hcp : s.p < c) (hk : s.p + k ≤ s.bs.length) (hru : Uv.ru 0 0 (s.bs.drop s.p) = (z, k, 0)) :
    Calls Try.prog 61 #[.pointer (some ⟨g, 0, none⟩)] w (Gave base w 78 Rs.cells g (.slice (some ⟨q, 0, none⟩) n c) (.int .u64 (z : Nat)) (s.go k)) := by
  obtain ⟨c0, c1, c2, c3, c4, f1, f2, f3, f4⟩ := h.pf
  have hlt := h.lt
  have hle := h.ok.le
  have hsz := h.ok.sz
  have hrd : Rd w (some ⟨q, s.p, none⟩) (b8 (s.bs.drop s.p)) := (by have h9 := h.own; rw [← hn] at h9; exact rd_tail (A := some ⟨q, 0, none⟩) (rd_own h9) rfl)
  have hdl : (s.bs.drop s.p).length = s.bs.length - s.p := by simp
  have PR := Lib.hid (fun W N C (hW : Below w.heap.size w W) (hN : (s.bs.drop s.p).length = N) (hN2 : N ≤ 140737488355328) => readUvarint_is (some ⟨q, s.p, none⟩) N C (s.bs.drop s.p) W z k 0 (hrd.below hW) (by_drop h.ok.by_ _) hN hN2 hru)
  have PF := Lib.hid (fun m => fail_is base g _ s (0 : Int) (w.drewN m) (h.drew m) (by omega))
  unfold Step0 at PF
  rw [h0] at c2
  have HH := Lib.hid h
  have HDL := Lib.hid hdl
  have HK := Lib.hid hk
  rw [← hn] at hle hsz HDL hk
  obtain ⟨pp, hpp⟩ : ∃ pp, pp = s.p := ⟨_, rfl⟩
  rw [← hpp] at c1 hle HDL hcp PR hk
  have HPP := Lib.hid hpp
  clear h hrd hdl hru hpp hn
  go_enter Try.func61, Try.ntmps61
  go_wp2
  go_quiet ((go_at_call 74; refine (PR.out _ _ _ (below_drewN (Below.refl _ _) _) (by have := HDL.out; omega) (by omega)).mono ?_; rintro r w1 ⟨rfl, rfl⟩; exact ⟨rfl, _, rfl⟩))
  go_wp2_with (go_at_call 75; refine (PF.out nq).mono ?_; rintro r w1 ⟨rfl, ht⟩; (rw [Rs.fail, Rs.failAt_ok] at ht); obtain ⟨d0, d1, d2, d3, d4, e1, e2, e3, e4⟩ := ht.rd.pf; (rw [h0] at d2); (rw [show s.p = pp from by rw [← HPP.out]] at d1); have hlt1 := ht.rd.lt; have HT := Lib.hid ht; clear ht)
  go_ret
  exact ⟨rfl, HT.out.of_drew.then (HT.out.rd.moved h0 HK.out (by rw [show s.p = pp from by rw [← HPP.out]] <;> omega))⟩

set_option maxHeartbeats 400000 in
set_option maxRecDepth 100000 in
theorem uv_in_no (base g : Nat) (q n c : Nat) (s : Rs) (z k x : Nat) (w : World) (h : Rdr base w 78 Rs.cells g (.slice (some ⟨q, 0, none⟩) n c) s) (h0 : s.err = 0) (hn : n = s.bs.length) (hnc : n ≤ c) (hcp : s.p < c) (hx : x = 10 ∨ x = 11) (hru : Uv.ru 0 0 (s.bs.drop s.p) = (0, k, x)) :
    Calls Try.prog 61 #[.pointer (some ⟨g, 0, none⟩)] w (Gave base w 78 Rs.cells g (.slice (some ⟨q, 0, none⟩) n c) (.int .u64 (0 : Nat)) (s.fail (x : Int))) := by
  obtain ⟨c0, c1, c2, c3, c4, f1, f2, f3, f4⟩ := h.pf
  have hlt := h.lt
  have hle := h.ok.le
  have hsz := h.ok.sz
  have hrd : Rd w (some ⟨q, s.p, none⟩) (b8 (s.bs.drop s.p)) := (by have h9 := h.own; rw [← hn] at h9; exact rd_tail (A := some ⟨q, 0, none⟩) (rd_own h9) rfl)
  have hdl : (s.bs.drop s.p).length = s.bs.length - s.p := by simp
  have PR := Lib.hid (fun W N C (hW : Below w.heap.size w W) (hN : (s.bs.drop s.p).length = N) (hN2 : N ≤ 140737488355328) => readUvarint_is (some ⟨q, s.p, none⟩) N C (s.bs.drop s.p) W 0 k x (hrd.below hW) (by_drop h.ok.by_ _) hN hN2 hru)
  have PF := Lib.hid (fun m => fail_is base g _ s (x : Int) (w.drewN m) (h.drew m) (by omega))
  unfold Step0 at PF
  rw [h0] at c2
  have HH := Lib.hid h
  have HDL := Lib.hid hdl
  rw [← hn] at hle hsz HDL
  obtain ⟨pp, hpp⟩ : ∃ pp, pp = s.p := ⟨_, rfl⟩
  rw [← hpp] at c1 hle HDL hcp PR
  have HPP := Lib.hid hpp
  clear h hrd hdl hru hpp hn
  go_enter Try.func61, Try.ntmps61
  go_wp2
  go_quiet ((go_at_call 74; refine (PR.out _ _ _ (below_drewN (Below.refl _ _) _) (by have := HDL.out; omega) (by omega)).mono ?_; rintro r w1 ⟨rfl, rfl⟩; exact ⟨rfl, _, rfl⟩))
  have hxe : ((x : Int) != 0) = true := by rw [bne_iff_ne]; omega
  go_wp2_with (go_at_call 75; refine (PF.out nq).mono ?_; rintro r w1 ⟨rfl, ht⟩; obtain ⟨d0, d1, d2, d3, d4, e1, e2, e3, e4⟩ := ht.rd.pf; (rw [Rs.fail, Rs.failAt_yes _ h0 (by omega)] at d2); (simp only at d2); (rw [hxe] at d2); have hlt1 := ht.rd.lt; have HT := Lib.hid ht; clear ht)
  go_ret
  exact ⟨rfl, HT.out.of_drew⟩

theorem uv_r (base g : Nat) (v : Value) (s : Rs) (w : World) (h : Rdr base w 78 Rs.cells g v s) :
    Calls Try.prog 61 #[.pointer (some ⟨g, 0, none⟩)] w (Gave base w 78 Rs.cells g v (.int .u64 (s.num.1 : Nat)) s.num.2) := by
  by_cases h0 : s.err = 0
  · obtain ⟨z, k, x, hru, hz, ⟨rfl, hk, hnum⟩ | ⟨hx, rfl, hnum⟩⟩ := Rs.num_cases h.ok h0
    · rw [hnum]
      rcases h.row with ⟨rfl, hb, hp⟩ | ⟨q, c, rfl, hc, _⟩
      · exact uv_nil_yes base g s z k 0 w h h0 hb hp hk hru
      · have hle := h.ok.le
        by_cases hcp : c = s.p
        · exact uv_end_yes base g q _ c s z k 0 w h h0 rfl hc hcp hk hru
        · exact uv_in_yes base g q _ c s z k 0 w h h0 rfl hc (by omega) hk hru
    · have hf : s.num = (0, s.fail (x : Int)) := by rw [hnum, Rs.fail, Rs.failAt_yes _ h0 (by omega)]
      rw [hf]
      rcases h.row with ⟨rfl, hb, hp⟩ | ⟨q, c, rfl, hc, _⟩
      · exact uv_nil_no base g s 0 k x w h h0 hb hp hx hru
      · have hle := h.ok.le
        by_cases hcp : c = s.p
        · exact uv_end_no base g q _ c s 0 k x w h h0 rfl hc hcp hx hru
        · exact uv_in_no base g q _ c s 0 k x w h h0 rfl hc (by omega) hx hru
  · rw [Rs.num_bad h0]
    exact uv_bad base g v s w h h0

end Go.Proofs.Ytmdpncjffikmiaa
