/- The document's readers: Raw, Byte, U32, U64, End, NewReader. -/
import Derived.Test.YtfgjlplfpjfnoaaRRdr2
namespace Go.Proofs.Ytfgjlplfpjfnoaa
open Go Go.RowKit
set_option linter.unusedVariables false
set_option linter.unusedSimpArgs false
set_option linter.unusedSectionVars false

theorem rraw_all (base g : Nat) (v : Value) (s : Rs) (n : Int) (w : World) (h : Rdr base w 113 Rs.rcells g v s) :
    Calls Try.prog 102 #[.pointer (some ⟨g, 0, none⟩), .int .i64 n] w (Rawed base w 113 Rs.rcells g v (s.take n).1 (s.take n).2) := by
  unfold Rs.take
  by_cases h0 : s.err ≠ 0
  · rw [if_pos h0]
    by_cases h1 : n < 0
    · have := rraw_neg base g v s n w h h1
      rw [Rs.fail, Rs.failAt_bad _ h0] at this
      exact this
    · exact rraw_bad base g v s n w h h0 (by omega)
  rw [if_neg h0]
  have h0' : s.err = 0 := by simpa using h0
  by_cases h1 : n < 0
  · rw [if_pos h1]; exact rraw_neg base g v s n w h h1
  rw [if_neg h1]
  by_cases h2 : (s.rest : Int) < n
  · rw [if_pos h2]; exact rraw_short base g v s n w h h0' (by omega) h2
  rw [if_neg h2]
  obtain ⟨k, rfl⟩ : ∃ k : Nat, n = (k : Int) := ⟨n.toNat, by omega⟩
  have hk : k ≤ s.rest := by omega
  rw [show ((k : Int)).toNat = k by omega]
  rcases h.row with ⟨rfl, hb, hp⟩ | ⟨q, c, rfl, hc, _⟩
  · exact rraw_nil base g s k w h h0' hk hb hp
  · have hle := h.ok.le
    by_cases hcp : c = s.p
    · exact rraw_end base g q _ c s k w h h0' hk rfl hc hcp
    · exact rraw_in base g q _ c s k w h h0' hk rfl hc (by omega)

set_option maxHeartbeats 400000 in
set_option maxRecDepth 100000 in
theorem readFixed_is (A : Option Addr) (n c : Nat) (bs : List Nat) (w : World) (hr : Rd w A (b8 bs)) (hn : bs.length = n) (hby : By bs) (hl : n ≤ 8) :
    Calls Try.prog 107 #[.slice A n c] w fun r w' => r = .returned (.int .u64 (val bs : Nat)) ∧ w = w' := by
  have HM := Lib.hid hn.symm
  have HY := Lib.hid hby
  have HR := Lib.hid hr
  clear hn hby hr
  go_enter Try.func107, Try.ntmps107
  go_wp2
  go_loop [3, 4] (fun x i => ∃ k : Nat, k ≤ n ∧ i = .int .i64 k ∧ x = .int .u64 (val (bs.take k) : Nat)) (fun _ i => n - (intOf i).toNat)
  case atStart => exact ⟨0, Nat.zero_le _, rfl, rfl⟩
  case round =>
    obtain ⟨k, hk, rfl, rfl⟩ := hrel
    by_cases hlt : k < n
    · obtain ⟨x, hx⟩ : ∃ x, bs[k]? = some x := ⟨_, List.getElem?_eq_getElem (by rw [← HM.out]; exact hlt)⟩
      have hxl := HY.out x (List.mem_of_getElem? hx)
      obtain ⟨gA, off, rfl, hgA, hcell⟩ := HR.out (by rintro e; have : bs = [] := (by simpa [b8] using e); subst this; simp at hx)
      have d0 := hcell k (.int .u8 (x : Int)) (by rw [b8_get, hx]; rfl)
      have hv := val_lt k (bs.take k) (fun b hb => HY.out b (List.mem_of_mem_take hb)) (by simp; rw [← HM.out]; omega)
      have hv2 : val (bs.take k) < 72057594037927936 := by
        have h2 : (256 : Nat) ^ k ≤ 256 ^ 7 := Nat.pow_le_pow_right (by omega) (by omega)
        have h3 : (256 : Nat) ^ 7 = 72057594037927936 := by decide
        omega
      have HV := Lib.hid (val_take hx)
      obtain ⟨z, hz⟩ : ∃ z, z = val (bs.take k) := ⟨_, rfl⟩
      rw [← hz] at HV hv2 ⊢
      clear hcell hx hv hz
      go_wp2
      go_round
      case rel => exact ⟨k + 1, by omega, by go_num, by rw [HV.out]; go_num⟩
      case measure => simp [intOf]; omega
    · have e0 : bs.take k = bs := List.take_of_length_le (by rw [← HM.out]; omega)
      rw [e0]
      clear e0
      go_wp2
      go_ret
      exact ⟨rfl, rfl⟩

theorem val_one {s : Rs} : val (s.take 1).1 = (s.take 1).1.headD 0 := by
  have h := s.take_len4 1
  have e1 : ((1 : Nat) : Int) = 1 := rfl
  rw [e1] at h
  cases hq : (s.take 1).1 with
  | nil => rfl
  | cons x r =>
    rw [hq] at h
    have : r = [] := by simpa using h
    subst this
    simp [val]
theorem Rs.val1 {s : Rs} (h : s.Ok) : val (s.take 1).1 < 256 := by
  have h1 := val_lt _ _ (s.take_by h 1) rfl
  have h2 := s.take_len4 1
  have h3 : (256 : Nat) ^ (s.take 1).1.length ≤ 256 ^ 1 := Nat.pow_le_pow_right (by omega) h2
  omega

section
variable (base g : Nat) (v : Value) (s : Rs) (w : World) (h : Rdr base w 113 Rs.rcells g v s)
include h
set_option maxRecDepth 100000 in
theorem rbyte_r :
    Calls Try.prog 90 #[.pointer (some ⟨g, 0, none⟩)] w (Gave base w 113 Rs.rcells g v (.int .u8 ((s.take 1).1.headD 0 : Nat)) (s.take 1).2) := by
  rw [← val_one]
  have P1 := Lib.hid (rraw_all base g v s 1 w h)
  unfold Rawed at P1
  have hv := Rs.val1 h.ok
  have hl : (s.take 1).1.length ≤ 1 := s.take_len4 1
  have HY := Lib.hid (s.take_by h.ok 1)
  obtain ⟨q, hq⟩ : ∃ q, q = s.take 1 := ⟨_, rfl⟩
  rw [← hq] at P1 hv hl HY ⊢
  have P2 := Lib.hid (fun A c W (hr : Rd W A (b8 q.1)) => readFixed_is A q.1.length c q.1 W hr rfl HY.out (by omega))
  obtain ⟨z, hz⟩ : ∃ z, z = val q.1 := ⟨_, rfl⟩
  rw [← hz] at P2 hv ⊢
  clear h hq hz
  go_enter Try.func90, Try.ntmps90
  go_wp2_with (first
    | (go_at_call 102; refine P1.out.mono ?_; rintro r w1 ⟨A1, c1, rfl, ho1, ht⟩; have HT := Lib.hid ht; have HO := Lib.hid ho1; clear ht ho1)
    | (go_at_call 107; refine (P2.out _ _ _ (rd_own HO.out)).mono ?_; rintro r w2 ⟨rfl, rfl⟩))
  go_ret
  exact ⟨rfl, HT.out⟩
set_option maxRecDepth 100000 in
theorem ru32_r :
    Calls Try.prog 96 #[.pointer (some ⟨g, 0, none⟩)] w (Gave base w 113 Rs.rcells g v (.int .u32 (val (s.take 4).1 : Nat)) (s.take 4).2) := by
  have P1 := Lib.hid (rraw_all base g v s 4 w h)
  unfold Rawed at P1
  have hv := Rs.val4 h.ok
  have hl : (s.take 4).1.length ≤ 4 := s.take_len4 4
  have HY := Lib.hid (s.take_by h.ok 4)
  obtain ⟨q, hq⟩ : ∃ q, q = s.take 4 := ⟨_, rfl⟩
  rw [← hq] at P1 hv hl HY ⊢
  have P2 := Lib.hid (fun A c W (hr : Rd W A (b8 q.1)) => readFixed_is A q.1.length c q.1 W hr rfl HY.out (by omega))
  obtain ⟨z, hz⟩ : ∃ z, z = val q.1 := ⟨_, rfl⟩
  rw [← hz] at P2 hv ⊢
  clear h hq hz
  go_enter Try.func96, Try.ntmps96
  go_wp2_with (first
    | (go_at_call 102; refine P1.out.mono ?_; rintro r w1 ⟨A1, c1, rfl, ho1, ht⟩; have HT := Lib.hid ht; have HO := Lib.hid ho1; clear ht ho1)
    | (go_at_call 107; refine (P2.out _ _ _ (rd_own HO.out)).mono ?_; rintro r w2 ⟨rfl, rfl⟩))
  go_ret
  exact ⟨rfl, HT.out⟩
set_option maxRecDepth 100000 in
theorem ru64_r :
    Calls Try.prog 98 #[.pointer (some ⟨g, 0, none⟩)] w (Gave base w 113 Rs.rcells g v (.int .u64 (val (s.take 8).1 : Nat)) (s.take 8).2) := by
  have P1 := Lib.hid (rraw_all base g v s 8 w h)
  unfold Rawed at P1
  have hl : (s.take 8).1.length ≤ 8 := s.take_len4 8
  have HY := Lib.hid (s.take_by h.ok 8)
  obtain ⟨q, hq⟩ : ∃ q, q = s.take 8 := ⟨_, rfl⟩
  rw [← hq] at P1 hl HY ⊢
  have P2 := Lib.hid (fun A c W (hr : Rd W A (b8 q.1)) => readFixed_is A q.1.length c q.1 W hr rfl HY.out (by omega))
  clear h hq
  go_enter Try.func98, Try.ntmps98
  go_wp2_with (first
    | (go_at_call 102; refine P1.out.mono ?_; rintro r w1 ⟨A1, c1, rfl, ho1, ht⟩; have HT := Lib.hid ht; have HO := Lib.hid ho1; clear ht ho1)
    | (go_at_call 107; refine (P2.out _ _ _ (rd_own HO.out)).mono ?_; rintro r w2 ⟨rfl, rfl⟩))
  go_ret
  exact ⟨rfl, HT.out⟩
end
set_option maxRecDepth 100000 in
theorem rbyte_rnone (w : World) :
    Calls Try.prog 90 #[.pointer none] w fun r w' => r = .returned (.int .u8 0) ∧ w = w' := by
  have P2 := Lib.hid (fun W => readFixed_is none 0 0 [] W (Rd.nil_ _ _) rfl (fun b hb => by cases hb) (by omega))
  go_enter Try.func90, Try.ntmps90
  go_wp2_with (first
    | (go_at_call 102; refine (rraw_rnone _ _).mono ?_; rintro r w1 ⟨rfl, rfl⟩)
    | (go_at_call 107; refine (P2.out _).mono ?_; rintro r w2 ⟨rfl, rfl⟩))
  go_ret
  exact ⟨rfl, rfl⟩
set_option maxRecDepth 100000 in
theorem ru32_rnone (w : World) :
    Calls Try.prog 96 #[.pointer none] w fun r w' => r = .returned (.int .u32 0) ∧ w = w' := by
  have P2 := Lib.hid (fun W => readFixed_is none 0 0 [] W (Rd.nil_ _ _) rfl (fun b hb => by cases hb) (by omega))
  go_enter Try.func96, Try.ntmps96
  go_wp2_with (first
    | (go_at_call 102; refine (rraw_rnone _ _).mono ?_; rintro r w1 ⟨rfl, rfl⟩)
    | (go_at_call 107; refine (P2.out _).mono ?_; rintro r w2 ⟨rfl, rfl⟩))
  go_ret
  exact ⟨rfl, rfl⟩
set_option maxRecDepth 100000 in
theorem ru64_rnone (w : World) :
    Calls Try.prog 98 #[.pointer none] w fun r w' => r = .returned (.int .u64 0) ∧ w = w' := by
  have P2 := Lib.hid (fun W => readFixed_is none 0 0 [] W (Rd.nil_ _ _) rfl (fun b hb => by cases hb) (by omega))
  go_enter Try.func98, Try.ntmps98
  go_wp2_with (first
    | (go_at_call 102; refine (rraw_rnone _ _).mono ?_; rintro r w1 ⟨rfl, rfl⟩)
    | (go_at_call 107; refine (P2.out _).mono ?_; rintro r w2 ⟨rfl, rfl⟩))
  go_ret
  exact ⟨rfl, rfl⟩

set_option maxRecDepth 100000 in
theorem rend_bad (base g : Nat) (v : Value) (s : Rs) (w : World) (h : Rdr base w 113 Rs.rcells g v s) (h0 : s.err ≠ 0) :
    Calls Try.prog 59 #[.pointer (some ⟨g, 0, none⟩)] w fun r w' => r = .returned (.agg #[.int .i64 s.err, .int .i64 (s.ea : Int)]) ∧ Below w.heap.size w w' := by
  obtain ⟨c0, c1, c2, c3, f1, f2, f3⟩ := h.rf
  have hlt := h.lt
  have hb : (s.err != 0) = true := by simpa using h0
  clear h
  go_enter Try.func59, Try.ntmps59
  go_wp2
  go_quiet (fail)
  go_wp2
  refine bodyPost_ret (v := .agg #[.int .i64 s.err, .int .i64 (s.ea : Int)]) (by simp [results, Try.results59, go_sem, *]) rfl ⟨rfl, ?_⟩
  exact ((below_drewN ((Below.refl _ _).alloc (Nat.le_refl _) _) nq).setCell (Nat.le_refl _) _).setCell (Nat.le_refl _) _
set_option maxRecDepth 100000 in
theorem rend_left (base g : Nat) (v : Value) (s : Rs) (w : World) (h : Rdr base w 113 Rs.rcells g v s) (h0 : s.err = 0) (hp : s.p < s.bs.length) :
    Calls Try.prog 59 #[.pointer (some ⟨g, 0, none⟩)] w fun r w' => r = .returned (.agg #[.int .i64 13, .int .i64 (s.p : Int)]) ∧ Below w.heap.size w w' := by
  obtain ⟨c0, c1, c2, c3, f1, f2, f3⟩ := h.rf
  obtain ⟨A, c, rfl, _⟩ := own_shape h.own
  have hlt := h.lt
  rw [h0] at c2
  obtain ⟨p, hpp⟩ : ∃ p, p = s.p := ⟨_, rfl⟩
  obtain ⟨n, hn⟩ : ∃ n, n = s.bs.length := ⟨_, rfl⟩
  rw [← hpp] at c1 hp ⊢
  rw [← hn] at c0 hp
  have hne : ((p : Int) == (n : Int)) = false := by rw [beq_eq_false_iff_ne]; omega
  clear h hpp hn
  go_enter Try.func59, Try.ntmps59
  go_wp2
  go_quiet (fail)
  go_wp2
  refine bodyPost_ret (v := .agg #[.int .i64 13, .int .i64 (p : Int)]) (by simp [results, Try.results59, go_sem, *]) rfl ⟨rfl, ?_⟩
  exact ((below_drewN ((Below.refl _ _).alloc (Nat.le_refl _) _) nq).setCell (Nat.le_refl _) _).setCell (Nat.le_refl _) _
set_option maxRecDepth 100000 in
theorem rend_ok (base g : Nat) (v : Value) (s : Rs) (w : World) (h : Rdr base w 113 Rs.rcells g v s) (h0 : s.err = 0) (hp : s.p = s.bs.length) :
    Calls Try.prog 59 #[.pointer (some ⟨g, 0, none⟩)] w fun r w' => r = .returned (.agg #[.int .i64 0, .int .i64 0]) ∧ Below w.heap.size w w' := by
  obtain ⟨c0, c1, c2, c3, f1, f2, f3⟩ := h.rf
  obtain ⟨A, c, rfl, _⟩ := own_shape h.own
  have hlt := h.lt
  rw [h.ok.zero h0] at c3
  rw [h0] at c2
  obtain ⟨p, hpp⟩ : ∃ p, p = s.p := ⟨_, rfl⟩
  rw [← hp, ← hpp] at c0
  rw [← hpp] at c1
  clear h hpp hp
  go_enter Try.func59, Try.ntmps59
  go_wp2
  go_quiet (fail)
  go_wp2
  refine bodyPost_ret (v := .agg #[.int .i64 0, .int .i64 0]) (by simp [results, Try.results59, go_sem, *]) rfl ⟨rfl, ?_⟩
  exact ((below_drewN ((Below.refl _ _).alloc (Nat.le_refl _) _) nq).setCell (Nat.le_refl _) _).setCell (Nat.le_refl _) _
theorem rend_r (base g : Nat) (v : Value) (s : Rs) (w : World) (h : Rdr base w 113 Rs.rcells g v s) :
    Calls Try.prog 59 #[.pointer (some ⟨g, 0, none⟩)] w fun r w' => r = .returned (.agg #[.int .i64 s.fin.1, .int .i64 (s.fin.2 : Int)]) ∧ Below w.heap.size w w' := by
  unfold Rs.fin
  by_cases h0 : s.err = 0
  · have hle := h.ok.le
    by_cases hp : s.p < s.bs.length
    · simp only [h0, ne_eq, not_true_eq_false, if_false, hp, if_true]
      exact rend_left base g v s w h h0 hp
    · simp only [h0, ne_eq, not_true_eq_false, if_false, hp]
      exact rend_ok base g v s w h h0 (by omega)
  · simp only [h0, ne_eq, not_false_eq_true, if_true]
    exact rend_bad base g v s w h h0
set_option maxRecDepth 100000 in
theorem rend_rnone (w : World) :
    Calls Try.prog 59 #[.pointer none] w fun r w' => r = .returned (.agg #[.int .i64 0, .int .i64 0]) ∧ Below w.heap.size w w' := by
  go_enter Try.func59, Try.ntmps59
  go_wp2
  go_quiet (fail)
  go_wp2
  refine bodyPost_ret (v := .agg #[.int .i64 0, .int .i64 0]) (by simp [results, Try.results59, go_sem, *]) rfl ⟨rfl, ?_⟩
  exact ((below_drewN ((Below.refl _ _).alloc (Nat.le_refl _) _) nq).setCell (Nat.le_refl _) _).setCell (Nat.le_refl _) _

set_option maxRecDepth 100000 in
theorem rnewReader_is (A : Option Addr) (n c : Nat) (bs : List Nat) (w : World) (hr : Rd w A (b8 bs)) (hn : bs.length = n) (hby : By bs) (hl : n ≤ 140737488351232) :
    Calls Try.prog 54 #[.slice A n c] w (Newed w 113 Rs.rcells bs) := by
  have HN := Lib.hid hn
  have HY := Lib.hid hby
  have b0 := (Below.refl w.heap.size w).alloc (Nat.le_refl _) (.cells #[] 5)
  have HR := Lib.hid (hr.below b0)
  have B0 := Lib.hid b0
  have HO0 := Lib.hid (own_lit w w.heap.size [] 5 0 (Nat.le_refl _) (by decide) rfl)
  clear hn hby hr b0
  go_enter Try.func54, Try.ntmps54
  go_wp2_with (at_builtin; (refine app8 _ rfl (.tmp 3) (.tmp 4) rfl w.heap.size _ 0 [] rfl HO0.out A n c bs rfl HN.out HR.out (by omega) (by simp) ?_); intro v' w2 ho hg hn; (rw [Nat.zero_add] at ho); obtain ⟨A9, c9, rfl, _⟩ := own_shape ho; have HO := Lib.hid ho; have HG := Lib.hid hg; clear ho hg hn)
  go_ret
  have hb := B0.out.trans (below_of_grown HG.out B0.out.size (fun k hk => (HO0.out.lt k hk).1))
  exact ⟨_, _, rfl, rdr_new (cf := Rs.rcells) HO.out HN.out.symm rfl HY.out (by rw [HN.out]; exact hl) hb.size, hb.alloc hb.size _⟩
end Go.Proofs.Ytfgjlplfpjfnoaa
