/- Readers: Byte, U32, U64. -/
import Derived.Test.YtfgjlplfpjfnoaaRdr2
namespace Go.Proofs.Ytfgjlplfpjfnoaa
open Go Go.RowKit
set_option linter.unusedVariables false
set_option linter.unusedSimpArgs false

/-- A step that gives a value. -/
def Gave (base : Nat) (w : World) (T : TypeId) (cf : Rs → Value → Array Value) (g : Nat) (v : Value) (x : Value) (s' : Rs) (r : Ending) (w' : World) : Prop := r = .returned x ∧ Turned base w T cf g v s' w'

/-- Bytes as a number. -/
def val (bs : List Nat) : Nat := bs.foldl (fun v c => v * 256 + c) 0
theorem val_snoc (bs : List Nat) (c : Nat) : val (bs ++ [c]) = val bs * 256 + c := by simp [val]
theorem val_lt : ∀ (n : Nat) (bs : List Nat), By bs → bs.length = n → val bs < 256 ^ n
  | 0, bs, _, h => by
    have : bs = [] := List.eq_nil_of_length_eq_zero h
    subst this
    simp [val]
  | n + 1, bs, hb, h => by
    have hne : bs ≠ [] := by rintro rfl; simp at h
    obtain ⟨ys, y, rfl⟩ : ∃ ys y, bs = ys ++ [y] := ⟨bs.dropLast, bs.getLast hne, (List.dropLast_concat_getLast hne).symm⟩
    have h1 := val_lt n ys (fun b hb' => hb b (by simp [hb'])) (by simpa using h)
    have h2 := hb y (by simp)
    rw [val_snoc, Nat.pow_succ]
    omega
theorem val_lt8 {bs : List Nat} (h : By bs) (hl : bs.length ≤ 8) : val bs < 18446744073709551616 := by
  have h1 := val_lt bs.length bs h rfl
  have h2 : (256 : Nat) ^ bs.length ≤ 256 ^ 8 := Nat.pow_le_pow_right (by omega) hl
  have h3 : (256 : Nat) ^ 8 = 18446744073709551616 := by decide
  omega
theorem val_take {bs : List Nat} {k x : Nat} (hx : bs[k]? = some x) : val (bs.take (k + 1)) = val (bs.take k) * 256 + x := by
  obtain ⟨hk, rfl⟩ := List.getElem?_eq_some_iff.1 hx
  rw [List.take_succ_eq_append_getElem hk, val_snoc]
/-- A byte put behind. -/
theorem shl8_or (v c : Nat) (hv : v < 72057594037927936) (hc : c < 256) : bits .or .u64 ((v : Int) * 256) (c : Int) = ((v * 256 + c : Nat) : Int) := by
  have e1 : ((v : Int) * 256) = ((v * 256 : Nat) : Int) := by omega
  rw [e1, u64_or_nat _ _ (by omega) (by omega), nat_join 8 (v * 256) c (by omega) (by omega)]

set_option maxHeartbeats 400000 in
set_option maxRecDepth 100000 in
theorem byte_r (base g : Nat) (v : Value) (s : Rs) (w : World) (h : Rdr base w 78 Rs.cells g v s) :
    Calls Try.prog 89 #[.pointer (some ⟨g, 0, none⟩)] w (Gave base w 78 Rs.cells g v (.int .u8 ((s.take 1).1.headD 0 : Nat)) (s.take 1).2) := by
  have P1 := Lib.hid (take_is base g v s 1 w h)
  unfold Took at P1
  obtain ⟨q, hq⟩ : ∃ q, q = s.take 1 := ⟨_, rfl⟩
  rw [← hq] at P1 ⊢
  clear h hq
  obtain ⟨bs, s'⟩ := q
  simp only at P1 ⊢
  cases bs with
  | nil =>
    go_enter Try.func89, Try.ntmps89
    go_wp2_with (go_at_call 106; refine P1.out.mono ?_; rintro r w1 ⟨A1, c1, rfl, _, hr1, ht1⟩; have HT := Lib.hid ht1; clear hr1 ht1)
    go_loop [8] (fun i => i = .int .i64 0) (fun i => 0)
    case atStart => rfl
    case round =>
      subst hrel
      go_wp2
      go_ret
      exact ⟨rfl, HT.out⟩
  | cons x rest =>
    obtain ⟨m, hm⟩ : ∃ m, m = (x :: rest).length := ⟨_, rfl⟩
    rw [← hm] at P1
    have i1 : (0 : Int) < (m : Int) := by simp only [List.length_cons] at hm; omega
    clear hm
    go_enter Try.func89, Try.ntmps89
    go_wp2_with (go_at_call 106; refine P1.out.mono ?_; rintro r w1 ⟨A1, c1, rfl, hc1, hr1, ht1⟩; have HT := Lib.hid ht1; have HR := Lib.hid hr1; clear hr1 ht1)
    obtain ⟨gA, off, rfl, hgA, hcell⟩ := HR.out (by simp [b8])
    have d0 := hcell 0 (.int .u8 (x : Int)) (by simp [b8])
    rw [Nat.add_zero] at d0
    clear hcell
    go_loop [8] (fun i => i = .int .i64 0) (fun i => 0)
    case atStart => rfl
    case round =>
      subst hrel
      go_wp2
      go_ret
      exact ⟨rfl, HT.out⟩
set_option maxHeartbeats 400000 in
set_option maxRecDepth 100000 in
theorem byte_rnone (w : World) :
    Calls Try.prog 89 #[.pointer none] w fun r w' => r = .returned (.int .u8 0) ∧ w = w' := by
  go_enter Try.func89, Try.ntmps89
  go_wp2_with (go_at_call 106; refine (take_none _ _).mono ?_; rintro r w1 ⟨rfl, rfl⟩)
  go_loop [8] (fun i => i = .int .i64 0) (fun i => 0)
  case atStart => rfl
  case round =>
    subst hrel
    go_wp2
    go_ret
    exact ⟨rfl, rfl⟩

set_option maxHeartbeats 400000 in
set_option maxRecDepth 100000 in
theorem fixed_r (base g : Nat) (v : Value) (s : Rs) (n : Nat) (w : World) (h : Rdr base w 78 Rs.cells g v s) (hn : n ≤ 8) :
    Calls Try.prog 108 #[.pointer (some ⟨g, 0, none⟩), .int .i64 (n : Int)] w (Gave base w 78 Rs.cells g v (.int .u64 (val (s.take n).1 : Nat)) (s.take n).2) := by
  have P1 := Lib.hid (take_is base g v s n w h)
  unfold Took at P1
  have hby := s.take_by h.ok n
  have hlen : (s.take n).1.length ≤ 8 := by
    unfold Rs.take
    split
    · simp
    split
    · simp
    split
    · simp
    · simp only [List.length_take]; omega
  obtain ⟨q, hq⟩ : ∃ q, q = s.take n := ⟨_, rfl⟩
  rw [← hq] at P1 hby hlen ⊢
  clear h hq
  obtain ⟨bs, s'⟩ := q
  simp only at P1 hby hlen ⊢
  obtain ⟨m, hm⟩ : ∃ m, m = bs.length := ⟨_, rfl⟩
  rw [← hm] at P1 hlen
  have HM := Lib.hid hm
  have HY := Lib.hid hby
  clear hm hby
  go_enter Try.func108, Try.ntmps108
  go_wp2_with (go_at_call 106; refine P1.out.mono ?_; rintro r w1 ⟨A1, c1, rfl, hc1, hr1, ht1⟩; have HT := Lib.hid ht1; have HR := Lib.hid hr1; clear hr1 ht1)
  go_loop [5, 12] (fun x i => ∃ k : Nat, k ≤ m ∧ i = .int .i64 k ∧ x = .int .u64 (val (bs.take k) : Nat)) (fun _ i => m - (intOf i).toNat)
  case atStart => exact ⟨0, Nat.zero_le _, rfl, rfl⟩
  case round =>
    obtain ⟨k, hk, rfl, rfl⟩ := hrel
    by_cases hlt : k < m
    · obtain ⟨x, hx⟩ : ∃ x, bs[k]? = some x := ⟨_, List.getElem?_eq_getElem (by rw [← HM.out]; exact hlt)⟩
      have hxl := HY.out x (List.mem_of_getElem? hx)
      obtain ⟨gA, off, rfl, hgA, hcell⟩ := HR.out (by rintro e; have : bs = [] := (by simpa [b8] using e); subst this; simp at hx)
      have d0 := hcell k (.int .u8 (x : Int)) (by rw [b8_get, hx]; rfl)
      have hv := val_lt k (bs.take k) (fun b hb => HY.out b (List.mem_of_mem_take hb)) (by simp; rw [← HM.out]; omega)
      have hv2 : val (bs.take k) < 72057594037927936 := by
        have h2 : (256 : Nat) ^ k ≤ 256 ^ 7 := Nat.pow_le_pow_right (by omega) (by omega)
        have h3 : (256 : Nat) ^ 7 = 72057594037927936 := by decide
        omega
      have HV := Lib.hid (val_take hx)
      obtain ⟨z, hz⟩ : ∃ z, z = val (bs.take k) := ⟨_, rfl⟩
      rw [← hz] at HV hv2 ⊢
      have e1 := shl8_or z x hv2 hxl
      clear hcell hx hv hz
      go_wp2
      go_round
      case rel => exact ⟨k + 1, by omega, by go_num, by rw [HV.out]; go_num⟩
      case measure => simp [intOf]; omega
    · have e0 : bs.take k = bs := List.take_of_length_le (by rw [← HM.out]; omega)
      rw [e0]
      clear e0
      go_wp2
      go_ret
      exact ⟨rfl, HT.out⟩

set_option maxHeartbeats 400000 in
set_option maxRecDepth 100000 in
theorem fixed_rnone (n : Int) (w : World) :
    Calls Try.prog 108 #[.pointer none, .int .i64 n] w fun r w' => r = .returned (.int .u64 0) ∧ w = w' := by
  go_enter Try.func108, Try.ntmps108
  go_wp2_with (go_at_call 106; refine (take_none _ _).mono ?_; rintro r w1 ⟨rfl, rfl⟩)
  go_loop [5, 12] (fun x i => i = .int .i64 0 ∧ x = .int .u64 0) (fun _ i => 0)
  case atStart => exact ⟨rfl, rfl⟩
  case round =>
    obtain ⟨rfl, rfl⟩ := hrel
    go_wp2
    go_ret
    exact ⟨rfl, rfl⟩

theorem Rs.take_len4 (s : Rs) (n : Nat) : (s.take n).1.length ≤ n := by
  unfold Rs.take
  split
  · simp
  split
  · simp
  split
  · simp
  · simp only [List.length_take]; omega
theorem Rs.val4 {s : Rs} (h : s.Ok) : val (s.take 4).1 < 4294967296 := by
  have h1 := val_lt _ _ (s.take_by h 4) rfl
  have h2 := s.take_len4 4
  have h3 : (256 : Nat) ^ (s.take 4).1.length ≤ 256 ^ 4 := Nat.pow_le_pow_right (by omega) h2
  have h4 : (256 : Nat) ^ 4 = 4294967296 := by decide
  omega
set_option maxRecDepth 100000 in
theorem u32_r (base g : Nat) (v : Value) (s : Rs) (w : World) (h : Rdr base w 78 Rs.cells g v s) :
    Calls Try.prog 95 #[.pointer (some ⟨g, 0, none⟩)] w (Gave base w 78 Rs.cells g v (.int .u32 (val (s.take 4).1 : Nat)) (s.take 4).2) := by
  have P1 := Lib.hid (fixed_r base g v s 4 w h (by omega))
  unfold Gave at P1 ⊢
  have hv := Rs.val4 h.ok
  have e4 : (((4 : Nat) : Int)) = 4 := rfl
  rw [e4] at P1
  obtain ⟨q, hq⟩ : ∃ q, q = s.take 4 := ⟨_, rfl⟩
  rw [← hq] at P1 hv ⊢
  obtain ⟨z, hz⟩ : ∃ z, z = val q.1 := ⟨_, rfl⟩
  rw [← hz] at P1 hv ⊢
  clear h hq hz e4
  go_enter Try.func95, Try.ntmps95
  go_wp2_with (go_at_call 108; refine P1.out.mono ?_; rintro r w1 ⟨rfl, ht⟩; have HT := Lib.hid ht; clear ht)
  go_ret
  exact ⟨rfl, HT.out⟩
set_option maxRecDepth 100000 in
theorem u64_r (base g : Nat) (v : Value) (s : Rs) (w : World) (h : Rdr base w 78 Rs.cells g v s) :
    Calls Try.prog 97 #[.pointer (some ⟨g, 0, none⟩)] w (Gave base w 78 Rs.cells g v (.int .u64 (val (s.take 8).1 : Nat)) (s.take 8).2) := by
  have P1 := Lib.hid (fixed_r base g v s 8 w h (by omega))
  unfold Gave at P1 ⊢
  have e4 : (((8 : Nat) : Int)) = 8 := rfl
  rw [e4] at P1
  clear h e4
  go_enter Try.func97, Try.ntmps97
  go_wp2_with (go_at_call 108; refine P1.out.mono ?_; rintro r w1 ⟨rfl, ht⟩; have HT := Lib.hid ht; clear ht)
  go_ret
  exact ⟨rfl, HT.out⟩
set_option maxRecDepth 100000 in
theorem u32_rnone (w : World) :
    Calls Try.prog 95 #[.pointer none] w fun r w' => r = .returned (.int .u32 0) ∧ w = w' := by
  go_enter Try.func95, Try.ntmps95
  go_wp2_with (go_at_call 108; refine (fixed_rnone _ _).mono ?_; rintro r w1 ⟨rfl, rfl⟩)
  go_ret
  exact ⟨rfl, rfl⟩
set_option maxRecDepth 100000 in
theorem u64_rnone (w : World) :
    Calls Try.prog 97 #[.pointer none] w fun r w' => r = .returned (.int .u64 0) ∧ w = w' := by
  go_enter Try.func97, Try.ntmps97
  go_wp2_with (go_at_call 108; refine (fixed_rnone _ _).mono ?_; rintro r w1 ⟨rfl, rfl⟩)
  go_ret
  exact ⟨rfl, rfl⟩
end Go.Proofs.Ytfgjlplfpjfnoaa
