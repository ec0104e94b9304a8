/- OctetLinear: its walk. -/
import Derived.Test.YtfgjlplfpjfnoaaSums
import Derived.Test.YtfgjlplfpjfnoaaWalkOctetBurst
import Derived.Deep.RegionWith
import Derived.Deep.RegionHeld3
namespace Go.Proofs.Ytfgjlplfpjfnoaa
open Go Go.RowKit
set_option linter.unusedVariables false

theorem info8m : (Try.prog.info? 5).map (fun i => (i.zero, i.size, i.bytes)) = some (some (.int .u8 0), 1, 1) := by kernel_rfl

theorem ext_a : Crc.ext 0 [97] = 3251651376 := by decide +kernel

theorem xor3_length : ∀ (a b c : List Nat), a.length = b.length → b.length = c.length → (Crc.xor3 a b c).length = a.length := by
  intro a
  induction a with
  | nil => intro b c _ _; cases b <;> cases c <;> rfl
  | cons x l ih =>
    intro b c h1 h2
    cases b with
    | nil => simp at h1
    | cons y m =>
      cases c with
      | nil => simp at h2
      | cons z k => simp only [Crc.xor3, List.length_cons]; rw [ih m k (by simpa using h1) (by simpa using h2)]

theorem xor3_get : ∀ (a b c : List Nat) (i x y z : Nat), a[i]? = some x → b[i]? = some y → c[i]? = some z → (Crc.xor3 a b c)[i]? = some (x ^^^ y ^^^ z) := by
  intro a
  induction a with
  | nil => intro b c i x y z h _ _; simp at h
  | cons p l ih =>
    intro b c i x y z h1 h2 h3
    cases b with
    | nil => simp at h2
    | cons q m =>
      cases c with
      | nil => simp at h3
      | cons r k =>
        cases i with
        | zero => simp at h1 h2 h3; subst h1 h2 h3; simp [Crc.xor3]
        | succ i => simp only [Crc.xor3, List.getElem?_cons_succ] at *; exact ih m k i x y z h1 h2 h3

theorem bits_xor3 (x y z : Nat) (hx : x < 256) (hy : y < 256) (hz : z < 256) : bits .xor .u8 (bits .xor .u8 (x : Int) (y : Int)) (z : Int) = ((x ^^^ y ^^^ z : Nat) : Int) := by
  rw [u8_xor_nat x y hx hy]
  exact u8_xor_nat (x ^^^ y) z (Crc.xor_lt (n := 8) hx hy) hz

theorem take_step {l : List Nat} {k x : Nat} {r : List Nat} (h : l[k]? = some x) : (l.take k ++ x :: r) = l.take (k + 1) ++ r := by
  have hk := (List.getElem?_eq_some_iff.1 h).1
  have hx := (List.getElem?_eq_some_iff.1 h).2
  rw [List.take_succ_eq_append_getElem hk, hx]
  simp

/-- A list being filled from its head. -/
theorem fill_set (xs : List Nat) (n k x : Nat) (hk : k < n) (hx : xs[k]? = some x) :
    (xs.take k ++ List.replicate (n - k) 0).set k x = xs.take (k + 1) ++ List.replicate (n - (k + 1)) 0 := by
  have hkl := (List.getElem?_eq_some_iff.1 hx).1
  obtain ⟨m, hm⟩ : ∃ m, n - k = m + 1 := ⟨n - k - 1, by omega⟩
  have hl : (xs.take k).length = k := by rw [List.length_take]; omega
  rw [List.set_append_right _ _ (by omega), hl, Nat.sub_self, hm, show n - (k + 1) = m from by omega, List.replicate_succ, List.set_cons_zero]
  exact take_step hx

/-- What holds of memory behind the loop. -/
structure LinS (w : World) (n : Nat) (xs : List Nat) (W : World) : Prop where
  below : Below w.heap.size w W
  own : W.ownsRow w.heap.size 5 1 (.slice (some ⟨w.heap.size, 0, none⟩) n n) n (b8 xs)
theorem LinS.alloc {w : World} {n : Nat} {xs : List Nat} {W : World} (h : LinS w n xs W) (o : Obj) : LinS w n xs (W.alloc o) := ⟨h.1.alloc h.1.size _, h.2.alloc o⟩
theorem LinS.more {w : World} {n : Nat} {xs : List Nat} {W W' : World} (h : LinS w n xs W) (hb : Below W.heap.size W W') : LinS w n xs W' :=
  ⟨h.1.trans (hb.mono h.1.size), own_below h.2 hb⟩

/-- The sum by a name; what was known of memory stays known. -/
theorem sum_is (A : Option Addr) (n c : Nat) (bs : List Nat) (w : World) (z : Nat) (hr : Rd w A (b8 bs)) (hby : By bs) (hn : bs.length = n) (hl : n ≤ 140737488355328) (hz : z = Crc.ext 0 bs) :
    Calls Try.prog 34 #[.slice A n c] w fun e w' => e = .returned (.int .u32 (z : Int)) ∧ Below w.heap.size w w' := by
  subst hz
  exact sum_any A n c bs w hr hby hn hl

set_option maxHeartbeats 2000000 in
set_option maxRecDepth 100000 in
theorem octetLinear_core (A0 : Option Addr) (c0 : Nat) (b0 : List Nat) (A1 : Option Addr) (c1 : Nat) (b1 : List Nat) (A2 : Option Addr) (c2 : Nat) (b2 : List Nat) (n m0 m1 m2 : Nat) (w : World) (c0l : n ≤ c0) (r0 : Rd w A0 (b8 b0)) (y0 : By b0) (l0 : m0 ≤ 140737488351232) (c1l : n ≤ c1) (r1 : Rd w A1 (b8 b1)) (y1 : By b1) (l1 : m1 ≤ 140737488351232) (c2l : n ≤ c2) (r2 : Rd w A2 (b8 b2)) (y2 : By b2) (l2 : m2 ≤ 140737488351232)
    (n0 : n ≤ b0.length) (n1 : n ≤ b1.length) (n2 : n ≤ b2.length) (k0 : n ≤ m0) (k1 : n ≤ m1) (k2 : n ≤ m2) (hn : n = m0 ∨ (n = m1 ∧ n < m0) ∨ (n = m2 ∧ n < m0 ∧ n < m1)) :
    Calls Try.prog 8 #[.slice A0 m0 c0, .slice A1 m1 c1, .slice A2 m2 c2] w fun e w' => e = .returned (.bool true) ∧ Below w.heap.size w w' := by
  have hlen : n ≤ 140737488351232 := by omega
  obtain ⟨xs, hxs⟩ : ∃ xs, xs = Crc.xor3 (b0.take n) (b1.take n) (b2.take n) := ⟨_, rfl⟩
  have t0 : (b0.take n).length = n := by rw [List.length_take]; omega
  have t1 : (b1.take n).length = n := by rw [List.length_take]; omega
  have t2 : (b2.take n).length = n := by rw [List.length_take]; omega
  have hxl : xs.length = n := by rw [hxs, xor3_length _ _ _ (by omega) (by omega)]; exact t0
  have hxg : ∀ i, i < n → ∃ x y z, b0[i]? = some x ∧ b1[i]? = some y ∧ b2[i]? = some z ∧ xs[i]? = some (x ^^^ y ^^^ z) ∧ x < 256 ∧ y < 256 ∧ z < 256 := by
    intro i hi
    obtain ⟨x, hx, hx2, _⟩ := y0.get (show i < b0.length by omega)
    obtain ⟨y, hy, hy2, _⟩ := y1.get (show i < b1.length by omega)
    obtain ⟨z, hz, hz2, _⟩ := y2.get (show i < b2.length by omega)
    refine ⟨x, y, z, hx, hy, hz, ?_, hx2, hy2, hz2⟩
    rw [hxs]
    exact xor3_get _ _ _ i x y z (by rw [List.getElem?_take, if_pos hi, hx]) (by rw [List.getElem?_take, if_pos hi, hy]) (by rw [List.getElem?_take, if_pos hi, hz])
  have hby : By xs := by
    intro b hb
    obtain ⟨i, hi, he⟩ := List.getElem_of_mem hb
    obtain ⟨x, y, z, _, _, _, h, hx, hy, hz⟩ := hxg i (by omega)
    rw [List.getElem?_eq_getElem hi, he] at h
    injection h with h
    rw [h]
    exact Crc.xor_lt (n := 8) (Crc.xor_lt (n := 8) hx hy) hz
  have hsum : Crc.ext 0 xs = Crc.ext 0 (b0.take n) ^^^ Crc.ext 0 (b1.take n) ^^^ Crc.ext 0 (b2.take n) := by
    rw [hxs]
    exact Crc.ext_xor3 _ _ _ (by omega) (by omega)
  have HXG := Lib.hid hxg
  have HXL := Lib.hid hxl
  have HSUM := Lib.hid hsum
  have T0 := Lib.hid t0
  have T1 := Lib.hid t1
  have T2 := Lib.hid t2
  clear hxg hxl hsum hxs t0 t1 t2
  have i0 : (0 : Int) ≤ (n : Int) := by omega
  have i1 : (n : Int) ≤ (c0 : Int) := by omega
  have i2 : (n : Int) ≤ (c1 : Int) := by omega
  have i3 : (n : Int) ≤ (c2 : Int) := by omega
  have R0 := Lib.hid r0
  have R1 := Lib.hid r1
  have R2 := Lib.hid r2
  clear r0 r1 r2
  obtain ⟨inf, hi, hz0, hz1, hz2⟩ := info_parts info8m
  have HI := Lib.hid hi
  have HZ0 := Lib.hid hz0
  have HZ1 := Lib.hid hz1
  have HZ2 := Lib.hid hz2
  clear hi hz0 hz1 hz2
  have kc := fun (w : World) (C : Array Value) (n c : Nat) => Lib.run_convert_bytes_const (P := Try.prog) w 22 5 C n c Try.underlying22 Try.underlying5
  rcases hn with rfl | ⟨rfl, s1⟩ | ⟨rfl, s1, s2⟩
  all_goals
    go_enter Try.func8, Try.ntmps8
    go_wp2_with (at_make; refine wpList_make_full _ rfl (.tmp 17) (.tmp 17) 22 rfl w.heap.size 5 inf (.int .u8 0) 1 Try.underlying22 HI.out HZ0.out HZ1.out .i64 .i64 _ _ n rfl rfl rfl rfl (by rw [HZ2.out]; omega) (by unfold maxLen; omega) (Nat.le_refl _) ?_; intro w1 hown1 hg1)
    have b1w : Below w.heap.size w w1 := below_of_grown hg1 (Nat.le_refl _) (fun k hk => by cases hk)
    clear hg1
    have hz : (madeCells (Value.int .u8 0).cells (n * 1)).toList = b8 (xs.take 0 ++ List.replicate (n - 0) 0) := by
      have := toList_madeCells_one (Value.int .u8 0) n
      simp only [Nat.mul_one, List.take_zero, List.nil_append, Nat.sub_zero]
      refine this.trans ?_
      simp [b8]
    rw [hz] at hown1
    have HO := Lib.hid hown1
    clear hz hown1
    go_loopw [9] (fun i wr => ∃ k : Nat, k ≤ n ∧ i = .int .i64 k ∧ Hid (wr.ownsRow w.heap.size 5 1 (.slice (some ⟨w.heap.size, 0, none⟩) n n) n (b8 (xs.take k ++ List.replicate (n - k) 0))) ∧ Below w.heap.size w wr) (fun i _ => n - (intOf i).toNat)
    case atStart => exact ⟨0, Nat.zero_le _, rfl, HO, b1w⟩
    case round =>
      obtain ⟨k, hk, rfl, H, hb⟩ := hrel
      by_cases hlt : k < n
      · obtain ⟨x, y, z, gx, gy, gz, gw, hx256, hy256, hz256⟩ := HXG.out k hlt
        obtain ⟨g0, o0, rfl, hg0, hc0⟩ := (R0.out.below hb).at_ gx
        obtain ⟨g1, o1, rfl, hg1, hc1⟩ := (R1.out.below hb).at_ gy
        obtain ⟨g2, o2, rfl, hg2, hc2⟩ := (R2.out.below hb).at_ gz
        have hf := H.out.frozenAt k
        have hco := H.out.cellAt k (by omega)
        have hst := H.out.stored k (.int .u8 ((x ^^^ y ^^^ z : Nat) : Int))
        rw [b8_set'', fill_set xs n k _ hlt gw, ← bits_xor3 x y z hx256 hy256 hz256] at hst
        have hcz : wr.cell? ⟨w.heap.size, k, none⟩ = some (.int .u8 0) := by
          have hxlk : (xs.take k).length = k := by rw [List.length_take, HXL.out]; omega
          rw [hco, b8_get, List.getElem?_append_right (by omega), hxlk, List.getElem?_replicate, if_pos (by omega)]
          rfl
        have HS := Lib.hid hst
        have j0 : (0 : Int) ≤ (k : Int) := by omega
        have j1 : (k : Int) < (n : Int) := by omega
        clear hst hco gx gy gz gw
        go_wp2_with fail
        go_region
        go_wp2_with fail
        go_roundw
        case rel => exact ⟨k + 1, by omega, by go_num, HS.out.1.drew, (hb.setCell (Nat.le_refl _) _).drew⟩
        case measure => simp [intOf]; omega
      · have hkn : k = n := by omega
        have hfull : xs.take k ++ List.replicate (n - k) 0 = xs := by rw [List.take_of_length_le (by rw [HXL.out]; omega), show n - k = 0 from by omega]; simp
        have H1 := H.out
        rw [hfull] at H1
        have hS : LinS w n xs wr.drew := ⟨hb.drew, H1.drew⟩
        obtain ⟨s0, hs0⟩ : ∃ s, s = Crc.ext 0 (b0.take n) := ⟨_, rfl⟩
        obtain ⟨s1, hs1⟩ : ∃ s, s = Crc.ext 0 (b1.take n) := ⟨_, rfl⟩
        obtain ⟨s2, hs2⟩ : ∃ s, s = Crc.ext 0 (b2.take n) := ⟨_, rfl⟩
        obtain ⟨sx, hsx⟩ : ∃ s, s = Crc.ext 0 xs := ⟨_, rfl⟩
        have u0 : s0 < 4294967296 := by rw [hs0]; exact Crc.ext_lt (by omega) (y0.take n)
        have u1 : s1 < 4294967296 := by rw [hs1]; exact Crc.ext_lt (by omega) (y1.take n)
        have u2 : s2 < 4294967296 := by rw [hs2]; exact Crc.ext_lt (by omega) (y2.take n)
        have hq : bits .xor .u32 (bits .xor .u32 (s0 : Int) (s1 : Int)) (s2 : Int) = (sx : Int) := by
          rw [u32_xor_nat s0 s1 u0 u1, u32_xor_nat (s0 ^^^ s1) s2 (Crc.xor_lt (n := 32) u0 u1) u2, hsx, HSUM.out, hs0, hs1, hs2]
        have c0 := Lib.hid fun W (h : LinS w n xs W) => (sum_is A0 n c0 (b0.take n) W s0 (by rw [b8_take]; exact (R0.out.take_ n).below h.1) (y0.take n) T0.out (by omega) hs0).mono fun e W' ⟨he, hw⟩ => (⟨he, h.more hw⟩ : e = _ ∧ LinS w n xs W')
        have c1 := Lib.hid fun W (h : LinS w n xs W) => (sum_is A1 n c1 (b1.take n) W s1 (by rw [b8_take]; exact (R1.out.take_ n).below h.1) (y1.take n) T1.out (by omega) hs1).mono fun e W' ⟨he, hw⟩ => (⟨he, h.more hw⟩ : e = _ ∧ LinS w n xs W')
        have c2 := Lib.hid fun W (h : LinS w n xs W) => (sum_is A2 n c2 (b2.take n) W s2 (by rw [b8_take]; exact (R2.out.take_ n).below h.1) (y2.take n) T2.out (by omega) hs2).mono fun e W' ⟨he, hw⟩ => (⟨he, h.more hw⟩ : e = _ ∧ LinS w n xs W')
        have c3 := Lib.hid fun W (h : LinS w n xs W) => (sum_is _ n n xs W sx (rd_own h.2) hby HXL.out (by omega) hsx).mono fun e W' ⟨he, hw⟩ => (⟨he, h.more hw⟩ : e = _ ∧ LinS w n xs W')
        clear hs0 hs1 hs2 hsx u0 u1 u2 H1 hfull hkn H hb
        go_wp2_with fail
        go_region_held (fun W => LinS w n xs W) (first | assumption | (apply LinS.alloc; assumption))
          (first
            | (go_at_call_of 34 (Value.slice (some ⟨w.heap.size, 0, none⟩) n n); refine (c3.out _ (by assumption)).mono ?_; rintro e w' ⟨rfl, hS'⟩)
            | (go_at_call_of 34 A0; refine (c0.out _ (by assumption)).mono ?_; rintro e w' ⟨rfl, hS'⟩)
            | (go_at_call_of 34 A1; refine (c1.out _ (by assumption)).mono ?_; rintro e w' ⟨rfl, hS'⟩)
            | (go_at_call_of 34 A2; refine (c2.out _ (by assumption)).mono ?_; rintro e w' ⟨rfl, hS'⟩)
            | (go_at_call 34; refine ((sum_is _ 1 1 [97] _ 3251651376 (rd_marked _ (b8 [97]) _ _) (By.of_all (by decide)) rfl (by omega) ext_a.symm).mono ?_); rintro e w' ⟨rfl, hB'⟩; have hS' := LinS.more (by assumption) hB'))
        go_wp2_with fail
        go_ret
        exact ⟨rfl, LinS.below (n := n) (xs := xs) (by assumption)⟩

theorem octetLinear_walk (A0 : Option Addr) (c0 : Nat) (b0 : List Nat) (A1 : Option Addr) (c1 : Nat) (b1 : List Nat) (A2 : Option Addr) (c2 : Nat) (b2 : List Nat) (w : World) (c0l : b0.length ≤ c0) (r0 : Rd w A0 (b8 b0)) (y0 : By b0) (l0 : b0.length ≤ 140737488351232) (c1l : b1.length ≤ c1) (r1 : Rd w A1 (b8 b1)) (y1 : By b1) (l1 : b1.length ≤ 140737488351232) (c2l : b2.length ≤ c2) (r2 : Rd w A2 (b8 b2)) (y2 : By b2) (l2 : b2.length ≤ 140737488351232) :
    Calls Try.prog 8 #[.slice A0 b0.length c0, .slice A1 b1.length c1, .slice A2 b2.length c2] w fun e w' => e = .returned (.bool true) ∧ Below w.heap.size w w' := by
  obtain ⟨n, h0, h1, h2, h⟩ : ∃ n, n ≤ b0.length ∧ n ≤ b1.length ∧ n ≤ b2.length ∧ (n = b0.length ∨ (n = b1.length ∧ n < b0.length) ∨ (n = b2.length ∧ n < b0.length ∧ n < b1.length)) := by
    by_cases h01 : b0.length ≤ b1.length
    · by_cases h02 : b0.length ≤ b2.length
      · exact ⟨b0.length, by omega, by omega, by omega, .inl rfl⟩
      · exact ⟨b2.length, by omega, by omega, by omega, .inr (.inr ⟨rfl, by omega, by omega⟩)⟩
    · by_cases h12 : b1.length ≤ b2.length
      · exact ⟨b1.length, by omega, by omega, by omega, .inr (.inl ⟨rfl, by omega⟩)⟩
      · exact ⟨b2.length, by omega, by omega, by omega, .inr (.inr ⟨rfl, by omega, by omega⟩)⟩
  exact octetLinear_core A0 c0 b0 A1 c1 b1 A2 c2 b2 n b0.length b1.length b2.length w (by omega) r0 y0 l0 (by omega) r1 y1 l1 (by omega) r2 y2 l2 h0 h1 h2 h0 h1 h2 h
end Go.Proofs.Ytfgjlplfpjfnoaa
