/- swapRange_func, rotate_func of Go's sort: over any program. -/
import Derived.Shelf.GgSortMore.Stable
import Derived.Deep.LoopGhost
import Derived.Lib.Hide
import Derived.Test.YthcmkjiemlfpcaaStbP2
namespace Go.Proofs.Ythcmkjiemlfpcaa
open Go Go.Shelf Go.RowKit Go.Lib Go.Sort
set_option linter.unusedVariables false
set_option linter.unusedSimpArgs false
section
variable {P : Program} {α : Type} [Inhabited α] {enc : α → Value} {w0 w W W' : World} {blk off : Nat} {dk dk' : Array α}

theorem sw_cell (h : SW enc w0 blk off dk W) {b k : Nat} {v : Value} (hc : w0.cell? ⟨b, k, none⟩ = some v) (hb : b ≠ blk) (hlt : b < w0.heap.size) : W.cell? ⟨b, k, none⟩ = some v := by
  obtain ⟨n, os, rfl⟩ := h
  unfold sortWorld
  rw [cell?_grow _ _ _ (by rw [size_putRow]; exact hlt), cell?_putRow_other enc _ blk off _ _ (Or.inl (by show b ≠ blk; exact hb))]
  exact hc
theorem sw_of_alloc {o : Obj} (h : SW enc (w.alloc o) blk off dk W) (hblk : blk < w.heap.size) : SW enc w blk off dk W := by
  obtain ⟨n, os, rfl⟩ := h
  exact ⟨n, _, sortWorld_alloc enc w _ blk off n _ os hblk⟩
theorem sw_trans (h : SW enc w0 blk off dk W) (hblk : blk < w0.heap.size) (h2 : SW enc W blk off dk' W') (hs : dk'.size = dk.size) : SW enc w0 blk off dk' W' := by
  obtain ⟨n, os, rfl⟩ := h2
  exact h.on hblk n dk' os hs
/-- The two function values, boxed. -/
structure Bxd (W : World) (b g : Nat) (lb : Array Value) (sf : Nat) (sb : Array Value) : Prop where
  c0 : W.cell? ⟨b, 0, none⟩ = some (.func (.func g) #[] lb)
  c1 : W.cell? ⟨b, 1, none⟩ = some (.func (.func sf) #[] sb)
theorem Bxd.new (W : World) (g : Nat) (lb : Array Value) (sf : Nat) (sb : Array Value) (t : TypeId) : Bxd (W.alloc (.cells #[.func (.func g) #[] lb, .func (.func sf) #[] sb] t)) W.heap.size g lb sf sb := ⟨by simp, by simp⟩
theorem Bxd.sw {b g sf : Nat} {lb sb : Array Value} (h : Bxd w0 b g lb sf sb) (hs : SW enc w0 blk off dk W) (hb : b ≠ blk) (hlt : b < w0.heap.size) : Bxd W b g lb sf sb := ⟨sw_cell hs h.c0 hb hlt, sw_cell hs h.c1 hb hlt⟩
end
variable {P : Program} {ρ : Ren} {α : Type} [Inhabited α]

set_option maxHeartbeats 2000000 in
set_option maxRecDepth 100000 in
theorem swapRange_is (L : LaysGt.n49 P ρ) (enc : α → Value) (g : Nat) (lb : Array Value) (sf : Nat) (sb : Array Value) (blk off x y n sz : Nat) (d : Array α) (W : World) (hd : d.size = sz)
    (hswap : SwapSwaps P sf sb enc blk off sz) (hH : Holds enc W blk off d) (hblk : blk < W.heap.size) (hxy : x + n ≤ y) (hy : y + n ≤ sz) (hsz : sz < 4611686018427387904) :
    Calls P (ρ.f 49) #[.agg #[.func (.func g) #[] lb, .func (.func sf) #[] sb], .int .i64 x, .int .i64 y, .int .i64 n] W fun e w' => e = .returned (.tuple #[]) ∧ ∃ d', SW enc W blk off d' w' ∧ Xch d d' x y n := by
  have mixed := L.mixed; have t0 := L.t0; have a0 := L.a0; have z0 := L.z0; have v0 := L.v0; have t3 := L.t3; have a3 := L.a3; have z3 := L.z3; have v3 := L.v3; have t4 := L.t4; have a4 := L.a4; have z4 := L.z4; have v4 := L.v4; have t26 := L.t26; have a26 := L.a26; have z26 := L.z26; have v26 := L.v26; have t38 := L.t38; have a38 := L.a38; have z38 := L.z38; have v38 := L.v38; have t42 := L.t42; have a42 := L.a42; have z42 := L.z42; have v42 := L.v42
  have u42 := run_underlying L.t42
  have BX := Lib.hid (Bxd.new W g lb sf sb (ρ.t 42))
  have hSW := (SW.start hH).alloc (.cells #[.func (.func g) #[] lb, .func (.func sf) #[] sb] (ρ.t 42))
  have HH1 := Lib.hid (hSW.holds hblk hH rfl)
  have HL := Lib.hid (show blk < (W.alloc (.cells #[.func (.func g) #[] lb, .func (.func sf) #[] sb] (ρ.t 42))).heap.size by simp; omega)
  have HW := Lib.hid hswap
  have HB := Lib.hid hblk
  have HD := Lib.hid hd
  clear hSW hH hswap hd
  go_enter L.f49, BodyGt.n49_ntmps ρ
  go_wp2
  go_loopg [8] n (fun kx vi wr => ∃ (i : Nat) (dk : Array α), vi = .int .i64 i ∧ i + kx = n ∧ Hid (SW enc (W.alloc (.cells #[.func (.func g) #[] lb, .func (.func sf) #[] sb] (ρ.t 42))) blk off dk wr ∧ Xch d dk x y i))
  case atStart => exact ⟨0, d, rfl, by omega, Lib.hid ⟨SW.start HH1.out, Xch.zero d x y⟩⟩
  case round =>
    obtain ⟨i, dk, rfl, hi, HI⟩ := hrel
    by_cases hin : i < n
    · have hs := HW.out wr dk (HI.out.1.holds HL.out HH1.out HI.out.2.size) (HI.out.2.size.trans HD.out) (x + i) (y + i) (by omega) (by omega)
      rw [show ((x + i : Nat) : Int) = (x : Int) + (i : Int) by omega, show ((y + i : Nat) : Int) = (y : Int) + (i : Int) by omega] at hs
      have hds := HD.out
      have hdk := HI.out.2.size
      have H2 := Lib.hid (And.intro (HI.out.1.swap HL.out (x + i) (y + i) (by omega) (by omega)) (HI.out.2.step (by omega) (by omega)))
      have c1 := (BX.out.sw HI.out.1 (by omega) (by simp)).c1
      clear hds hdk
      go_wp2
      clear hs c1
      go_roundg (n - (i + 1))
      case measure => omega
      case rel => exact ⟨i + 1, _, by go_num, by omega, H2⟩
    · obtain rfl : i = n := by omega
      go_wp2
      go_end0
      exact ⟨rfl, dk, sw_of_alloc HI.out.1 HB.out, HI.out.2⟩

set_option maxHeartbeats 4000000 in
set_option maxRecDepth 100000 in
theorem rotate_is (L : LaysGt.n42 P ρ) (enc : α → Value) (g : Nat) (lb : Array Value) (sf : Nat) (sb : Array Value) (blk off a m b sz : Nat) (d : Array α) (W : World) (hd : d.size = sz)
    (hswap : SwapSwaps P sf sb enc blk off sz) (hH : Holds enc W blk off d) (hblk : blk < W.heap.size) (ham : a < m) (hmb : m < b) (hb : b ≤ sz) (hsz : sz < 4611686018427387904) :
    Calls P (ρ.f 42) #[.agg #[.func (.func g) #[] lb, .func (.func sf) #[] sb], .int .i64 a, .int .i64 m, .int .i64 b] W fun e w' => e = .returned (.tuple #[]) ∧ ∃ d', SW enc W blk off d' w' ∧ Rot d d' a m b := by
  have mixed := L.mixed; have t0 := L.t0; have a0 := L.a0; have z0 := L.z0; have v0 := L.v0; have t3 := L.t3; have a3 := L.a3; have z3 := L.z3; have v3 := L.v3; have t4 := L.t4; have a4 := L.a4; have z4 := L.z4; have v4 := L.v4; have t26 := L.t26; have a26 := L.a26; have z26 := L.z26; have v26 := L.v26; have t38 := L.t38; have a38 := L.a38; have z38 := L.z38; have v38 := L.v38; have t42 := L.t42; have a42 := L.a42; have z42 := L.z42; have v42 := L.v42
  have u42 := run_underlying L.t42
  have e49 : ∀ args w, (callFunc (ρ.f 49) args).run P w = .ok (.enter (ρ.f 49) args) w := enters_of L.f49 (by kernel_rfl) rfl
  have BX := Lib.hid (Bxd.new W g lb sf sb (ρ.t 42))
  have hSW := (SW.start hH).alloc (.cells #[.func (.func g) #[] lb, .func (.func sf) #[] sb] (ρ.t 42))
  have HH1 := Lib.hid (hSW.holds hblk hH rfl)
  have HL := Lib.hid (show blk < (W.alloc (.cells #[.func (.func g) #[] lb, .func (.func sf) #[] sb] (ρ.t 42))).heap.size by simp; omega)
  have SX := Lib.hid (fun (x y n : Nat) (dk : Array α) (wr : World) (h : SW enc (W.alloc (.cells #[.func (.func g) #[] lb, .func (.func sf) #[] sb] (ρ.t 42))) blk off dk wr) (hk : dk.size = sz) (hxy : x + n ≤ y) (hy : y + n ≤ sz) => swapRange_is { L with } enc g lb sf sb blk off x y n sz dk wr hk hswap (h.holds HL.out HH1.out (hk.trans hd.symm)) (h.lt HL.out) hxy hy hsz)
  have HB := Lib.hid hblk
  have hneB : W.heap.size ≠ blk := by omega
  have HD := Lib.hid hd
  clear hSW hH hswap hd
  go_enter L.f42, BodyGt.n42_ntmps ρ
  go_wp2
  go_loopg [8, 9] (b - a) (fun kx vi vj wr => ∃ (i j : Nat) (dk : Array α), vi = .int .i64 i ∧ vj = .int .i64 j ∧ i + j ≤ kx ∧ 0 < i ∧ 0 < j ∧ i ≤ m - a ∧ j ≤ b - m ∧ Hid (SW enc (W.alloc (.cells #[.func (.func g) #[] lb, .func (.func sf) #[] sb] (ρ.t 42))) blk off dk wr ∧ dk.size = sz ∧ ∀ d', Rot dk d' (m - i) m (m + j) → Rot d d' a m b))
  case atStart => exact ⟨m - a, b - m, d, by go_num, by go_num, by omega, by omega, by omega, by omega, by omega, Lib.hid ⟨SW.start HH1.out, HD.out, fun d' h => by rw [show m - (m - a) = a by omega, show m + (b - m) = b by omega] at h; exact h⟩⟩
  case round =>
    obtain ⟨i, j, dk, rfl, rfl, hk, hi, hj, him, hjb, HI⟩ := hrel
    rcases Nat.lt_trichotomy i j with hc | hc | hc
    · have hx := SX.out (m - i) (m + j - i) i dk wr HI.out.1 HI.out.2.1 (by omega) (by omega)
      rw [show ((m - i : Nat) : Int) = (m : Int) - (i : Int) by omega, show ((m + j - i : Nat) : Int) = (m : Int) + (j : Int) - (i : Int) by omega] at hx
      have hne : ((i : Int) != (j : Int)) = true := by simp; omega
      have hgt : decide ((j : Int) < (i : Int)) = false := decide_eq_false (by omega)
      obtain ⟨c0, c1⟩ := BX.out.sw HI.out.1 hneB (by simp)
      go_wp2_with (go_at_fn (ρ.f 49); refine hx.mono ?_; rintro e w' ⟨rfl, d1, hs1, hx1⟩)
      have H2 := Lib.hid (And.intro (sw_trans HI.out.1 HL.out hs1 hx1.size) hx1)
      clear hs1 hx1 c0 c1
      go_wp2
      go_roundg (j)
      case measure => omega
      case rel => exact ⟨i, j - i, d1, rfl, by go_num, by omega, hi, by omega, him, by omega, Lib.hid ⟨H2.out.1, H2.out.2.size.trans HI.out.2.1, fun d' h => HI.out.2.2 d' (rot_lt hi hc (by omega) (by rw [HI.out.2.1]; omega) H2.out.2 h)⟩⟩
    · subst hc
      have hx := SX.out (m - i) m i dk wr HI.out.1 HI.out.2.1 (by omega) (by omega)
      rw [show ((m - i : Nat) : Int) = (m : Int) - (i : Int) by omega] at hx
      have hne : ((i : Int) != (i : Int)) = false := by simp
      obtain ⟨c0, c1⟩ := BX.out.sw HI.out.1 hneB (by simp)
      go_wp2_with (go_at_fn (ρ.f 49); refine hx.mono ?_; rintro e w' ⟨rfl, d1, hs1, hx1⟩)
      have H2 := Lib.hid (And.intro (sw_trans HI.out.1 HL.out hs1 hx1.size) hx1)
      clear hs1 hx1 c0 c1
      go_wp2
      go_end0
      exact ⟨rfl, d1, sw_of_alloc H2.out.1 HB.out, HI.out.2.2 d1 (rot_eq (by omega) (by rw [HI.out.2.1]; omega) H2.out.2)⟩
    · have hx := SX.out (m - i) m j dk wr HI.out.1 HI.out.2.1 (by omega) (by omega)
      rw [show ((m - i : Nat) : Int) = (m : Int) - (i : Int) by omega] at hx
      have hne : ((i : Int) != (j : Int)) = true := by simp; omega
      have hgt : decide ((j : Int) < (i : Int)) = true := decide_eq_true (by omega)
      obtain ⟨c0, c1⟩ := BX.out.sw HI.out.1 hneB (by simp)
      go_wp2_with (go_at_fn (ρ.f 49); refine hx.mono ?_; rintro e w' ⟨rfl, d1, hs1, hx1⟩)
      have H2 := Lib.hid (And.intro (sw_trans HI.out.1 HL.out hs1 hx1.size) hx1)
      clear hs1 hx1 c0 c1
      go_wp2
      go_roundg (i)
      case measure => omega
      case rel => exact ⟨i - j, j, d1, by go_num, rfl, by omega, by omega, hj, by omega, hjb, Lib.hid ⟨H2.out.1, H2.out.2.size.trans HI.out.2.1, fun d' h => HI.out.2.2 d' (rot_gt hj hc (by omega) (by rw [HI.out.2.1]; omega) H2.out.2 h)⟩⟩
end Go.Proofs.Ythcmkjiemlfpcaa
