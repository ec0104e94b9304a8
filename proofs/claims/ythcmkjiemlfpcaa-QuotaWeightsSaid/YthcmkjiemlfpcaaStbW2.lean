/- symMerge_func of Go's sort: over any program. -/
import Derived.Deep.CutRange
import Derived.Test.YthcmkjiemlfpcaaStbW
namespace Go.Proofs.Ythcmkjiemlfpcaa
open Go Go.Shelf Go.RowKit Go.Lib Go.Sort
set_option linter.unusedVariables false
set_option linter.unusedSimpArgs false
variable {P : Program} {ρ : Ren} {α : Type} [Inhabited α]

/-- What is asked of the two function values and of the row, in the world W. -/
structure Srt (P : Program) (enc : α → Value) (lt : α → α → Bool) (g : Nat) (lb : Array Value) (sf : Nat) (sb : Array Value) (blk off sz : Nat) (d : Array α) (W : World) : Prop where
  eg : ∀ args w, (callFunc g args).run P w = .ok (.enter g args) w
  less : LessReads P g lb enc lt blk off sz W
  swap : SwapSwaps P sf sb enc blk off sz
  row : Holds enc W blk off d
  blk : blk < W.heap.size
  size : d.size = sz
  max : sz < 4611686018427387904
theorem Srt.on {enc : α → Value} {lt : α → α → Bool} {g : Nat} {lb : Array Value} {sf : Nat} {sb : Array Value} {blk off sz : Nat} {d dk : Array α} {W W' : World} (h : Srt P enc lt g lb sf sb blk off sz d W) (hs : SW enc W blk off dk W') (hk : dk.size = sz) : Srt P enc lt g lb sf sb blk off sz dk W' :=
  ⟨h.eg, hs.lessReads h.less h.blk hk, h.swap, hs.holds h.blk h.row (hk.trans h.size.symm), hs.lt h.blk, hk, h.max⟩
theorem Srt.box {enc : α → Value} {lt : α → α → Bool} {g : Nat} {lb : Array Value} {sf : Nat} {sb : Array Value} {blk off sz : Nat} {d : Array α} {W : World} (h : Srt P enc lt g lb sf sb blk off sz d W) (o : Obj) : Srt P enc lt g lb sf sb blk off sz d (W.alloc o) :=
  h.on ((SW.start h.row).alloc o) h.size
/-- A call of less, in a world under way. -/
theorem Srt.lss {enc : α → Value} {lt : α → α → Bool} {g : Nat} {lb : Array Value} {sf : Nat} {sb : Array Value} {blk off sz : Nat} {d dk : Array α} {W W' : World} (h : Srt P enc lt g lb sf sb blk off sz d W) (hs : SW enc W blk off dk W') (hk : dk.size = sz) (i j : Nat) (hi : i < sz) (hj : j < sz) :
    Calls P g (#[.int .i64 i, .int .i64 j] ++ lb) W' fun e w' => e = .returned (.bool (lt dk[i]! dk[j]!)) ∧ ∃ q, w' = W'.drewN q := hs.less h.less hk i j hi hj
theorem Srt.swp_ {enc : α → Value} {lt : α → α → Bool} {g : Nat} {lb : Array Value} {sf : Nat} {sb : Array Value} {blk off sz : Nat} {d dk : Array α} {W W' : World} (h : Srt P enc lt g lb sf sb blk off sz d W) (hs : SW enc W blk off dk W') (hk : dk.size = sz) (i j : Nat) (hi : i < sz) (hj : j < sz) :
    (callFunc sf (#[.int .i64 i, .int .i64 j] ++ sb)).run P W' = .ok (.value (.tuple #[])) ((W'.setCell ⟨blk, off + i, none⟩ (enc dk[j]!)).setCell ⟨blk, off + j, none⟩ (enc dk[i]!)) :=
  h.swap W' dk (h.on hs hk).row hk i j hi hj

set_option maxHeartbeats 4000000 in
set_option maxRecDepth 100000 in
/-- One element against a row. -/
theorem sym_first (L : LaysGt.n30 P ρ) (enc : α → Value) (lt lt' : α → α → Bool) (hO : SWO lt') (g : Nat) (lb : Array Value) (sf : Nat) (sb : Array Value) (blk off a m b sz : Nat) (d : Array α) (W : World) (hma : m = a + 1)
    (h : Srt P enc lt g lb sf sb blk off sz d W) (hab : a + 1 < b) (hb : b ≤ sz) (hr : SortedIn lt' (a + 1) b d) (hag : ∀ j, a + 1 ≤ j → j < b → lt d[j]! d[a]! = lt' d[j]! d[a]!) :
    Calls P (ρ.f 30) #[.agg #[.func (.func g) #[] lb, .func (.func sf) #[] sb], .int .i64 a, .int .i64 m, .int .i64 b] W fun e w' => e = .returned (.tuple #[]) ∧ ∃ d', SW enc W blk off d' w' ∧ Mrg lt' a b d d' := by
  have mixed := L.mixed; have t0 := L.t0; have a0 := L.a0; have z0 := L.z0; have v0 := L.v0; have t3 := L.t3; have a3 := L.a3; have z3 := L.z3; have v3 := L.v3; have t4 := L.t4; have a4 := L.a4; have z4 := L.z4; have v4 := L.v4; have t26 := L.t26; have a26 := L.a26; have z26 := L.z26; have v26 := L.v26; have t38 := L.t38; have a38 := L.a38; have z38 := L.z38; have v38 := L.v38; have t42 := L.t42; have a42 := L.a42; have z42 := L.z42; have v42 := L.v42; have t47 := L.t47; have a47 := L.a47; have z47 := L.z47; have v47 := L.v47
  have u42 := run_underlying L.t42; have u3 := run_underlying L.t3; have u47 := run_underlying L.t47
  have eg := h.eg
  have BX := Lib.hid (Bxd.new W g lb sf sb (ρ.t 42))
  have H1 := Lib.hid (h.box (.cells #[.func (.func g) #[] lb, .func (.func sf) #[] sb] (ρ.t 42)))
  have hneB : W.heap.size ≠ blk := by have := h.blk; omega
  have hsz := h.max
  have H := Lib.hid h
  have HR := Lib.hid hr
  have HA := Lib.hid hag
  have HM := Lib.hid hma
  have hq1 : (((m : Int) - (a : Int)) == 1) = true := by simp; omega
  have hm1 : a + 1 ≤ m := by omega
  have hm2 : m ≤ a + 1 := by omega
  clear h hr hag hma
  go_enter L.f30, BodyGt.n30_ntmps ρ
  go_wp2
  go_loopg [8, 9] (b - a) (fun kx vi vj wr => ∃ (i j : Nat), vi = .int .i64 i ∧ vj = .int .i64 j ∧ j - i ≤ kx ∧ a + 1 ≤ i ∧ i ≤ j ∧ j ≤ b ∧ Hid (SW enc (W.alloc (.cells #[.func (.func g) #[] lb, .func (.func sf) #[] sb] (ρ.t 42))) blk off d wr ∧ (i = a + 1 ∨ lt' d[i - 1]! d[a]! = true) ∧ (j = b ∨ lt' d[j]! d[a]! = false)))
  case atStart => exact ⟨m, b, rfl, rfl, by omega, by omega, by omega, by omega, Lib.hid ⟨SW.start H1.out.row, .inl HM.out, .inl rfl⟩⟩
  case round =>
    obtain ⟨i, j, rfl, rfl, hk, hi, hij, hjb, HI⟩ := hrel
    by_cases hlt : i < j
    · have hl := H1.out.lss HI.out.1 H.out.size ((i + j) / 2) a (by omega) (by omega)
      rw [show (((i + j) / 2 : Nat) : Int) = ((i : Int) + (j : Int)) / 2 by omega] at hl
      have c0 := (BX.out.sw HI.out.1 hneB (by simp)).c0
      have HE := Lib.hid (HA.out ((i + j) / 2) (by omega) (by omega))
      cases hlv : lt d[(i + j) / 2]! d[a]! with
      | true =>
        rw [hlv] at hl
        have HV := Lib.hid (HE.out.symm.trans hlv)
        clear hlv HE
        go_wp2_with (go_at_fn g; refine hl.mono ?_; rintro e w' ⟨rfl, q, rfl⟩)
        go_roundg (j - ((i + j) / 2 + 1))
        case measure => omega
        case rel => exact ⟨(i + j) / 2 + 1, j, by rw [show ((i : Int) + (j : Int)) / 2 + 1 = (((i + j) / 2 + 1 : Nat) : Int) by omega], rfl, by omega, by omega, by omega, hjb, Lib.hid ⟨HI.out.1.drewN _, .inr HV.out, HI.out.2.2⟩⟩
      | false =>
        rw [hlv] at hl
        have HV := Lib.hid (HE.out.symm.trans hlv)
        clear hlv HE
        go_wp2_with (go_at_fn g; refine hl.mono ?_; rintro e w' ⟨rfl, q, rfl⟩)
        go_roundg ((i + j) / 2 - i)
        case measure => omega
        case rel => exact ⟨i, (i + j) / 2, rfl, by rw [show ((i : Int) + (j : Int)) / 2 = (((i + j) / 2 : Nat) : Int) by omega], by omega, by omega, by omega, by omega, Lib.hid ⟨HI.out.1.drewN _, HI.out.2.1, .inr HV.out⟩⟩
    · obtain rfl : i = j := by omega
      go_wp2
      rename World => wl
      go_loopg [11] (i - a) (fun kx vk wr => ∃ (k : Nat) (dk : Array α), vk = .int .i64 k ∧ (k + 1 ≤ i ∧ i - k ≤ kx) ∧ a ≤ k ∧ Hid (SW enc (W.alloc (.cells #[.func (.func g) #[] lb, .func (.func sf) #[] sb] (ρ.t 42))) blk off dk wr ∧ dk.size = sz ∧ Rot d dk a (a + 1) (k + 1)))
      case atStart => exact ⟨a, d, rfl, ⟨by omega, by omega⟩, by omega, Lib.hid ⟨HI.out.1, H.out.size, Rot.none (.inr rfl) (by omega) (by omega)⟩⟩
      case round =>
        obtain ⟨k, dk, rfl, ⟨hk1i, hkk⟩, hak, HK⟩ := hrel
        by_cases hki : k + 1 < i
        · have hs := H1.out.swp_ HK.out.1 HK.out.2.1 k (k + 1) (by omega) (by omega)
          rw [show ((k + 1 : Nat) : Int) = (k : Int) + 1 by omega] at hs
          have c1 := (BX.out.sw HK.out.1 hneB (by simp)).c1
          have hdk := HK.out.2.1
          have H2 := Lib.hid (And.intro (HK.out.1.swap H1.out.blk k (k + 1) (by omega) (by omega)) (And.intro (show (swp dk k (k + 1)).size = sz by rw [size_swp]; exact hdk) (HK.out.2.2.up hak (by rw [H.out.size]; omega))))
          clear hdk
          have hg : decide ((k : Int) < (i : Int) - 1) = true := decide_eq_true (by omega)
          go_wp2
          clear hs c1
          go_roundg (i - (k + 1))
          case measure => omega
          case rel => exact ⟨k + 1, _, by go_num, ⟨by omega, by omega⟩, by omega, Lib.hid ⟨H2.out.1, H2.out.2.1, H2.out.2.2⟩⟩
        · have hg : decide ((k : Int) < (i : Int) - 1) = false := decide_eq_false (by omega)
          go_wp2
          (try simp only [Exit.inBlock, Exit.then])
          refine bodyPost_ret (results_none rfl _ _ _) rfl ?_
          have hk1 : k + 1 = i := by omega
          have hrot := HK.out.2.2
          rw [hk1] at hrot
          exact ⟨rfl, dk, sw_of_alloc HK.out.1 H.out.blk, permIn_mono _ _ a i a b (Nat.le_refl _) hjb (by rw [H.out.size]; exact hb) hrot.perm, mrg_up hO hi hjb HR.out hrot HI.out.2.1 HI.out.2.2⟩

set_option maxHeartbeats 4000000 in
set_option maxRecDepth 100000 in
/-- A row against one element. -/
theorem sym_last (L : LaysGt.n30 P ρ) (enc : α → Value) (lt lt' : α → α → Bool) (hO : SWO lt') (g : Nat) (lb : Array Value) (sf : Nat) (sb : Array Value) (blk off a m b sz : Nat) (d : Array α) (W : World) (hbm : b = m + 1)
    (h : Srt P enc lt g lb sf sb blk off sz d W) (ham : a < m) (hma : m ≠ a + 1) (hb : b ≤ sz) (hl : SortedIn lt' a m d) (hag : ∀ i, a ≤ i → i < m → lt d[m]! d[i]! = lt' d[m]! d[i]!) :
    Calls P (ρ.f 30) #[.agg #[.func (.func g) #[] lb, .func (.func sf) #[] sb], .int .i64 a, .int .i64 m, .int .i64 b] W fun e w' => e = .returned (.tuple #[]) ∧ ∃ d', SW enc W blk off d' w' ∧ Mrg lt' a b d d' := by
  have mixed := L.mixed; have t0 := L.t0; have a0 := L.a0; have z0 := L.z0; have v0 := L.v0; have t3 := L.t3; have a3 := L.a3; have z3 := L.z3; have v3 := L.v3; have t4 := L.t4; have a4 := L.a4; have z4 := L.z4; have v4 := L.v4; have t26 := L.t26; have a26 := L.a26; have z26 := L.z26; have v26 := L.v26; have t38 := L.t38; have a38 := L.a38; have z38 := L.z38; have v38 := L.v38; have t42 := L.t42; have a42 := L.a42; have z42 := L.z42; have v42 := L.v42; have t47 := L.t47; have a47 := L.a47; have z47 := L.z47; have v47 := L.v47
  have u42 := run_underlying L.t42; have u3 := run_underlying L.t3; have u47 := run_underlying L.t47
  have eg := h.eg
  have BX := Lib.hid (Bxd.new W g lb sf sb (ρ.t 42))
  have H1 := Lib.hid (h.box (.cells #[.func (.func g) #[] lb, .func (.func sf) #[] sb] (ρ.t 42)))
  have hneB : W.heap.size ≠ blk := by have := h.blk; omega
  have hsz := h.max
  have H := Lib.hid h
  have HS := Lib.hid hl
  have HA := Lib.hid hag
  have HB := Lib.hid hbm
  have hq1 : (((m : Int) - (a : Int)) == 1) = false := by simp; omega
  have hq2 : (((b : Int) - (m : Int)) == 1) = true := by simp; omega
  have hm1 : m + 1 ≤ b := by omega
  have hm2 : b ≤ m + 1 := by omega
  clear h hl hag hbm hma
  go_enter L.f30, BodyGt.n30_ntmps ρ
  go_wp2
  go_loopg [12, 13] (b - a) (fun kx vi vj wr => ∃ (i j : Nat), vi = .int .i64 i ∧ vj = .int .i64 j ∧ j - i ≤ kx ∧ a ≤ i ∧ i ≤ j ∧ j ≤ m ∧ Hid (SW enc (W.alloc (.cells #[.func (.func g) #[] lb, .func (.func sf) #[] sb] (ρ.t 42))) blk off d wr ∧ (i = a ∨ lt' d[m]! d[i - 1]! = false) ∧ (j = m ∨ lt' d[m]! d[j]! = true)))
  case atStart => exact ⟨a, m, rfl, rfl, by omega, by omega, by omega, by omega, Lib.hid ⟨SW.start H1.out.row, .inl rfl, .inl rfl⟩⟩
  case round =>
    obtain ⟨i, j, rfl, rfl, hk, hi, hij, hjb, HI⟩ := hrel
    by_cases hlt : i < j
    · have hl := H1.out.lss HI.out.1 H.out.size m ((i + j) / 2) (by omega) (by omega)
      rw [show (((i + j) / 2 : Nat) : Int) = ((i : Int) + (j : Int)) / 2 by omega] at hl
      have c0 := (BX.out.sw HI.out.1 hneB (by simp)).c0
      have HE := Lib.hid (HA.out ((i + j) / 2) (by omega) (by omega))
      cases hlv : lt d[m]! d[(i + j) / 2]! with
      | false =>
        rw [hlv] at hl
        have HV := Lib.hid (HE.out.symm.trans hlv)
        clear hlv HE
        go_wp2_with (go_at_fn g; refine hl.mono ?_; rintro e w' ⟨rfl, q, rfl⟩)
        go_roundg (j - ((i + j) / 2 + 1))
        case measure => omega
        case rel => exact ⟨(i + j) / 2 + 1, j, by rw [show ((i : Int) + (j : Int)) / 2 + 1 = (((i + j) / 2 + 1 : Nat) : Int) by omega], rfl, by omega, by omega, by omega, hjb, Lib.hid ⟨HI.out.1.drewN _, .inr HV.out, HI.out.2.2⟩⟩
      | true =>
        rw [hlv] at hl
        have HV := Lib.hid (HE.out.symm.trans hlv)
        clear hlv HE
        go_wp2_with (go_at_fn g; refine hl.mono ?_; rintro e w' ⟨rfl, q, rfl⟩)
        go_roundg ((i + j) / 2 - i)
        case measure => omega
        case rel => exact ⟨i, (i + j) / 2, rfl, by rw [show ((i : Int) + (j : Int)) / 2 = (((i + j) / 2 : Nat) : Int) by omega], by omega, by omega, by omega, by omega, Lib.hid ⟨HI.out.1.drewN _, HI.out.2.1, .inr HV.out⟩⟩
    · obtain rfl : i = j := by omega
      go_wp2
      rename World => wl
      go_loopg [15] (m - i) (fun kx vk wr => ∃ (k : Nat) (dk : Array α), vk = .int .i64 k ∧ k = i + kx ∧ k ≤ m ∧ Hid (SW enc (W.alloc (.cells #[.func (.func g) #[] lb, .func (.func sf) #[] sb] (ρ.t 42))) blk off dk wr ∧ dk.size = sz ∧ Rot d dk k m (m + 1)))
      case atStart => exact ⟨m, d, rfl, by omega, by omega, Lib.hid ⟨HI.out.1, H.out.size, Rot.none (.inl rfl) (by omega) (by omega)⟩⟩
      case round =>
        obtain ⟨k, dk, rfl, hkk, hak, HK⟩ := hrel
        have HKK := Lib.hid hkk
        clear hkk
        by_cases hki : i < k
        · have hs := H1.out.swp_ HK.out.1 HK.out.2.1 k (k - 1) (by omega) (by omega)
          rw [show ((k - 1 : Nat) : Int) = (k : Int) - 1 by omega] at hs
          have c1 := (BX.out.sw HK.out.1 hneB (by simp)).c1
          have hdk := HK.out.2.1
          have hrot := HK.out.2.2
          obtain ⟨k1, hk1⟩ : ∃ k1, k = k1 + 1 := ⟨k - 1, by omega⟩
          have H2 : Hid (SW enc (W.alloc (.cells #[.func (.func g) #[] lb, .func (.func sf) #[] sb] (ρ.t 42))) blk off (swp dk k (k - 1)) ((wr.setCell ⟨blk, off + k, none⟩ (enc dk[k - 1]!)).setCell ⟨blk, off + (k - 1), none⟩ (enc dk[k]!)) ∧ (swp dk k (k - 1)).size = sz ∧ Rot d (swp dk k (k - 1)) (k - 1) m (m + 1)) :=
            ⟨HK.out.1.swap H1.out.blk k (k - 1) (by omega) (by omega), by rw [size_swp]; exact hdk, by
              subst hk1
              exact hrot.down (by omega) (by rw [H.out.size]; omega)⟩
          clear hdk hrot hk1
          have hg : decide ((i : Int) < (k : Int)) = true := decide_eq_true (by omega)
          go_wp2
          clear hs c1
          go_roundg (k - 1 - i)
          case measure => have := HKK.out; omega
          case rel => exact ⟨k - 1, _, by congr 1; omega, by omega, by omega, H2⟩
        · have hg : decide ((i : Int) < (k : Int)) = false := decide_eq_false (by omega)
          go_wp2
          (try simp only [Exit.inBlock, Exit.then])
          refine bodyPost_ret (results_none rfl _ _ _) rfl ?_
          have hk1 : k = i := by have := HKK.out; omega
          have hrot := HK.out.2.2
          rw [hk1] at hrot
          refine ⟨rfl, dk, sw_of_alloc HK.out.1 H.out.blk, ?_, ?_⟩
          · rw [HB.out]
            exact permIn_mono _ _ i (m + 1) a (m + 1) hi (Nat.le_refl _) (by rw [H.out.size]; omega) hrot.perm
          · rw [HB.out]
            exact mrg_down hO hi (by omega) HS.out hrot HI.out.2.1 HI.out.2.2
end Go.Proofs.Ythcmkjiemlfpcaa
