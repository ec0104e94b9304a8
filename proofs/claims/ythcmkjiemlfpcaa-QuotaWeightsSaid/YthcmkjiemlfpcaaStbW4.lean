/- stable_func, SliceStable of Go's sort: over any program, at any length. -/
import Derived.Test.YthcmkjiemlfpcaaStbW3
namespace Go.Proofs.Ythcmkjiemlfpcaa
open Go Go.Shelf Go.RowKit Go.Lib Go.Sort
set_option linter.unusedVariables false
set_option linter.unusedSimpArgs false
variable {P : Program} {ρ : Ren} {α : Type} [Inhabited α]

theorem mul_zero_of {a k s : Nat} (h : a = k * s) (h0 : k = 0) : a = 0 := by rw [h, h0, Nat.zero_mul]
set_option maxHeartbeats 8000000 in
set_option maxRecDepth 100000 in
theorem stable_is (L : LaysGt.n15 P ρ) (enc : α → Value) (lt lt' : α → α → Bool) (hO : SWO lt') (g : Nat) (lb : Array Value) (sf : Nat) (sb : Array Value) (blk off sz : Nat) (d : Array α) (W : World)
    (h : Srt P enc lt g lb sf sb blk off sz d W) (hag : AgA lt lt' sz d) (hs60 : sz < 1152921504606846976) :
    Calls P (ρ.f 15) #[.agg #[.func (.func g) #[] lb, .func (.func sf) #[] sb], .int .i64 sz] W fun e w' => e = .returned (.tuple #[]) ∧ ∃ d', SW enc W blk off d' w' ∧ PermIn 0 sz d d' ∧ SortedIn lt' 0 sz d' := by
  have mixed := L.mixed; have t0 := L.t0; have a0 := L.a0; have z0 := L.z0; have v0 := L.v0; have t3 := L.t3; have a3 := L.a3; have z3 := L.z3; have v3 := L.v3; have t4 := L.t4; have a4 := L.a4; have z4 := L.z4; have v4 := L.v4; have t26 := L.t26; have a26 := L.a26; have z26 := L.z26; have v26 := L.v26; have t38 := L.t38; have a38 := L.a38; have z38 := L.z38; have v38 := L.v38; have t42 := L.t42; have a42 := L.a42; have z42 := L.z42; have v42 := L.v42; have t47 := L.t47; have a47 := L.a47; have z47 := L.z47; have v47 := L.v47
  have u42 := run_underlying L.t42; have u3 := run_underlying L.t3; have u47 := run_underlying L.t47
  have e29 : ∀ args w, (callFunc (ρ.f 29) args).run P w = .ok (.enter (ρ.f 29) args) w := enters_of L.f29 (by kernel_rfl) rfl
  have e30 : ∀ args w, (callFunc (ρ.f 30) args).run P w = .ok (.enter (ρ.f 30) args) w := enters_of L.f30 (by kernel_rfl) rfl
  have LI : LaysGg.n26 P ρ.viaGt := ({ L with } : LaysGt.n29 P ρ).elder
  have BX := Lib.hid (Bxd.new W g lb sf sb (ρ.t 42))
  have H1 := Lib.hid (h.box (.cells #[.func (.func g) #[] lb, .func (.func sf) #[] sb] (ρ.t 42)))
  have hneB : W.heap.size ≠ blk := by have := h.blk; omega
  have H := Lib.hid h
  have HA := Lib.hid hag
  have INS := Lib.hid (fun (a b : Nat) (dk : Array α) (wr : World) (hs : SW enc (W.alloc (.cells #[.func (.func g) #[] lb, .func (.func sf) #[] sb] (ρ.t 42))) blk off dk wr) (hk : dk.size = sz) (hab : a ≤ b) (hb : b ≤ sz) =>
    (show Calls P (ρ.f 29) #[.agg #[.func (.func g) #[] lb, .func (.func sf) #[] sb], .int .i64 a, .int .i64 b] wr fun e w' => e = .returned (.tuple #[]) ∧ SW enc wr blk off (Sort.insertionSort lt dk a b) w' from
      Any.insertionSort_func_w LI enc lt g lb sf sb blk off a b dk wr H.out.eg (by rw [hk]; exact (H1.out.on hs hk).less) (by rw [hk]; exact H.out.swap) (H1.out.on hs hk).row (H1.out.on hs hk).blk hab (by omega) (by omega)))
  have SYM := Lib.hid (fun (a m b : Nat) (dk : Array α) (wr : World) (hs : SW enc (W.alloc (.cells #[.func (.func g) #[] lb, .func (.func sf) #[] sb] (ρ.t 42))) blk off dk wr) (hk : dk.size = sz) (h1 : a < m) (h2 : m < b) (h3 : b ≤ sz) (hp : SortedIn lt' a m dk ∧ SortedIn lt' m b dk ∧ Agr lt lt' a m b dk) =>
    symMerge_is (P := P) (ρ := ρ) { L with } enc lt lt' hO g lb sf sb blk off sz (b - a) a m b dk wr (Nat.le_refl _) (H1.out.on hs hk) h1 h2 h3 hp.1 hp.2.1 hp.2.2)
  unfold SymPost at SYM
  clear h hag LI
  go_enter L.f15, BodyGt.n15_ntmps ρ
  go_wp2
  go_loopg [5, 6] sz (fun kx va vb wr => ∃ (k a b : Nat) (dk : Array α), va = .int .i64 a ∧ vb = .int .i64 b ∧ a + 20 ≤ b ∧ b ≤ a + 20 ∧ a ≤ sz ∧ sz - a ≤ kx ∧ Hid (a = k * 20) ∧ Hid (SW enc (W.alloc (.cells #[.func (.func g) #[] lb, .func (.func sf) #[] sb] (ρ.t 42))) blk off dk wr ∧ Ini lt lt' 20 sz k d dk))
  case atStart => exact ⟨0, 0, 20, d, rfl, rfl, by omega, by omega, by omega, by omega, Lib.hid (by omega), Lib.hid ⟨SW.start H1.out.row, Ini.start HA.out⟩⟩
  case round =>
    obtain ⟨k, a, b, dk, rfl, rfl, hb1, hb2, han, hk, HK, HI⟩ := hrel
    have hds : dk.size = sz := HI.out.2.perm.1.trans H.out.size
    have HDS := Lib.hid hds
    clear hds
    obtain ⟨c0, c1⟩ := BX.out.sw HI.out.1 hneB (by simp)
    by_cases hbs : b ≤ sz
    · have hx := INS.out a b dk wr HI.out.1 HDS.out (by omega) hbs
      have hle : decide ((b : Int) ≤ (sz : Int)) = true := decide_eq_true (by omega)
      go_wp2_with (go_at_fn (ρ.f 29); refine hx.mono ?_; rintro e w' ⟨rfl, hs1⟩)
      have hm := HI.out.2.ins hO HA.out HK.out (by omega) hbs (by rw [H.out.size]; omega)
      have HX := Lib.hid (And.intro (sw_trans HI.out.1 H1.out.blk hs1 hm.1.1) (HI.out.2.step HK.out (by omega) hbs (by rw [H.out.size]; omega) hm))
      clear hs1 hm c0 c1
      go_wp2
      go_roundg (sz - b)
      case measure => omega
      case rel => exact ⟨k + 1, b, b + 20, _, rfl, by congr 1, by omega, by omega, hbs, by omega, Lib.hid HX.out.2.2, Lib.hid ⟨HX.out.1, HX.out.2.1⟩⟩
    · have hx := INS.out a sz dk wr HI.out.1 HDS.out han (Nat.le_refl _)
      have hle : decide ((b : Int) ≤ (sz : Int)) = false := decide_eq_false (by omega)
      go_wp2_with (go_at_fn (ρ.f 29); refine hx.mono ?_; rintro e w' ⟨rfl, hs1⟩)
      have hm := HI.out.2.ins hO HA.out HK.out han (Nat.le_refl _) (by rw [H.out.size]; omega)
      have HX := Lib.hid (And.intro (sw_trans HI.out.1 H1.out.blk hs1 hm.1.1) (HI.out.2.fin HK.out han (by omega) (by rw [H.out.size]; omega) hm))
      clear hs1 hm c0 c1 HI HK HDS hk hb1 hb2 han hbs hle hx
      generalize (Sort.insertionSort lt dk a sz) = dk0 at HX
      go_wp2
      rename World => wz
      go_loopg [4] sz (fun kx vs wr => ∃ (s : Nat) (dk : Array α), vs = .int .i64 s ∧ 0 < s ∧ s ≤ 2 * sz + 20 ∧ sz - s ≤ kx ∧ Hid (SW enc (W.alloc (.cells #[.func (.func g) #[] lb, .func (.func sf) #[] sb] (ρ.t 42))) blk off dk wr ∧ Stg lt lt' s sz d dk))
      case atStart => exact ⟨20, dk0, rfl, by omega, by omega, by omega, HX⟩
      case round =>
        clear HX
        obtain ⟨s, dk, rfl, hs0, hs2, hk, HI⟩ := hrel
        by_cases hss : s < sz
        · have hlt : decide ((s : Int) < (sz : Int)) = true := decide_eq_true (by omega)
          go_wp2
          rename World => ws
          go_loopg [5, 6] sz (fun kx va vb wr => ∃ (k a b : Nat) (dj : Array α), va = .int .i64 a ∧ vb = .int .i64 b ∧ a + 2 * s ≤ b ∧ b ≤ a + 2 * s ∧ a ≤ sz ∧ sz - a ≤ kx ∧ Hid (a = k * (2 * s)) ∧ Hid (SW enc (W.alloc (.cells #[.func (.func g) #[] lb, .func (.func sf) #[] sb] (ρ.t 42))) blk off dj wr ∧ Mid lt lt' s sz k dk dj))
          case atStart => exact ⟨0, 0, 2 * s, dk, rfl, by congr 1, by omega, by omega, by omega, by omega, Lib.hid (by omega), Lib.hid ⟨HI.out.1, HI.out.2.mid⟩⟩
          case round =>
            obtain ⟨k, a, b, dj, rfl, rfl, hb1, hb2, han, hk2, HK, HJ⟩ := hrel
            have HDS : Hid (dj.size = sz) := Lib.hid (HJ.out.2.perm.1.trans (HI.out.2.perm.1.trans H.out.size))
            have HDK : Hid (dk.size = sz) := Lib.hid (HI.out.2.perm.1.trans H.out.size)
            obtain ⟨c0, c1⟩ := BX.out.sw HJ.out.1 hneB (by simp)
            by_cases hbs : b ≤ sz
            · have hx := SYM.out a (a + s) b dj wr HJ.out.1 HDS.out (by omega) (by omega) hbs (HJ.out.2.pre HI.out.2 HK.out hb2 hbs (by omega))
              rw [show ((a + s : Nat) : Int) = (a : Int) + (s : Int) by omega] at hx
              have hle : decide ((b : Int) ≤ (sz : Int)) = true := decide_eq_true (by omega)
              go_wp2_with (go_at_fn (ρ.f 30); refine hx.mono ?_; rintro e w' ⟨rfl, d', hs1, hm⟩)
              have HX := Lib.hid (And.intro (sw_trans HJ.out.1 H1.out.blk hs1 hm.1.1) (HJ.out.2.step HK.out (by omega) hbs (by rw [HDK.out]; omega) hm))
              clear hs1 hm c0 c1
              go_wp2
              go_roundg (sz - b)
              case measure => omega
              case rel => exact ⟨k + 1, b, b + 2 * s, d', rfl, by congr 1, by omega, by omega, hbs, by omega, Lib.hid HX.out.2.2, Lib.hid ⟨HX.out.1, HX.out.2.1⟩⟩
            · have hle : decide ((b : Int) ≤ (sz : Int)) = false := decide_eq_false (by omega)
              by_cases hm : a + s < sz
              · have hx := SYM.out a (a + s) sz dj wr HJ.out.1 HDS.out (by omega) hm (Nat.le_refl _) (HJ.out.2.pre HI.out.2 HK.out (by omega) (Nat.le_refl _) (by omega))
                rw [show ((a + s : Nat) : Int) = (a : Int) + (s : Int) by omega] at hx
                have hml : decide ((a : Int) + (s : Int) < (sz : Int)) = true := decide_eq_true (by omega)
                go_wp2_with (go_at_fn (ρ.f 30); refine hx.mono ?_; rintro e w' ⟨rfl, d', hs1, hm1⟩)
                have HX := Lib.hid (And.intro (sw_trans HJ.out.1 H1.out.blk hs1 hm1.1.1) (HJ.out.2.fin HI.out.2 HK.out han (by omega) (by rw [H.out.size]; omega) hm1))
                clear hs1 hm1 c0 c1
                go_wp2
                go_roundg (sz - 2 * s)
                case measure => omega
                case rel => exact ⟨2 * s, d', by congr 1; omega, by omega, by omega, Nat.le_refl _, HX⟩
              · have hml : decide ((a : Int) + (s : Int) < (sz : Int)) = false := decide_eq_false (by omega)
                have HX := Lib.hid (And.intro HJ.out.1 (HJ.out.2.fin HI.out.2 HK.out han (by omega) (by rw [H.out.size]; omega) (HJ.out.2.rest HI.out.2 HK.out (by omega))))
                clear c0 c1
                go_wp2
                go_roundg (sz - 2 * s)
                case measure => omega
                case rel => exact ⟨2 * s, dj, by congr 1; omega, by omega, by omega, Nat.le_refl _, HX⟩
        · have hlt : decide ((s : Int) < (sz : Int)) = false := decide_eq_false (by omega)
          go_wp2
          go_end0
          exact ⟨rfl, dk, sw_of_alloc HI.out.1 H.out.blk, HI.out.2.done (by omega)⟩

/-- sort.SliceStable at two elements or more. -/
theorem sliceStable_is (L : LaysGt.n8 P ρ) (t e : TypeId) (i ie : TypeInfo) (hi : P.info? t = some i) (hd : i.desc = .slice e) (hpk : P.packed t = false) (hie : P.info? e = some ie) (ke : Nat) (hke : ∀ w, (Extern.Rtype.kind e).run P w = .ok ke w)
    (hs1 : ie.size = 1) (hagg : ∀ w, (isAgg e).run P w = .ok false w) (enc : α → Value) (h1 : ∀ x, (enc x).oneCell' = true) (lt lt' : α → α → Bool) (hO : SWO lt') (g : Nat) (lb : Array Value)
    (eg : ∀ args w, (callFunc g args).run P w = .ok (.enter g args) w) (blk off c : Nat) (d : Array α) (h2 : 2 ≤ d.size) (hsz : d.size < 1152921504606846976)
    (f : Nat) (hf : P.funcs.findIdx? (·.name == "internal/reflectlite" ++ ".Swapper$" ++ toString (swapperK d.size ie ke)) = some f)
    (gS : Bool) (hx : ∀ args W, (callFunc f args).run P W = ((Extern.ReflectliteSwapper.swap gS args).run P W).andThen fun v w' => .ok (.value v) w')
    (w : World) (hless : LessReads P g lb enc lt blk off d.size w) (hH : Holds enc w blk off d) (hblk : blk < w.heap.size) (hag : AgA lt lt' d.size d) :
    Calls P (ρ.f 8) #[.iface t (.slice (some ⟨blk, off, none⟩) d.size c), .func (.func g) #[] lb] w fun e w' =>
      e = .returned (.tuple #[]) ∧ ∃ d' n os, PermIn 0 d.size d d' ∧ SortedIn lt' 0 d.size d' ∧ w' = grow (putRow enc (Sort.ahead w n) blk off d') os := by
  refine Any.sort_SliceStable_of_stable L t e i ie hi hd hpk hie ke hke _ d.size c (by omega) f hf (.func g) #[] lb w _ ?_
  have hB : sliceBound P e ie ke (some ⟨blk, off, none⟩) d.size c = #[.slice (some ⟨blk, off, none⟩) d.size c, typeHandle P e] := by
    unfold sliceBound; rw [if_neg (swapperK_gt _ _ _ h2)]
  have hW : stableWorld P ρ t (some ⟨blk, off, none⟩) d.size c w = grow w #[.cells #[.slice (some ⟨blk, off, none⟩) d.size c] t, .cells #[.pointer (some ⟨P.globals.size, t, none⟩), .pointer (some ⟨w.heap.size, 0, none⟩), .int .u64 151] (ρ.t 36)] := by
    unfold stableWorld; rw [alloc_eq_grow, alloc_eq_grow, grow_grow]; rfl
  generalize (#[.cells #[.slice (some ⟨blk, off, none⟩) d.size c] t, .cells #[.pointer (some ⟨P.globals.size, t, none⟩), .pointer (some ⟨w.heap.size, 0, none⟩), .int .u64 151] (ρ.t 36)] : Array Obj) = os0 at hW
  rw [hB, hW]
  have hp := stable_is (P := P) (ρ := ρ) { L with } enc lt lt' hO g lb f _ blk off d.size d (grow w os0) ⟨eg, hless.grow hblk os0,
    swapSwaps_of_literal gS f hx e ie hie hs1 hagg enc h1 blk off d.size c, holds_grow enc w _ blk off d hblk hH, (by rw [size_grow]; omega), rfl, by omega⟩ hag hsz
  refine hp.mono ?_
  rintro e w' ⟨rfl, d', ⟨n, os, rfl⟩, h1, h2⟩
  exact ⟨rfl, d', n, _, h1, h2, by unfold sortWorld; rw [ahead_grow, putRow_grow enc (Sort.ahead w n) _ blk off _ hblk, grow_grow]⟩
end Go.Proofs.Ythcmkjiemlfpcaa
