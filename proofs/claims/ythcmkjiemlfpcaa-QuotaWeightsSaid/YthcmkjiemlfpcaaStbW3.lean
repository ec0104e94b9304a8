/- symMerge_func where both rows are longer; the whole of it. -/
import Derived.Test.YthcmkjiemlfpcaaStbW2
namespace Go.Proofs.Ythcmkjiemlfpcaa
open Go Go.Shelf Go.RowKit Go.Lib Go.Sort
set_option linter.unusedVariables false
set_option linter.unusedSimpArgs false
variable {P : Program} {ρ : Ren} {α : Type} [Inhabited α]

/-- What symMerge hands back. -/
def SymPost (enc : α → Value) (lt' : α → α → Bool) (blk off a b : Nat) (d : Array α) (W : World) (e : Ending) (w' : World) : Prop :=
  e = .returned (.tuple #[]) ∧ ∃ d', SW enc W blk off d' w' ∧ Mrg lt' a b d d'
/-- Of the row behind against the row ahead the two orders agree. -/
def Agr (lt lt' : α → α → Bool) (a m b : Nat) (d : Array α) : Prop := ∀ i j, a ≤ i → i < m → m ≤ j → j < b → lt d[j]! d[i]! = lt' d[j]! d[i]!
/-- Where the halving begins. -/
def Cut0 (a m b mid s0 r0 : Nat) : Prop := (mid < m ∧ s0 + b = mid + m ∧ r0 = mid) ∨ (m ≤ mid ∧ s0 = a ∧ r0 = m)

set_option maxHeartbeats 8000000 in
set_option maxRecDepth 100000 in
theorem sym_gen (L : LaysGt.n30 P ρ) (enc : α → Value) (lt lt' : α → α → Bool) (hO : SWO lt') (g : Nat) (lb : Array Value) (sf : Nat) (sb : Array Value) (blk off a m b sz : Nat) (d : Array α) (W : World)
    (h : Srt P enc lt g lb sf sb blk off sz d W) (ham : a + 1 < m) (hmb : m + 1 < b) (hb : b ≤ sz) (hl : SortedIn lt' a m d) (hr : SortedIn lt' m b d) (hag : Agr lt lt' a m b d)
    (IH : ∀ (a' m' b' : Nat) (d' : Array α) (W' : World), b' - a' < b - a → Srt P enc lt g lb sf sb blk off sz d' W' → a' < m' → m' < b' → b' ≤ sz → SortedIn lt' a' m' d' → SortedIn lt' m' b' d' → Agr lt lt' a' m' b' d' →
      Calls P (ρ.f 30) #[.agg #[.func (.func g) #[] lb, .func (.func sf) #[] sb], .int .i64 a', .int .i64 m', .int .i64 b'] W' (SymPost enc lt' blk off a' b' d' W')) :
    Calls P (ρ.f 30) #[.agg #[.func (.func g) #[] lb, .func (.func sf) #[] sb], .int .i64 a, .int .i64 m, .int .i64 b] W (SymPost enc lt' blk off a b d W) := by
  have mixed := L.mixed; have t0 := L.t0; have a0 := L.a0; have z0 := L.z0; have v0 := L.v0; have t3 := L.t3; have a3 := L.a3; have z3 := L.z3; have v3 := L.v3; have t4 := L.t4; have a4 := L.a4; have z4 := L.z4; have v4 := L.v4; have t26 := L.t26; have a26 := L.a26; have z26 := L.z26; have v26 := L.v26; have t38 := L.t38; have a38 := L.a38; have z38 := L.z38; have v38 := L.v38; have t42 := L.t42; have a42 := L.a42; have z42 := L.z42; have v42 := L.v42; have t47 := L.t47; have a47 := L.a47; have z47 := L.z47; have v47 := L.v47
  have u42 := run_underlying L.t42; have u3 := run_underlying L.t3; have u47 := run_underlying L.t47
  have eg := h.eg
  have e42 : ∀ args w, (callFunc (ρ.f 42) args).run P w = .ok (.enter (ρ.f 42) args) w := enters_of L.f42 (by kernel_rfl) rfl
  have e30 : ∀ args w, (callFunc (ρ.f 30) args).run P w = .ok (.enter (ρ.f 30) args) w := enters_of L.f30 (by kernel_rfl) rfl
  have BX := Lib.hid (Bxd.new W g lb sf sb (ρ.t 42))
  have H1 := Lib.hid (h.box (.cells #[.func (.func g) #[] lb, .func (.func sf) #[] sb] (ρ.t 42)))
  have hneB : W.heap.size ≠ blk := by have := h.blk; omega
  have hsz := h.max
  have H := Lib.hid h
  have HL := Lib.hid hl
  have HR := Lib.hid hr
  have HA := Lib.hid hag
  have RO := Lib.hid (fun (x y z : Nat) (dk : Array α) (wr : World) (hs : SW enc (W.alloc (.cells #[.func (.func g) #[] lb, .func (.func sf) #[] sb] (ρ.t 42))) blk off dk wr) (hk : dk.size = sz) (hxy : x < y) (hyz : y < z) (hz : z ≤ sz) => rotate_is { L with } enc g lb sf sb blk off x y z sz dk wr hk H.out.swap (H1.out.on hs hk).row (H1.out.on hs hk).blk hxy hyz hz H.out.max)
  have IHH := Lib.hid IH
  obtain ⟨mid, hmid⟩ : ∃ mid, mid = (a + b) / 2 := ⟨_, rfl⟩
  have hm2 : 2 * mid ≤ a + b := by omega
  have hm3 : a + b ≤ 2 * mid + 1 := by omega
  have hmi : ((a : Int) + (b : Int)) / 2 = (mid : Int) := by omega
  have hq1 : (((m : Int) - (a : Int)) == 1) = false := by simp; omega
  have hq2 : (((b : Int) - (m : Int)) == 1) = false := by simp; omega
  clear h hl hr hag IH hmid
  unfold SymPost
  go_enter L.f30, BodyGt.n30_ntmps ρ
  go_upto_if 106 with (fail)
  go_cut [18, 19] from 23 (fun v18 v19 wx => ∃ s0 r0 : Nat, v18 = .int .i64 s0 ∧ v19 = .int .i64 r0 ∧ Hid (Cut0 a m b mid s0 r0) ∧ Hid (SW enc (W.alloc (.cells #[.func (.func g) #[] lb, .func (.func sf) #[] sb] (ρ.t 42))) blk off d wx))
  case first =>
    by_cases hc : mid < m
    · have hgt : decide ((mid : Int) < (m : Int)) = true := decide_eq_true (by omega)
      go_wp2_with fail
      go_meet
      case rel => exact ⟨mid + m - b, mid, by congr 1; omega, rfl, Lib.hid (.inl ⟨hc, by omega, rfl⟩), Lib.hid (SW.start H1.out.row)⟩
    · have hgt : decide ((mid : Int) < (m : Int)) = false := decide_eq_false (by omega)
      go_wp2_with fail
      go_meet
      case rel => exact ⟨a, m, rfl, rfl, Lib.hid (.inr ⟨by omega, rfl, rfl⟩), Lib.hid (SW.start H1.out.row)⟩
  case' rest =>
    obtain ⟨s0, r0, rfl, rfl, HC, HS0⟩ := hcut
    have hcc := HC.out
    unfold Cut0 at hcc
    have hs0 : a ≤ s0 := by omega
    have hr0 : r0 ≤ m := by omega
    have hr1 : r0 ≤ mid := by omega
    have hs1 : mid + m ≤ s0 + b := by omega
    have hs2 : s0 ≤ r0 := by omega
    clear hcc
    go_wp2
    go_loopg [18, 19] (r0 - s0) (fun kx vs vr wr => ∃ s r : Nat, vs = .int .i64 s ∧ vr = .int .i64 r ∧ r - s ≤ kx ∧ s0 ≤ s ∧ s ≤ r ∧ r ≤ r0 ∧ Hid (SW enc (W.alloc (.cells #[.func (.func g) #[] lb, .func (.func sf) #[] sb] (ρ.t 42))) blk off d wr ∧ (s = s0 ∨ lt' d[mid + m - s]! d[s - 1]! = false) ∧ (r = r0 ∨ lt' d[mid + m - 1 - r]! d[r]! = true)))
    case atStart => exact ⟨s0, r0, rfl, rfl, by omega, by omega, by omega, by omega, Lib.hid ⟨HS0.out, .inl rfl, .inl rfl⟩⟩
    case round =>
      obtain ⟨s, r, rfl, rfl, hk, hs, hsr, hrr, HI⟩ := hrel
      by_cases hlt : s < r
      · have hl := H1.out.lss HI.out.1 H.out.size (mid + m - 1 - (s + r) / 2) ((s + r) / 2) (by omega) (by omega)
        rw [show ((mid + m - 1 - (s + r) / 2 : Nat) : Int) = (mid : Int) + (m : Int) - 1 - ((s : Int) + (r : Int)) / 2 by omega, show (((s + r) / 2 : Nat) : Int) = ((s : Int) + (r : Int)) / 2 by omega] at hl
        have c0 := (BX.out.sw HI.out.1 hneB (by simp)).c0
        have HE := Lib.hid (HA.out ((s + r) / 2) (mid + m - 1 - (s + r) / 2) (by omega) (by omega) (by omega) (by omega))
        cases hlv : lt d[mid + m - 1 - (s + r) / 2]! d[(s + r) / 2]! with
        | false =>
          rw [hlv] at hl
          have HV := Lib.hid (HE.out.symm.trans hlv)
          clear hlv HE
          go_wp2_with (go_at_fn g; refine hl.mono ?_; rintro e w' ⟨rfl, q, rfl⟩)
          go_roundg (r - ((s + r) / 2 + 1))
          case measure => omega
          case rel => exact ⟨(s + r) / 2 + 1, r, by rw [show ((s : Int) + (r : Int)) / 2 + 1 = (((s + r) / 2 + 1 : Nat) : Int) by omega], rfl, by omega, by omega, by omega, by omega, Lib.hid ⟨HI.out.1.drewN _, .inr (by rw [show mid + m - ((s + r) / 2 + 1) = mid + m - 1 - (s + r) / 2 by omega]; exact HV.out), HI.out.2.2⟩⟩
        | true =>
          rw [hlv] at hl
          have HV := Lib.hid (HE.out.symm.trans hlv)
          clear hlv HE
          go_wp2_with (go_at_fn g; refine hl.mono ?_; rintro e w' ⟨rfl, q, rfl⟩)
          go_roundg ((s + r) / 2 - s)
          case measure => omega
          case rel => exact ⟨s, (s + r) / 2, rfl, by rw [show ((s : Int) + (r : Int)) / 2 = (((s + r) / 2 : Nat) : Int) by omega], by omega, by omega, by omega, by omega, Lib.hid ⟨HI.out.1.drewN _, HI.out.2.1, .inr HV.out⟩⟩
      · obtain rfl : s = r := by omega
        have hcc := HC.out
        unfold Cut0 at hcc
        obtain ⟨e, he⟩ : ∃ e, e = mid + m - s := ⟨_, rfl⟩
        have hei : (mid : Int) + (m : Int) - (s : Int) = (e : Int) := by omega
        have q0 : a ≤ s := by omega
        have q1 : s ≤ m := by omega
        have q2 : m ≤ e := by omega
        have q3 : e ≤ b := by omega
        have q4 : s ≤ mid := by omega
        have q5 : mid ≤ e := by omega
        have HE : Hid (s + (e - m) = mid) := Lib.hid (by omega)
        have HC1 : Hid (s = a ∨ e = b ∨ lt' d[e]! d[s - 1]! = false) := Lib.hid (by
          rcases HI.out.2.1 with hx | hx
          · rcases hcc with ⟨_, hy, _⟩ | ⟨_, hy, _⟩
            · exact .inr (.inl (by omega))
            · exact .inl (by omega)
          · exact .inr (.inr (by rw [he]; exact hx)))
        have HC2 : Hid (s = m ∨ e = m ∨ lt' d[e - 1]! d[s]! = true) := Lib.hid (by
          rcases HI.out.2.2 with hx | hx
          · rcases hcc with ⟨_, _, hy⟩ | ⟨_, _, hy⟩
            · exact .inr (.inl (by omega))
            · exact .inl (by omega)
          · exact .inr (.inr (by rw [he, show mid + m - s - 1 = mid + m - 1 - s by omega]; exact hx)))
        have HSW := Lib.hid HI.out.1
        clear hcc he HI HC HS0 hk hs hsr hrr hs0 hr0 hr1 hs1 hs2
        go_upto_region 40 with (fail)
        rename World => wl
        go_cut [145] from 23 (fun v wx => ∃ t : Bool, v = .bool t ∧ Hid (t = true ↔ (s < m ∧ m < e)) ∧ Hid (SW enc (W.alloc (.cells #[.func (.func g) #[] lb, .func (.func sf) #[] sb] (ρ.t 42))) blk off d wx))
        case first =>
          by_cases h1 : s < m
          · have k1 : decide ((s : Int) < (m : Int)) = true := decide_eq_true (by omega)
            by_cases h2 : m < e
            · have k2 : decide ((m : Int) < (e : Int)) = true := decide_eq_true (by omega)
              go_wp2_with fail
              go_meet
              case rel => exact ⟨_, rfl, Lib.hid (by simp [h1, h2]), HSW⟩
            · have k2 : decide ((m : Int) < (e : Int)) = false := decide_eq_false (by omega)
              go_wp2_with fail
              go_meet
              case rel => exact ⟨_, rfl, Lib.hid (by simp [h1, h2]), HSW⟩
          · have k1 : decide ((s : Int) < (m : Int)) = false := decide_eq_false (by omega)
            go_wp2_with fail
            go_meet
            case rel => exact ⟨_, rfl, Lib.hid (by simp [h1]), HSW⟩
        case' rest =>
          clear HSW
          obtain ⟨t, rfl, HT, HSW⟩ := hcut
          go_upto_if 145 with (fail)
          rename World => wl
          go_cut [] from 23 (fun wx => ∃ d1 : Array α, Hid (SW enc (W.alloc (.cells #[.func (.func g) #[] lb, .func (.func sf) #[] sb] (ρ.t 42))) blk off d1 wx ∧ Rot d d1 s m e))
          case first =>
            cases t with
            | true =>
              obtain ⟨h1, h2⟩ := HT.out.1 rfl
              have hx := RO.out s m e d wl HSW.out H.out.size h1 h2 (by omega)
              obtain ⟨c0, c1⟩ := BX.out.sw HSW.out hneB (by simp)
              go_wp2_with (go_at_fn (ρ.f 42); refine hx.mono ?_; rintro e1 w' ⟨rfl, d1, hs1, hx1⟩)
              have HX := Lib.hid (And.intro (sw_trans HSW.out H1.out.blk hs1 hx1.perm.1) hx1)
              clear hs1 hx1 c0 c1
              go_wp2_with fail
              go_meet
              case rel => exact ⟨d1, HX⟩
            | false =>
              have hn : ¬ (s < m ∧ m < e) := fun hh => by have := HT.out.2 hh; cases this
              have HR0 : Hid (Rot d d s m e) := Lib.hid (Rot.none (by omega) q1 q2)
              clear hn
              go_wp2_with fail
              go_meet
              case rel => exact ⟨d, Lib.hid ⟨HSW.out, HR0.out⟩⟩
          case' rest =>
            obtain ⟨d1, HD1⟩ := hcut
            have hd1 : d1.size = sz := HD1.out.2.perm.1.trans H.out.size
            have hX := mrg_cross hO (by omega) q1 q2 q3 HL.out HR.out HD1.out.2 HC1.out HC2.out
            rw [HE.out] at hX
            have HX := Lib.hid hX
            have HS1 := Lib.hid hd1
            have hA1 : Agr lt lt' a s mid d1 := fun i j i1 i2 j1 j2 => by
              have hee := HE.out
              rw [HD1.out.2.out i (.inl i2), HD1.out.2.lo j j1 (by omega)]
              exact HA.out i (j + (m - s)) i1 (by omega) (by omega) (by omega)
            have hA2 : Agr lt lt' mid e b d1 := fun i j i1 i2 j1 j2 => by
              have hee := HE.out
              rw [HD1.out.2.out j (.inr j1), HD1.out.2.hi i (by omega) i2]
              exact HA.out (i - (e - m)) j (by omega) (by omega) (by omega) (by omega)
            have HA1 := Lib.hid hA1
            have HA2 := Lib.hid hA2
            clear HSW
            have HSW := Lib.hid HD1.out.1
            clear hX hd1 hA1 hA2
            go_upto_region 42 with (fail)
            rename World => wl
            go_cut [158] from 23 (fun v wx => ∃ t : Bool, v = .bool t ∧ Hid (t = true ↔ (a < s ∧ s < mid)) ∧ Hid (SW enc (W.alloc (.cells #[.func (.func g) #[] lb, .func (.func sf) #[] sb] (ρ.t 42))) blk off d1 wx))
            case first =>
              by_cases h1 : a < s
              · have k1 : decide ((a : Int) < (s : Int)) = true := decide_eq_true (by omega)
                by_cases h2 : s < mid
                · have k2 : decide ((s : Int) < (mid : Int)) = true := decide_eq_true (by omega)
                  go_wp2_with fail
                  go_meet
                  case rel => exact ⟨_, rfl, Lib.hid (by simp [h1, h2]), HSW⟩
                · have k2 : decide ((s : Int) < (mid : Int)) = false := decide_eq_false (by omega)
                  go_wp2_with fail
                  go_meet
                  case rel => exact ⟨_, rfl, Lib.hid (by simp [h1, h2]), HSW⟩
              · have k1 : decide ((a : Int) < (s : Int)) = false := decide_eq_false (by omega)
                go_wp2_with fail
                go_meet
                case rel => exact ⟨_, rfl, Lib.hid (by simp [h1]), HSW⟩
            case' rest =>
              clear HSW
              obtain ⟨t, rfl, HT2, HSW⟩ := hcut
              go_upto_if 158 with (fail)
              rename World => wl
              go_cut [] from 23 (fun wx => ∃ d2 : Array α, Hid (SW enc (W.alloc (.cells #[.func (.func g) #[] lb, .func (.func sf) #[] sb] (ρ.t 42))) blk off d2 wx ∧ Mrg lt' a mid d1 d2))
              case first =>
                cases t with
                | true =>
                  obtain ⟨h1, h2⟩ := HT2.out.1 rfl
                  have hx := IHH.out a s mid d1 wl (by omega) (H1.out.on HSW.out HS1.out) h1 h2 (by omega) HX.out.1 HX.out.2.1 HA1.out
                  unfold SymPost at hx
                  obtain ⟨c0, c1⟩ := BX.out.sw HSW.out hneB (by simp)
                  go_wp2_with (go_at_fn (ρ.f 30); refine hx.mono ?_; rintro e1 w' ⟨rfl, d2, hs1, hx1⟩)
                  have HY := Lib.hid (And.intro (sw_trans HSW.out H1.out.blk hs1 hx1.1.1) hx1)
                  clear hs1 hx1 c0 c1
                  go_wp2_with fail
                  go_meet
                  case rel => exact ⟨d2, HY⟩
                | false =>
                  have hn : ¬ (a < s ∧ s < mid) := fun hh => by have := HT2.out.2 hh; cases this
                  have HM0 : Hid (Mrg lt' a mid d1 d1) := Lib.hid (Mrg.same (by
                    by_cases hsa : a < s
                    · have hsm : s = mid := by omega
                      rw [← hsm]
                      exact HX.out.1
                    · exact fun i j i1 i2 i3 => HX.out.2.1 i j (by omega) i2 i3))
                  clear hn
                  go_wp2_with fail
                  go_meet
                  case rel => exact ⟨d1, Lib.hid ⟨HSW.out, HM0.out⟩⟩
              case' rest =>
                obtain ⟨d2, HD2⟩ := hcut
                have HZ := Lib.hid (HD2.out.2.1.1.trans HS1.out)
                have out2 : ∀ x, mid ≤ x → d2[x]! = d1[x]! := fun x hx => HD2.out.2.1.2.1 x (.inr hx)
                have HA3 : Hid (Agr lt lt' mid e b d2) := Lib.hid (fun i j i1 i2 j1 j2 => by rw [out2 i i1, out2 j (by omega)]; exact HA2.out i j i1 i2 j1 j2)
                have HP1 : Hid (SortedIn lt' mid e d2) := Lib.hid (fun i j i1 i2 i3 => by rw [out2 i i1, out2 j (by omega)]; exact HX.out.2.2.1 i j i1 i2 i3)
                have HP2 : Hid (SortedIn lt' e b d2) := Lib.hid (fun i j i1 i2 i3 => by rw [out2 i (by omega), out2 j (by omega)]; exact HX.out.2.2.2.1 i j i1 i2 i3)
                have HEND : Hid (∀ d3, Mrg lt' mid b d2 d3 → Mrg lt' a b d d3) := Lib.hid (fun d3 h3 => mrg_end (d1 := d1) (d2 := d2) (mid := mid) (by omega) (by omega) (by rw [H.out.size]; exact hb) (permIn_mono _ _ s e a b (by omega) q3 (by rw [H.out.size]; exact hb) HD1.out.2.perm) HX.out.2.2.2.2 HD2.out.2 h3)
                clear out2
                clear HSW
                have HSW := Lib.hid HD2.out.1
                go_upto_region 44 with (fail)
                rename World => wl
                go_cut [171] from 23 (fun v wx => ∃ t : Bool, v = .bool t ∧ Hid (t = true ↔ (mid < e ∧ e < b)) ∧ Hid (SW enc (W.alloc (.cells #[.func (.func g) #[] lb, .func (.func sf) #[] sb] (ρ.t 42))) blk off d2 wx))
                case first =>
                  by_cases h1 : mid < e
                  · have k1 : decide ((mid : Int) < (e : Int)) = true := decide_eq_true (by omega)
                    by_cases h2 : e < b
                    · have k2 : decide ((e : Int) < (b : Int)) = true := decide_eq_true (by omega)
                      go_wp2_with fail
                      go_meet
                      case rel => exact ⟨_, rfl, Lib.hid (by simp [h1, h2]), HSW⟩
                    · have k2 : decide ((e : Int) < (b : Int)) = false := decide_eq_false (by omega)
                      go_wp2_with fail
                      go_meet
                      case rel => exact ⟨_, rfl, Lib.hid (by simp [h1, h2]), HSW⟩
                  · have k1 : decide ((mid : Int) < (e : Int)) = false := decide_eq_false (by omega)
                    go_wp2_with fail
                    go_meet
                    case rel => exact ⟨_, rfl, Lib.hid (by simp [h1]), HSW⟩
                case' rest =>
                  clear HSW
                  obtain ⟨t, rfl, HT3, HSW⟩ := hcut
                  rename World => wl
                  cases t with
                  | true =>
                    obtain ⟨h1, h2⟩ := HT3.out.1 rfl
                    have hx := IHH.out mid e b d2 wl (by omega) (H1.out.on HSW.out HZ.out) h1 h2 hb HP1.out HP2.out HA3.out
                    unfold SymPost at hx
                    obtain ⟨c0, c1⟩ := BX.out.sw HSW.out hneB (by simp)
                    go_wp2_with (go_at_fn (ρ.f 30); refine hx.mono ?_; rintro e1 w' ⟨rfl, d3, hs1, hx1⟩)
                    have HY := Lib.hid (And.intro (sw_trans HSW.out H1.out.blk hs1 hx1.1.1) hx1)
                    clear hs1 hx1 c0 c1
                    go_wp2_with fail
                    go_end0
                    exact ⟨rfl, d3, sw_of_alloc HY.out.1 H.out.blk, HEND.out d3 HY.out.2⟩
                  | false =>
                    have hn : ¬ (mid < e ∧ e < b) := fun hh => by have := HT3.out.2 hh; cases this
                    have HM0 : Hid (Mrg lt' mid b d2 d2) := Lib.hid (Mrg.same (by
                      by_cases hsa : mid < e
                      · have heb : e = b := by omega
                        rw [← heb]
                        exact HP1.out
                      · exact fun i j i1 i2 i3 => HP2.out i j (by omega) i2 i3))
                    clear hn
                    go_wp2_with fail
                    go_end0
                    exact ⟨rfl, d2, sw_of_alloc HSW.out H.out.blk, HEND.out d2 HM0.out⟩

theorem symMerge_is (L : LaysGt.n30 P ρ) (enc : α → Value) (lt lt' : α → α → Bool) (hO : SWO lt') (g : Nat) (lb : Array Value) (sf : Nat) (sb : Array Value) (blk off sz : Nat) : ∀ (N a m b : Nat) (d : Array α) (W : World), b - a ≤ N →
    Srt P enc lt g lb sf sb blk off sz d W → a < m → m < b → b ≤ sz → SortedIn lt' a m d → SortedIn lt' m b d → Agr lt lt' a m b d →
      Calls P (ρ.f 30) #[.agg #[.func (.func g) #[] lb, .func (.func sf) #[] sb], .int .i64 a, .int .i64 m, .int .i64 b] W (SymPost enc lt' blk off a b d W) := by
  intro N
  induction N with
  | zero => intro a m b d W hN h h1 h2; omega
  | succ N ih =>
    intro a m b d W hN h h1 h2 h3 hl hr hag
    by_cases c1 : m = a + 1
    · exact sym_first L enc lt lt' hO g lb sf sb blk off a m b sz d W c1 h (by omega) h3 (by rw [← c1]; exact hr) (fun j j1 j2 => hag a j (Nat.le_refl _) h1 (by omega) j2)
    · by_cases c2 : b = m + 1
      · exact sym_last L enc lt lt' hO g lb sf sb blk off a m b sz d W c2 h h1 c1 h3 hl (fun i i1 i2 => hag i m i1 i2 (Nat.le_refl _) (by omega))
      · exact sym_gen L enc lt lt' hO g lb sf sb blk off a m b sz d W h (by omega) (by omega) h3 hl hr hag (fun a' m' b' d' W' hlt => ih a' m' b' d' W' (by omega))
end Go.Proofs.Ythcmkjiemlfpcaa
