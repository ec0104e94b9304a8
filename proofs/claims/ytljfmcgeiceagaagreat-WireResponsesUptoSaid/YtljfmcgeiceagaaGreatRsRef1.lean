/- chronicleref16.formed (printed by gen_rsref1.py). -/
import Derived.Test.YtljfmcgeiceagaaGreatRsEnc2
import Derived.Test.YtljfmcgeiceagaaGreatRsRd
import Derived.Test.YtljfmcgeiceagaaGreatQ1
import Derived.Deep.CutRange
namespace Go.Proofs.YtljfmcgeiceagaaGreat
open Go Go.RowKit
set_option linter.unusedVariables false
set_option linter.unusedSimpArgs false

theorem usS_mark (op : Int) : ((usS op).toList == [63]) = true ↔ ¬ (1 ≤ op ∧ op < 16) := by
  constructor
  · intro h hop
    obtain ⟨m, rfl⟩ : ∃ m : Nat, op = (m : Int) := ⟨op.toNat, by omega⟩
    obtain ⟨_, hq⟩ := usL_bits ⟨m, by omega⟩ (show 1 ≤ m by omega)
    rw [beq_iff_eq] at h
    exact hq h
  · intro h
    have hu : usS op = ⟨#[63]⟩ := by unfold usS; rw [usL_none h]; rfl
    rw [hu]
    simp
/-- What formed tells. -/
def FormedPost (w : World) (x : Rp) (e : Ending) (w' : World) : Prop := ∃ t : Bool, e = .returned (.bool t) ∧ (t = true ↔ MayP x) ∧ Below w.heap.size w w'
theorem formedPost_mk {w w' : World} {x : Rp} (t : Bool) (h : t = true ↔ MayP x) (hb : Below w.heap.size w w') : FormedPost w x (.returned (.bool t)) w' := ⟨t, rfl, h, hb⟩
set_option maxHeartbeats 8000000 in
set_option maxRecDepth 100000 in
theorem formed_is (x : Rp) (AN AL : Option Addr) (nn nr cn cl : Nat) (w : World) (hrn : Rd w AN (strs x.names)) (hnn : x.names.length = nn) (hrl : Rd w AL (rcCells x.recs)) (hnr : x.recs.length = nr) (hnl : nr ≤ 2000000000000) (hnl2 : nn ≤ 1000000000000000) :
    Calls Tryz.prog 21 #[x.V (.slice AL nr cl) (.slice AN nn cn)] w (FormedPost w x) := by
  have HRN := Lib.hid hrn
  have HRL := Lib.hid hrl
  have HNN := Lib.hid hnn
  have HNR := Lib.hid hnr
  have PU := Lib.hid (fun W => uses16_is x.op W)
  have HIFF := Lib.hid (show (hdp x) ↔ ((1 ≤ x.op ∧ x.op < 16) ∨ x.op = 64) ∧ 0 ≤ x.code ∧ x.code ≤ 11 ∧ nn ≤ 16 by unfold hdp; rw [hnn])
  have HMAY := Lib.hid (show MayP x ↔ hdp x ∧ (∀ s ∈ x.names, s.size ≤ 24) ∧ (∀ r ∈ x.recs, chk r = 0) from ⟨fun h => ⟨h.hd, h.names, h.recs⟩, fun h => ⟨h.1, h.2.1, h.2.2⟩⟩)
  have hum := usS_mark x.op
  obtain ⟨U, hU⟩ : ∃ U, U = usS x.op := ⟨_, rfl⟩
  rw [← hU] at PU hum
  obtain ⟨ob, hob⟩ : ∃ ob, (U.toList == [63]) = ob := ⟨_, rfl⟩
  rw [hob] at hum
  have HOB : Hid (ob = true ↔ ¬ (1 ≤ x.op ∧ x.op < 16)) := Lib.hid hum
  obtain ⟨bd, hbd⟩ : ∃ bd, bd = !decide (hdp x) := ⟨_, rfl⟩
  have HG : Hid (bd = false ↔ hdp x) := Lib.hid (by rw [hbd]; simp)
  have FNO := Lib.hid (fun W (h : ¬ MayP x) (hb : Below w.heap.size w W) => formedPost_mk (w := w) (w' := W) (x := x) false (by simp [h]) hb)
  have FYES := Lib.hid (fun W (h : MayP x) (hb : Below w.heap.size w W) => formedPost_mk (w := w) (w' := W) (x := x) true (by simp [h]) hb)
  have hB0 := (Below.refl w.heap.size w).alloc (Nat.le_refl _) (.cells #[.int .u32 (x.id : Int), .int .i64 x.op, .int .i64 x.code, .int .i64 x.off, .int .i64 x.num, .bool x.more, .slice AL nr cl, .slice AN nn cn] 26)
  have hBX := heap_alloc_new w (.cells #[.int .u32 (x.id : Int), .int .i64 x.op, .int .i64 x.code, .int .i64 x.off, .int .i64 x.num, .bool x.more, .slice AL nr cl, .slice AN nn cn] 26)
  have B0 := Lib.hid hB0
  have HBX := Lib.hid hBX
  generalize hPP : FormedPost w x = PP at FNO FYES ⊢
  obtain ⟨id, op, code, off, num, more, names, recs⟩ := x
  unfold Rp.V
  simp only at HRN HRL HNN HNR PU HIFF HMAY HOB HG FNO FYES B0 HBX ⊢
  clear hrn hnn hrl hnr hbd hB0 hBX hum hU hPP
  go_enter Tryz.func21, Tryz.ntmps21
  go_upto_region 1 with (fail)
  go_cut [29] from 5 (fun b wx => b = .bool bd ∧ ∃ W1, W1 = wx ∧ W1 = w.alloc (.cells #[.int .u32 (id : Int), .int .i64 op, .int .i64 code, .int .i64 off, .int .i64 num, .bool more, .slice AL nr cl, .slice AN nn cn] 26))
  case first =>
    go_wp2_with fail
    refine (PU.out _).mono ?_
    rintro e w1 ⟨rfl, rfl⟩
    cases ob with
    | false =>
      have hop : 1 ≤ op ∧ op < 16 := Classical.byContradiction fun h => by have := HOB.out.2 h; cases this
      by_cases c0 : code < 0
      · have d0 : decide (code < 0) = true := decide_eq_true c0
        go_wp2_with fail
        go_meet
        case rel => exact ⟨congrArg Value.bool (by first | exact (HG.out.2 (HIFF.out.2 (by omega))).symm | exact (HG.out.2 (HIFF.out.2 ⟨Or.inr (by rfl), by omega, by omega, by omega⟩)).symm | exact (tru_of (fun h => by have := HIFF.out.1 (HG.out.1 h); omega)).symm), _, rfl, rfl⟩
      · have d0 : decide (code < 0) = false := decide_eq_false c0
        by_cases c1 : 11 < code
        · have d1 : decide (11 < code) = true := decide_eq_true c1
          go_wp2_with fail
          go_meet
          case rel => exact ⟨congrArg Value.bool (by first | exact (HG.out.2 (HIFF.out.2 (by omega))).symm | exact (HG.out.2 (HIFF.out.2 ⟨Or.inr (by rfl), by omega, by omega, by omega⟩)).symm | exact (tru_of (fun h => by have := HIFF.out.1 (HG.out.1 h); omega)).symm), _, rfl, rfl⟩
        · have d1 : decide (11 < code) = false := decide_eq_false c1
          by_cases c2 : (16 : Int) < (nn : Int)
          · have d2 : decide ((16 : Int) < (nn : Int)) = true := decide_eq_true c2
            have d3 : decide (16 < nn) = true := decide_eq_true (by omega)
            go_wp2_with fail
            go_meet
            case rel => exact ⟨congrArg Value.bool (by first | exact (HG.out.2 (HIFF.out.2 (by omega))).symm | exact (HG.out.2 (HIFF.out.2 ⟨Or.inr (by rfl), by omega, by omega, by omega⟩)).symm | exact (tru_of (fun h => by have := HIFF.out.1 (HG.out.1 h); omega)).symm), _, rfl, rfl⟩
          · have d2 : decide ((16 : Int) < (nn : Int)) = false := decide_eq_false c2
            have d3 : decide (16 < nn) = false := decide_eq_false (by omega)
            go_wp2_with fail
            go_meet
            case rel => exact ⟨congrArg Value.bool (by first | exact (HG.out.2 (HIFF.out.2 (by omega))).symm | exact (HG.out.2 (HIFF.out.2 ⟨Or.inr (by first | trivial | rfl), by omega, by omega, by omega⟩)).symm), _, rfl, rfl⟩
    | true =>
      have hop := HOB.out.1 rfl
      by_cases h64 : op = 64
      · subst h64
        by_cases c0 : code < 0
        · have d0 : decide (code < 0) = true := decide_eq_true c0
          go_wp2_with fail
          go_meet
          case rel => exact ⟨congrArg Value.bool (by first | exact (HG.out.2 (HIFF.out.2 (by omega))).symm | exact (HG.out.2 (HIFF.out.2 ⟨Or.inr (by rfl), by omega, by omega, by omega⟩)).symm | exact (tru_of (fun h => by have := HIFF.out.1 (HG.out.1 h); omega)).symm), _, rfl, rfl⟩
        · have d0 : decide (code < 0) = false := decide_eq_false c0
          by_cases c1 : 11 < code
          · have d1 : decide (11 < code) = true := decide_eq_true c1
            go_wp2_with fail
            go_meet
            case rel => exact ⟨congrArg Value.bool (by first | exact (HG.out.2 (HIFF.out.2 (by omega))).symm | exact (HG.out.2 (HIFF.out.2 ⟨Or.inr (by rfl), by omega, by omega, by omega⟩)).symm | exact (tru_of (fun h => by have := HIFF.out.1 (HG.out.1 h); omega)).symm), _, rfl, rfl⟩
          · have d1 : decide (11 < code) = false := decide_eq_false c1
            by_cases c2 : (16 : Int) < (nn : Int)
            · have d2 : decide ((16 : Int) < (nn : Int)) = true := decide_eq_true c2
              have d3 : decide (16 < nn) = true := decide_eq_true (by omega)
              go_wp2_with fail
              go_meet
              case rel => exact ⟨congrArg Value.bool (by first | exact (HG.out.2 (HIFF.out.2 (by omega))).symm | exact (HG.out.2 (HIFF.out.2 ⟨Or.inr (by rfl), by omega, by omega, by omega⟩)).symm | exact (tru_of (fun h => by have := HIFF.out.1 (HG.out.1 h); omega)).symm), _, rfl, rfl⟩
            · have d2 : decide ((16 : Int) < (nn : Int)) = false := decide_eq_false c2
              have d3 : decide (16 < nn) = false := decide_eq_false (by omega)
              go_wp2_with fail
              go_meet
              case rel => exact ⟨congrArg Value.bool (by first | exact (HG.out.2 (HIFF.out.2 (by omega))).symm | exact (HG.out.2 (HIFF.out.2 ⟨Or.inr (by first | trivial | rfl), by omega, by omega, by omega⟩)).symm), _, rfl, rfl⟩
      · have n64 : (op == 64) = false := beq_false_of_ne h64
        have n65 : (op != 64) = true := by simp [h64]
        have HND := Lib.hid (And.intro hop h64)
        go_wp2_with fail
        go_meet
        case rel => exact ⟨congrArg Value.bool (by first | exact (tru_of (fun h => by have h1 := HIFF.out.1 (HG.out.1 h); have h2 := HND.out; omega)).symm), _, rfl, rfl⟩
  case' rest => obtain ⟨rfl, W1, rfl, hW1⟩ := hcut; have B1 := B0; have HX1 := HBX; clear B0 HBX; rw [← hW1] at B1 HX1; clear hW1 hob
  have hgs : w.heap.size < W1.heap.size := lt_of_block HX1.out
  have HX : Hid (B8 W1 w.heap.size (.int .u32 (id : Int)) (.int .i64 op) (.int .i64 code) (.int .i64 off) (.int .i64 num) (.bool more) (.slice AL nr cl) (.slice AN nn cn)) := HX1
  obtain ⟨y0, y1, y2, y3, y4, y5, y6, y7⟩ := HX.out.facts
  cases bd with
  | true =>
    have hq := Lib.hid (FNO.out W1 (fun h => by have := HG.out.2 (HMAY.out.1 h).1; cases this) B1.out)
    go_wp2_with fail
    exact hq.out
  | false =>
    have hhd := Lib.hid (HG.out.1 rfl)
    go_wp2_with fail
    go_loop [3] (fun i => ∃ j : Nat, j ≤ nn ∧ i = .int .i64 j ∧ (∀ s ∈ names.take j, s.size ≤ 24)) (fun i => nn - (intOf i).toNat)
    case atStart => exact ⟨0, Nat.zero_le _, rfl, by simp⟩
    case round =>
      obtain ⟨j, hj, rfl, hN⟩ := hrel
      have HN := Lib.hid hN
      clear hN
      by_cases hlt : j < nn
      · have i1 : (0 : Int) ≤ (j : Int) := by omega
        have i2 : (j : Int) < (nn : Int) := by omega
        obtain ⟨s, hs⟩ : ∃ s, names[j]? = some s := ⟨_, List.getElem?_eq_getElem (by rw [HNN.out]; exact hlt)⟩
        obtain ⟨g2, off2, rfl, hg2, hc2⟩ := (HRN.out.below B1.out).val_ (strs_get hs)
        have HS := Lib.hid hs
        clear hs
        by_cases h24 : (24 : Int) < (s.size : Int)
        · have d24 : decide ((24 : Int) < (s.size : Int)) = true := decide_eq_true h24
          have d25 : decide (24 < s.size) = true := decide_eq_true (by omega)
          have hq := Lib.hid (FNO.out W1 (fun h => by have := (HMAY.out.1 h).2.1 s (List.mem_of_getElem? HS.out); omega) B1.out)
          go_wp2_with fail
          exact hq.out
        · have d24 : decide ((24 : Int) < (s.size : Int)) = false := decide_eq_false h24
          have d25 : decide (24 < s.size) = false := decide_eq_false (by omega)
          go_wp2_with fail
          go_round
          case rel => exact ⟨j + 1, by omega, by go_num, take_allP (P := fun s => s.size ≤ 24) HS.out HN.out (by omega)⟩
          case measure => simp [intOf]; omega
      · have hj2 : j = nn := by omega
        have i2 : ¬ (j : Int) < (nn : Int) := by omega
        have HNA : Hid (∀ s ∈ names, s.size ≤ 24) := Lib.hid (by have := HN.out; rwa [List.take_of_length_le (by have := HNN.out; omega)] at this)
        clear HN hlt hj hj2
        go_wp2_with fail
        clear y0 y1 y2 y3 y4 y5 y6 y7
        go_loopw [4] (fun i wr => ∃ j : Nat, j ≤ nr ∧ i = .int .i64 j ∧ (∀ r ∈ recs.take j, chk r = 0) ∧ Below W1.heap.size W1 wr) (fun i _ => nr - (intOf i).toNat)
        case atStart => exact ⟨0, Nat.zero_le _, rfl, by simp, Below.refl _ _⟩
        case round =>
          obtain ⟨k, hk, rfl, hC, hbw⟩ := hrel
          have HC := Lib.hid hC
          have HBW := Lib.hid hbw
          clear hC hbw
          obtain ⟨y0, y1, y2, y3, y4, y5, y6, y7⟩ := (HX.out.below HBW.out hgs).facts
          by_cases hlt2 : k < nr
          · have i3 : (0 : Int) ≤ (k : Int) := by omega
            have i4 : (k : Int) < (nr : Int) := by omega
            obtain ⟨r, hr⟩ : ∃ r, recs[k]? = some r := ⟨_, List.getElem?_eq_getElem (by rw [HNR.out]; exact hlt2)⟩
            obtain ⟨g3, off3, rfl, hg3, z0, z1, z2, z3, z4, z5, z6⟩ := ((HRL.out.below B1.out).below HBW.out).rec hr
            have HR := Lib.hid hr
            have PC := Lib.hid (fun W => rcheck_is r W)
            have HFR := Lib.hid (fun (h : MayP ⟨id, op, code, off, num, more, names, recs⟩) => (HMAY.out.1 h).2.2 r (List.mem_of_getElem? hr))
            have HTK := Lib.hid (fun (h : chk r = 0) => take_allP (P := fun r => chk r = 0) hr HC.out h)
            obtain ⟨cc, hcc⟩ : ∃ cc, cc = chk r := ⟨_, rfl⟩
            rw [← hcc] at PC HFR HTK
            obtain ⟨xk, xo, xt, xp, xs, xkey, xval⟩ := r
            unfold Rc.v at PC
            simp only at PC z0 z1 z2 z3 z4 z5 z6
            clear hr hcc
            go_wp2_with fail
            refine (PC.out _).mono ?_
            rintro e w5 ⟨rfl, hb5⟩
            have HB5 := Lib.hid (HBW.out.trans (hb5.mono HBW.out.size))
            clear hb5
            by_cases h0 : cc = 0
            · have d0 : (((cc : Nat) : Int) == 0) = true := by rw [h0]; rfl
              have HTN := Lib.hid (HTK.out h0)
              clear h0 HTK HFR
              go_wp2_with fail
              go_roundw
              case rel => exact ⟨k + 1, by omega, by go_num, HTN.out, HB5.out⟩
              case measure => simp [intOf]; omega
            · have d0 : (((cc : Nat) : Int) == 0) = false := by rw [beq_eq_false_iff_ne]; omega
              have hq := Lib.hid (FNO.out w5 (fun h => h0 (HFR.out h)) (B1.out.trans (HB5.out.mono B1.out.size)))
              clear h0 HTK HFR
              go_wp2_with fail
              exact hq.out
          · have i4 : ¬ (k : Int) < (nr : Int) := by omega
            have HCA : Hid (∀ r ∈ recs, chk r = 0) := Lib.hid (by have := HC.out; rwa [List.take_of_length_le (by have := HNR.out; omega)] at this)
            have hq := Lib.hid (FYES.out wr (HMAY.out.2 ⟨hhd.out, HNA.out, HCA.out⟩) (B1.out.trans (HBW.out.mono B1.out.size)))
            clear hlt2 hk HC HCA
            go_wp2_with fail
            exact hq.out
end Go.Proofs.YtljfmcgeiceagaaGreat
