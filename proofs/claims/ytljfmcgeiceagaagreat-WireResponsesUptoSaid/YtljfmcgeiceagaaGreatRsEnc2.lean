/- wire.written, EncodeResponse, CheckResponse at any response. -/
import Derived.Test.YtljfmcgeiceagaaGreatRsEnc
namespace Go.Proofs.YtljfmcgeiceagaaGreat
open Go Go.RowKit
set_option linter.unusedVariables false
set_option linter.unusedSimpArgs false

instance (x : Rp) : Decidable (hdp x) := by unfold hdp; infer_instance
theorem tru_of {b : Bool} (h : ¬ b = false) : b = true := by cases b <;> simp_all
theorem cells8 {W : World} {g : Nat} {T : TypeId} {c0 c1 c2 c3 c4 c5 c6 c7 : Value} (h : W.heap[g]? = some (.cells #[c0, c1, c2, c3, c4, c5, c6, c7] T (0, 0))) : W.cell? ⟨g, 0, none⟩ = some c0 ∧ W.cell? ⟨g, 1, none⟩ = some c1 ∧ W.cell? ⟨g, 2, none⟩ = some c2 ∧ W.cell? ⟨g, 3, none⟩ = some c3 ∧ W.cell? ⟨g, 4, none⟩ = some c4 ∧ W.cell? ⟨g, 5, none⟩ = some c5 ∧ W.cell? ⟨g, 6, none⟩ = some c6 ∧ W.cell? ⟨g, 7, none⟩ = some c7 := by
  refine ⟨?_, ?_, ?_, ?_, ?_, ?_, ?_, ?_⟩ <;> simp [World.cell?, h]
theorem take_allP {α : Type} {P : α → Prop} {l : List α} {k : Nat} {x : α} (h : l[k]? = some x) (h0 : ∀ s ∈ l.take k, P s) (hx : P x) : ∀ s ∈ l.take (k + 1), P s := by
  rw [List.take_add_one, h]
  intro s hs
  rcases List.mem_append.1 hs with hs | hs
  · exact h0 s hs
  · simp at hs
    subst hs
    exact hx
set_option maxHeartbeats 8000000 in
set_option maxRecDepth 100000 in
theorem writtenp_is (x : Rp) (AN AL : Option Addr) (nn nr cn cl : Nat) (w : World) (hrn : Rd w AN (strs x.names)) (hnn : x.names.length = nn) (hrl : Rd w AL (rcCells x.recs)) (hnr : x.recs.length = nr) (hk : x.Nm) (hnl : nr ≤ 2000000000000) (hnl2 : nn ≤ 1000000000000000) (htot : (x.recs.flatMap encs).length ≤ 140737488350000) :
    Calls Tryz.prog 20 #[x.V (.slice AL nr cl) (.slice AN nn cn)] w (FramePost w (renp x)) := by
  have HRN := Lib.hid hrn
  have HRL := Lib.hid hrl
  have HNN := Lib.hid hnn
  have HNR := Lib.hid hnr
  have PI := Lib.hid (fun W => isOp_is x.op W)
  have PF := Lib.hid (fun (hm : MayP x) gr gl vs A c w (hp : PG w gr gl x (.slice AL nr cl) (.slice AN nn cn) (.slice A nr c)) (h1 : Rd w AN (strs x.names)) (h2 : Rd w A vs) (h3 : SlR w vs (x.recs.map encs)) => framedp_is gr gl x (.slice AL nr cl) AN A nn nr cn c vs w hp h1 hnn h2 h3 hnr hm hk hnl htot)
  have HBAD := Lib.hid (fun (h : ¬ MayP x) => renp_no h)
  have HOK := Lib.hid (fun (h : MayP x) => renp_yes h)
  have HIFF := Lib.hid (show (hdp x) ↔ ((1 ≤ x.op ∧ x.op < 16) ∨ x.op = 64) ∧ 0 ≤ x.code ∧ x.code ≤ 11 ∧ nn ≤ 16 by unfold hdp; rw [hnn])
  have HMAY := Lib.hid (show MayP x ↔ hdp x ∧ (∀ s ∈ x.names, s.size ≤ 24) ∧ (∀ r ∈ x.recs, chk r = 0) from ⟨fun h => ⟨h.hd, h.names, h.recs⟩, fun h => ⟨h.1, h.2.1, h.2.2⟩⟩)
  unfold FramePost at PF ⊢
  obtain ⟨Q, hQ⟩ : ∃ Q, Q = renp x := ⟨_, rfl⟩
  rw [← hQ] at HBAD HOK ⊢
  obtain ⟨ob, hob⟩ : ∃ ob, ob = decide (1 ≤ x.op ∧ x.op < 16) := ⟨_, rfl⟩
  rw [← hob] at PI
  have HOB : Hid (ob = true ↔ 1 ≤ x.op ∧ x.op < 16) := Lib.hid (by rw [hob]; exact decide_eq_true_iff)
  obtain ⟨bd, hbd⟩ : ∃ bd, bd = !decide (hdp x) := ⟨_, rfl⟩
  have HG : Hid (bd = false ↔ hdp x) := Lib.hid (by rw [hbd]; simp)
  have hB0 := (Below.refl w.heap.size w).alloc (Nat.le_refl _) (.cells #[.int .u32 (x.id : Int), .int .i64 x.op, .int .i64 x.code, .int .i64 x.off, .int .i64 x.num, .bool x.more, .slice AL nr cl, .slice AN nn cn] 26)
  have hBX := heap_alloc_new w (.cells #[.int .u32 (x.id : Int), .int .i64 x.op, .int .i64 x.code, .int .i64 x.off, .int .i64 x.num, .bool x.more, .slice AL nr cl, .slice AN nn cn] 26)
  have B0 := Lib.hid hB0
  have HBX := Lib.hid hBX
  obtain ⟨id, op, code, off, num, more, names, recs⟩ := x
  unfold Rp.V
  simp only at HRN HRL HNN HNR PI PF HIFF HMAY HOB HG HOK HBAD B0 HBX ⊢
  clear hrn hnn hrl hnr hk htot hQ hbd hob hB0 hBX
  go_enter Tryz.func20, Tryz.ntmps20
  go_upto_region 1 with (fail)
  go_cut [35] from 11 (fun b wx => b = .bool bd ∧ ∃ W1, W1 = wx ∧ W1 = w.alloc (.cells #[.int .u32 (id : Int), .int .i64 op, .int .i64 code, .int .i64 off, .int .i64 num, .bool more, .slice AL nr cl, .slice AN nn cn] 26))
  case first =>
    go_wp2_with fail
    refine (PI.out _).mono ?_
    rintro e w1 ⟨rfl, rfl⟩
    cases ob with
    | true =>
      have hop := HOB.out.1 rfl
      by_cases c0 : code < 0
      · have d0 : decide (code < 0) = true := decide_eq_true c0
        go_wp2_with fail
        go_meet
        case rel => exact ⟨congrArg Value.bool (by first | exact (HG.out.2 (HIFF.out.2 (by omega))).symm | exact (HG.out.2 (HIFF.out.2 ⟨Or.inr (by rfl), by omega, by omega, by omega⟩)).symm | exact (tru_of (fun h => by have := HIFF.out.1 (HG.out.1 h); omega)).symm), _, rfl, rfl⟩
      · have d0 : decide (code < 0) = false := decide_eq_false c0
        by_cases c1 : 11 < code
        · have d1 : decide (11 < code) = true := decide_eq_true c1
          go_wp2_with fail
          go_meet
          case rel => exact ⟨congrArg Value.bool (by first | exact (HG.out.2 (HIFF.out.2 (by omega))).symm | exact (HG.out.2 (HIFF.out.2 ⟨Or.inr (by rfl), by omega, by omega, by omega⟩)).symm | exact (tru_of (fun h => by have := HIFF.out.1 (HG.out.1 h); omega)).symm), _, rfl, rfl⟩
        · have d1 : decide (11 < code) = false := decide_eq_false c1
          by_cases c2 : (16 : Int) < (nn : Int)
          · have d2 : decide ((16 : Int) < (nn : Int)) = true := decide_eq_true c2
            go_wp2_with fail
            go_meet
            case rel => exact ⟨congrArg Value.bool (by first | exact (HG.out.2 (HIFF.out.2 (by omega))).symm | exact (HG.out.2 (HIFF.out.2 ⟨Or.inr (by rfl), by omega, by omega, by omega⟩)).symm | exact (tru_of (fun h => by have := HIFF.out.1 (HG.out.1 h); omega)).symm), _, rfl, rfl⟩
          · have d2 : decide ((16 : Int) < (nn : Int)) = false := decide_eq_false c2
            go_wp2_with fail
            go_meet
            case rel => exact ⟨congrArg Value.bool (by first | exact (HG.out.2 (HIFF.out.2 (by omega))).symm | exact (HG.out.2 (HIFF.out.2 ⟨Or.inr (by rfl), by omega, by omega, by omega⟩)).symm | exact (tru_of (fun h => by have := HIFF.out.1 (HG.out.1 h); omega)).symm), _, rfl, rfl⟩
    | false =>
      have hop : ¬ (1 ≤ op ∧ op < 16) := fun h => by have := HOB.out.2 h; cases this
      by_cases h64 : op = 64
      · subst h64
        by_cases c0 : code < 0
        · have d0 : decide (code < 0) = true := decide_eq_true c0
          go_wp2_with fail
          go_meet
          case rel => exact ⟨congrArg Value.bool (by first | exact (HG.out.2 (HIFF.out.2 (by omega))).symm | exact (HG.out.2 (HIFF.out.2 ⟨Or.inr (by rfl), by omega, by omega, by omega⟩)).symm | exact (tru_of (fun h => by have := HIFF.out.1 (HG.out.1 h); omega)).symm), _, rfl, rfl⟩
        · have d0 : decide (code < 0) = false := decide_eq_false c0
          by_cases c1 : 11 < code
          · have d1 : decide (11 < code) = true := decide_eq_true c1
            go_wp2_with fail
            go_meet
            case rel => exact ⟨congrArg Value.bool (by first | exact (HG.out.2 (HIFF.out.2 (by omega))).symm | exact (HG.out.2 (HIFF.out.2 ⟨Or.inr (by rfl), by omega, by omega, by omega⟩)).symm | exact (tru_of (fun h => by have := HIFF.out.1 (HG.out.1 h); omega)).symm), _, rfl, rfl⟩
          · have d1 : decide (11 < code) = false := decide_eq_false c1
            by_cases c2 : (16 : Int) < (nn : Int)
            · have d2 : decide ((16 : Int) < (nn : Int)) = true := decide_eq_true c2
              go_wp2_with fail
              go_meet
              case rel => exact ⟨congrArg Value.bool (by first | exact (HG.out.2 (HIFF.out.2 (by omega))).symm | exact (HG.out.2 (HIFF.out.2 ⟨Or.inr (by rfl), by omega, by omega, by omega⟩)).symm | exact (tru_of (fun h => by have := HIFF.out.1 (HG.out.1 h); omega)).symm), _, rfl, rfl⟩
            · have d2 : decide ((16 : Int) < (nn : Int)) = false := decide_eq_false c2
              go_wp2_with fail
              go_meet
              case rel => exact ⟨congrArg Value.bool (HG.out.2 (HIFF.out.2 ⟨Or.inr (by first | trivial | rfl), by omega, by omega, by omega⟩)).symm, _, rfl, rfl⟩
      · have n64 : (op == 64) = false := beq_false_of_ne h64
        have HND := Lib.hid (And.intro hop h64)
        go_wp2_with fail
        go_meet
        case rel => exact ⟨congrArg Value.bool (by first | exact (HG.out.2 (HIFF.out.2 (by omega))).symm | exact (HG.out.2 (HIFF.out.2 ⟨Or.inr (by rfl), by omega, by omega, by omega⟩)).symm | exact (tru_of (fun h => by have h1 := HIFF.out.1 (HG.out.1 h); have h2 := HND.out; omega)).symm), _, rfl, rfl⟩
  case' rest => obtain ⟨rfl, W1, rfl, hW1⟩ := hcut; have B1 := B0; have HX1 := HBX; clear B0 HBX; rw [← hW1] at B1 HX1; clear hW1
  have hgs : w.heap.size < W1.heap.size := lt_of_block HX1.out
  obtain ⟨y0, y1, y2, y3, y4, y5, y6, y7⟩ := cells8 HX1.out
  cases bd with
  | true =>
    have hq : Hid (Q = ([], 162)) := Lib.hid <| HBAD.out (fun h => by have := HG.out.2 (HMAY.out.1 h).1; cases this)
    go_wp2_with fail
    go_ret2
    exact ⟨none, 0, by rw [hq.out]; rfl, by rw [hq.out]; exact World.ownsRow_nil _ _ _ _, B1.out⟩
  | false =>
    have hhd := Lib.hid (HG.out.1 rfl)
    go_wp2_with fail
    go_loop [39] (fun i => ∃ j : Nat, j ≤ nn ∧ i = .int .i64 j ∧ (∀ s ∈ names.take j, s.size ≤ 24)) (fun i => nn - (intOf i).toNat)
    case atStart => exact ⟨0, Nat.zero_le _, rfl, by simp⟩
    case round =>
      obtain ⟨j, hj, rfl, hN⟩ := hrel
      have HN := Lib.hid hN
      clear hN
      by_cases hlt : j < nn
      · have i1 : (0 : Int) ≤ (j : Int) := by omega
        have i2 : (j : Int) < (nn : Int) := by omega
        obtain ⟨s, hs⟩ : ∃ s, names[j]? = some s := ⟨_, List.getElem?_eq_getElem (by rw [HNN.out]; exact hlt)⟩
        obtain ⟨g2, off2, rfl, hg2, hc2⟩ := (HRN.out.below B1.out).val_ (strs_get hs)
        have HS := Lib.hid hs
        clear hs
        by_cases h24 : (24 : Int) < (s.size : Int)
        · have d24 : decide ((24 : Int) < (s.size : Int)) = true := decide_eq_true h24
          have hq : Hid (Q = ([], 162)) := Lib.hid <| HBAD.out (fun h => by have := (HMAY.out.1 h).2.1 s (List.mem_of_getElem? HS.out); omega)
          go_wp2_with fail
          go_ret2
          exact ⟨none, 0, by rw [hq.out]; rfl, by rw [hq.out]; exact World.ownsRow_nil _ _ _ _, B1.out⟩
        · have d24 : decide ((24 : Int) < (s.size : Int)) = false := decide_eq_false h24
          go_wp2_with fail
          go_round
          case rel => exact ⟨j + 1, by omega, by go_num, take_allP (P := fun s => s.size ≤ 24) HS.out HN.out (by omega)⟩
          case measure => simp [intOf]; omega
      · have hj2 : j = nn := by omega
        have i2 : ¬ (j : Int) < (nn : Int) := by omega
        have HNA : Hid (∀ s ∈ names, s.size ≤ 24) := Lib.hid (by have := HN.out; rwa [List.take_of_length_le (by have := HNN.out; omega)] at this)
        clear HN hlt hj hj2
        go_wp2_with fail
        have HLS : Hid (LB (W1.heap.size + 1) (W1.alloc (.cells #[.slice none 0 0] 68)) W1.heap.size (.slice none 0 0) [] ((recs.take 0).map encs)) := Lib.hid ⟨heap_alloc_new W1 _, World.ownsRow_nil _ _ _ _, rfl, fun j bs hj => by simp at hj, Nat.lt_succ_self _⟩
        have BL : Hid (Below W1.heap.size W1 (W1.alloc (.cells #[.slice none 0 0] 68))) := Lib.hid ((Below.refl _ _).alloc (Nat.le_refl _) _)
        go_loopw [50] (fun i wr => ∃ j : Nat, j ≤ nr ∧ i = .int .i64 j ∧ (∀ r ∈ recs.take j, chk r = 0) ∧ (∃ v vs, LB (W1.heap.size + 1) wr W1.heap.size v vs ((recs.take j).map encs)) ∧ Below W1.heap.size W1 wr) (fun i _ => nr - (intOf i).toNat)
        case atStart => exact ⟨0, Nat.zero_le _, rfl, by simp, ⟨_, _, HLS.out⟩, BL.out⟩
        case round =>
          obtain ⟨k, hk, rfl, hC, ⟨v, vs, hlb⟩, hbw⟩ := hrel
          have HC := Lib.hid hC
          have HLB := Lib.hid hlb
          have HBW := Lib.hid hbw
          clear hC hlb hbw HLS BL
          by_cases hlt2 : k < nr
          · have i3 : (0 : Int) ≤ (k : Int) := by omega
            have i4 : (k : Int) < (nr : Int) := by omega
            obtain ⟨r, hr⟩ : ∃ r, recs[k]? = some r := ⟨_, List.getElem?_eq_getElem (by rw [HNR.out]; exact hlt2)⟩
            obtain ⟨g3, off3, rfl, hg3, z0, z1, z2, z3, z4, z5, z6⟩ := ((HRL.out.below B1.out).below (HBW.out.mono (Nat.le_refl _))).rec hr
            have HR := Lib.hid hr
            clear hr
            obtain ⟨l0, l1⟩ := HLB.out.facts
            go_wp2_with fail
            obtain ⟨ys, z, hq⟩ : ∃ ys z, renc r = (ys, z) := ⟨_, _, rfl⟩
            have PE := recencode_is r (wr.alloc (.cells #[.int .i64 r.k, .int .i64 r.o, .int .i64 r.t, .int .i64 r.p, .int .i64 r.s, .string r.key, .string r.val] 43))
            obtain ⟨m, hm⟩ : ∃ m, ys.length = m := ⟨_, rfl⟩
            rw [hq] at PE
            unfold Ans8 at PE
            simp only [hm] at PE
            refine PE.mono ?_
            rintro e w2 ⟨A2, c2, rfl, ho2, hb2⟩
            have HO2 := Lib.hid (own_lower ho2 (show W1.heap.size + 1 ≤ _ by have := HLB.out.lt; simp; omega))
            have B2 : Hid (Below wr.heap.size wr w2) := Lib.hid (((Below.refl _ _).alloc (Nat.le_refl _) _).trans (hb2.mono (by simp)))
            have HLB2 := Lib.hid (HLB.out.below B2.out)
            have HBW2 := Lib.hid (HBW.out.trans (B2.out.mono HBW.out.size))
            have hvl : Hid (vs.length = k) := Lib.hid (by have := HLB.out.len; rw [List.length_map, List.length_take, HNR.out] at this; omega)
            have HM := Lib.hid hm
            have HQ := Lib.hid hq
            obtain ⟨q0, q1⟩ := HLB2.out.facts
            clear PE hm hq ho2 hb2 HLB HBW B2 z0 z1 z2 z3 z4 z5 z6 hg3 l0 l1
            by_cases h0 : chk r = 0
            · have hz : z = 0 := by have := HQ.out; rw [renc_ok h0] at this; exact ((Prod.mk.injEq _ _ _ _).mp this).2.symm
              subst hz
              have HY : Hid (encs r = ys) := Lib.hid (by unfold encs; rw [HQ.out])
              have H0 := Lib.hid h0
              clear h0 HQ
              go_wp2_with (at_builtin; (refine pushB w2 rfl (.tmp 61) (.tmp 63) rfl (W1.heap.size + 1) v vs.length vs rfl HLB2.out.own (.slice A2 m c2) rfl w2.heap.size rfl rfl (by have := hvl.out; omega) (HLB2.out.lt) ?_); intro v' w3 ho hg hn; obtain ⟨A9, c9, rfl, -⟩ := own_shape ho; have HO := Lib.hid ho; have HGR := Lib.hid hg; have HC3 := Lib.hid ((hg.block W1.heap.size HLB2.out.lt (fun e => by have := own_ge HLB2.out.own e.symm; omega)).trans HLB2.out.cell); have hc3 := cell_of_one HC3.out; have hf3 := free_of_one HC3.out; clear ho hg hn)
              go_roundw
              case rel => exact ⟨k + 1, by omega, by go_num, take_allP (P := fun r => chk r = 0) HR.out HC.out H0.out, ⟨_, _, by rw [List.take_add_one, HR.out, List.map_append]; exact LB.push HLB2.out (by rw [HY.out]; exact HM.out) (by rw [HY.out]; exact HO2.out) rfl HO.out HGR.out⟩, LB.bel HLB2.out HBW2.out (Nat.le_refl _) HGR.out⟩
              case measure => simp [intOf]; omega
            · have hz : (z == 0) = false := by have := HQ.out; rw [renc_bad h0] at this; rw [← ((Prod.mk.injEq _ _ _ _).mp this).2]; exact beq_false_of_ne (by omega)
              have hq : Hid (Q = ([], 162)) := Lib.hid <| HBAD.out (fun h => h0 ((HMAY.out.1 h).2.2 r (List.mem_of_getElem? HR.out)))
              go_wp2_with fail
              go_ret2
              exact ⟨none, 0, by rw [hq.out]; rfl, by rw [hq.out]; exact World.ownsRow_nil _ _ _ _, B1.out.trans (HBW2.out.mono B1.out.size)⟩
          · have hk2 : k = nr := by omega
            have i4 : ¬ (k : Int) < (nr : Int) := by omega
            have HCA : Hid (∀ r ∈ recs, chk r = 0) := Lib.hid (by have := HC.out; rwa [List.take_of_length_le (by have := HNR.out; omega)] at this)
            have HLA : Hid (LB (W1.heap.size + 1) wr W1.heap.size v vs (recs.map encs)) := Lib.hid (by have := HLB.out; rwa [List.take_of_length_le (by have := HNR.out; omega)] at this)
            have hvl : vs.length = nr := by rw [HLA.out.len, List.length_map, HNR.out]
            obtain ⟨A, c, hsh, -, -, -⟩ := own_shape HLA.out.own
            rw [hvl] at hsh
            subst hsh
            have HQ := Lib.hid (HOK.out (HMAY.out.2 ⟨hhd.out, HNA.out, HCA.out⟩))
            have PFF := PF.out (HMAY.out.2 ⟨hhd.out, HNA.out, HCA.out⟩) w.heap.size W1.heap.size vs A c wr (by
              have hb := HBW.out
              have hl := HLA.out.lt
              exact ⟨by omega, hl, (hb.cell (p := ⟨w.heap.size, 0, none⟩) hgs).trans y0, (hb.cell (p := ⟨w.heap.size, 1, none⟩) hgs).trans y1, (hb.cell (p := ⟨w.heap.size, 2, none⟩) hgs).trans y2, (hb.cell (p := ⟨w.heap.size, 3, none⟩) hgs).trans y3, (hb.cell (p := ⟨w.heap.size, 4, none⟩) hgs).trans y4, (hb.cell (p := ⟨w.heap.size, 5, none⟩) hgs).trans y5, (hb.cell (p := ⟨w.heap.size, 6, none⟩) hgs).trans y6, (hb.cell (p := ⟨w.heap.size, 7, none⟩) hgs).trans y7, HLA.out.facts.1⟩) ((HRN.out.below B1.out).below HBW.out) (rd_own (n := nr) (by have := HLA.out.own; rwa [hvl] at this)) HLA.out.slr
            rw [← HQ.out] at PFF
            have PFH := Lib.hid PFF
            clear PFF HC HLB HLA hlt2 hk hk2 hvl
            go_wp2_with fail
            refine PFH.out.mono ?_
            rintro e w4 ⟨A4, c4, rfl, ho4, hb4⟩
            have HO4 := Lib.hid (own_lower ho4 (Nat.le_trans B1.out.size HBW.out.size))
            have B4 := Lib.hid ((B1.out.trans (HBW.out.mono B1.out.size)).trans (hb4.mono (Nat.le_trans B1.out.size HBW.out.size)))
            clear ho4 hb4
            go_wp2_with fail
            go_ret2
            exact ⟨A4, c4, rfl, HO4.out, B4.out⟩
set_option maxRecDepth 100000 in
theorem encodep_is (x : Rp) (AN AL : Option Addr) (nn nr cn cl : Nat) (w : World) (hrn : Rd w AN (strs x.names)) (hnn : x.names.length = nn) (hrl : Rd w AL (rcCells x.recs)) (hnr : x.recs.length = nr) (hk : x.Nm) (hnl : nr ≤ 2000000000000) (hnl2 : nn ≤ 1000000000000000) (htot : (x.recs.flatMap encs).length ≤ 140737488350000) :
    Calls Tryz.prog 5 #[x.V (.slice AL nr cl) (.slice AN nn cn)] w (FramePost w (renp x)) := by
  have PW := Lib.hid (fun W (hb : Below w.heap.size w W) => writtenp_is x AN AL nn nr cn cl W (hrn.below hb) hnn (hrl.below hb) hnr hk hnl hnl2 htot)
  obtain ⟨Q, hQ⟩ : ∃ Q, Q = renp x := ⟨_, rfl⟩
  rw [← hQ] at PW ⊢
  unfold FramePost at PW ⊢
  unfold Rp.V at PW ⊢
  clear hrn hnn hrl hnr hk hnl hnl2 htot hQ
  go_enter Tryz.func5, Tryz.ntmps5
  go_wp2_with fail
  refine (PW.out _ ((Below.refl w.heap.size w).alloc (Nat.le_refl _) _)).mono ?_
  rintro e w2 ⟨A2, c2, rfl, ho2, hb2⟩
  have HO2 := Lib.hid (own_lower ho2 (show w.heap.size ≤ _ by simp))
  have HB2 := Lib.hid (((Below.refl w.heap.size w).alloc (Nat.le_refl _) _).trans (hb2.mono (by simp)))
  clear ho2 hb2
  go_wp2_with fail
  go_ret2
  exact ⟨A2, c2, rfl, HO2.out, HB2.out⟩
set_option maxRecDepth 100000 in
theorem checkp_is (x : Rp) (AN AL : Option Addr) (nn nr cn cl : Nat) (w : World) (hrn : Rd w AN (strs x.names)) (hnn : x.names.length = nn) (hrl : Rd w AL (rcCells x.recs)) (hnr : x.recs.length = nr) (hk : x.Nm) (hnl : nr ≤ 2000000000000) (hnl2 : nn ≤ 1000000000000000) (htot : (x.recs.flatMap encs).length ≤ 140737488350000) :
    Calls Tryz.prog 7 #[x.V (.slice AL nr cl) (.slice AN nn cn)] w fun e w' => e = .returned (.int .i64 (renp x).2) ∧ Below w.heap.size w w' := by
  have PW := Lib.hid (fun W (hb : Below w.heap.size w W) => writtenp_is x AN AL nn nr cn cl W (hrn.below hb) hnn (hrl.below hb) hnr hk hnl hnl2 htot)
  obtain ⟨Q, hQ⟩ : ∃ Q, Q = renp x := ⟨_, rfl⟩
  rw [← hQ] at PW ⊢
  unfold FramePost at PW
  unfold Rp.V at PW ⊢
  clear hrn hnn hrl hnr hk hnl hnl2 htot hQ
  go_enter Tryz.func7, Tryz.ntmps7
  go_wp2_with fail
  refine (PW.out _ ((Below.refl w.heap.size w).alloc (Nat.le_refl _) _)).mono ?_
  rintro e w2 ⟨A2, c2, rfl, ho2, hb2⟩
  have HB2 := Lib.hid (((Below.refl w.heap.size w).alloc (Nat.le_refl _) _).trans (hb2.mono (by simp)))
  clear ho2 hb2
  go_wp2_with fail
  go_ret
  exact ⟨rfl, HB2.out⟩
end Go.Proofs.YtljfmcgeiceagaaGreat
