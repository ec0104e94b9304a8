/- The document's CheckRequest (printed by gen_rqref.py 2). -/
import Derived.Test.YtljfmcgeiceagaaDoorRqRef1
import Derived.Deep.CutRange
namespace Go.Proofs.YtljfmcgeiceagaaDoor
open Go Go.RowKit
set_option linter.unusedVariables false
set_option linter.unusedSimpArgs false

theorem toList_t {s : ByteArray} (h : s.toList.isEmpty = true) : (s.toList != []) = false := by cases hs : s.toList <;> simp_all
theorem toList_f {s : ByteArray} (h : s.toList.isEmpty = false) : (s.toList != []) = true := by cases hs : s.toList <;> simp_all
theorem gdT_and {b m most : Nat} {s : ByteArray} : gdT b m most s = (decide (s.size ≤ most) && (hasb b m || decide (s.size = 0))) := rfl
theorem ne_of_pos {n : Int} (h : 0 ≤ n) : (n = 0) ↔ ¬ 0 < n := by omega
set_option maxHeartbeats 8000000 in
set_option maxRecDepth 100000 in
theorem rcheckq_op (id op : Nat) (t k v : ByteArray) (o n p s : Int) (w : World) (h1 : 1 ≤ op) (h16 : op < 16) : Calls Tryd.prog 16 #[.agg #[.int .u32 (id : Int), .int .i64 (op : Int), .string t, .string k, .string v, .int .i64 o, .int .i64 n, .int .i64 p, .int .i64 s]] w fun e w' => e = .returned (.int .i64 (chkq ⟨id, op, t, k, v, o, n, p, s⟩)) ∧ Below w.heap.size w w' := by
  have PU := Lib.hid (fun W => uses16_is (op : Int) W)
  obtain ⟨⟨b1, b2, b4, b8', b16, b32, b64⟩, hq⟩ := usL_bits ⟨op, h16⟩ h1
  simp only at b1 b2 b4 b8' b16 b32 b64 hq
  rw [← sb_usS] at b1 b2 b4 b8' b16 b32 b64
  have hsz : (usS (op : Int)).size ≤ 1000 := by rw [usS_size]; have := usL_len (op : Int); omega
  have PT := Lib.hid (fun W => has16_is (usS (op : Int)) 84 W hsz)
  have PK := Lib.hid (fun W => has16_is (usS (op : Int)) 75 W hsz)
  have PV := Lib.hid (fun W => has16_is (usS (op : Int)) 86 W hsz)
  have PO := Lib.hid (fun W => has16_is (usS (op : Int)) 79 W hsz)
  have PNn := Lib.hid (fun W => has16_is (usS (op : Int)) 78 W hsz)
  have PP := Lib.hid (fun W => has16_is (usS (op : Int)) 80 W hsz)
  have PS := Lib.hid (fun W => has16_is (usS (op : Int)) 83 W hsz)
  rw [b1] at PT
  rw [b2] at PK
  rw [b4] at PV
  rw [b8'] at PO
  rw [b16] at PNn
  rw [b32] at PP
  rw [b64] at PS
  have eq0 : ((usS (op : Int)).toList == [63]) = false := beq_false_of_ne hq
  have HOK : Hid (gdT (useB op) 1 24 t = true → gdT (useB op) 2 64 k = true → gdT (useB op) 4 1024 v = true → gdN (useB op) 8 o = true → gdN (useB op) 16 n = true → gdN (useB op) 32 p = true → gdN (useB op) 64 s = true → chkq ⟨id, op, t, k, v, o, n, p, s⟩ = 0) := Lib.hid (fun g1 g2 g3 g4 g5 g6 g7 => chkq_yes ⟨by simp only; omega, g1, g2, g3, g4, g5, g6, g7⟩)
  have HB1 : Hid (gdT (useB op) 1 24 t = false → chkq ⟨id, op, t, k, v, o, n, p, s⟩ = 161) := Lib.hid (fun g => chkq_no (fun q => by have := q.t; simp only [Int.toNat_natCast] at this; rw [g] at this; cases this))
  have HB2 : Hid (gdT (useB op) 2 64 k = false → chkq ⟨id, op, t, k, v, o, n, p, s⟩ = 161) := Lib.hid (fun g => chkq_no (fun q => by have := q.k; simp only [Int.toNat_natCast] at this; rw [g] at this; cases this))
  have HB4 : Hid (gdT (useB op) 4 1024 v = false → chkq ⟨id, op, t, k, v, o, n, p, s⟩ = 161) := Lib.hid (fun g => chkq_no (fun q => by have := q.v; simp only [Int.toNat_natCast] at this; rw [g] at this; cases this))
  have HB8 : Hid (gdN (useB op) 8 o = false → chkq ⟨id, op, t, k, v, o, n, p, s⟩ = 161) := Lib.hid (fun g => chkq_no (fun q => by have := q.o; simp only [Int.toNat_natCast] at this; rw [g] at this; cases this))
  have HB16 : Hid (gdN (useB op) 16 n = false → chkq ⟨id, op, t, k, v, o, n, p, s⟩ = 161) := Lib.hid (fun g => chkq_no (fun q => by have := q.n; simp only [Int.toNat_natCast] at this; rw [g] at this; cases this))
  have HB32 : Hid (gdN (useB op) 32 p = false → chkq ⟨id, op, t, k, v, o, n, p, s⟩ = 161) := Lib.hid (fun g => chkq_no (fun q => by have := q.p; simp only [Int.toNat_natCast] at this; rw [g] at this; cases this))
  have HB64 : Hid (gdN (useB op) 64 s = false → chkq ⟨id, op, t, k, v, o, n, p, s⟩ = 161) := Lib.hid (fun g => chkq_no (fun q => by have := q.s; simp only [Int.toNat_natCast] at this; rw [g] at this; cases this))
  obtain ⟨b, hbb⟩ : ∃ b, b = useB op := ⟨_, rfl⟩
  obtain ⟨Q, hQ⟩ : ∃ Q, Q = chkq ⟨id, op, t, k, v, o, n, p, s⟩ := ⟨_, rfl⟩
  obtain ⟨U, hU⟩ : ∃ U, U = usS (op : Int) := ⟨_, rfl⟩
  rw [← hbb] at PT PK PV PO PNn PP PS HOK HB1 HB2 HB4 HB8 HB16 HB32 HB64
  rw [← hQ] at HOK HB1 HB2 HB4 HB8 HB16 HB32 HB64 ⊢
  rw [← hU] at PU PT PK PV PO PNn PP PS eq0
  clear hbb hQ hU h1 h16 b1 b2 b4 b8' b16 b32 b64 hq hsz
  have e84 : ((84 : Nat) : Int) = 84 := rfl
  have e75 : ((75 : Nat) : Int) = 75 := rfl
  have e86 : ((86 : Nat) : Int) = 86 := rfl
  have e79 : ((79 : Nat) : Int) = 79 := rfl
  have e78 : ((78 : Nat) : Int) = 78 := rfl
  have e80 : ((80 : Nat) : Int) = 80 := rfl
  have e83 : ((83 : Nat) : Int) = 83 := rfl
  rw [e84] at PT
  rw [e75] at PK
  rw [e86] at PV
  rw [e79] at PO
  rw [e78] at PNn
  rw [e80] at PP
  rw [e83] at PS
  clear e84 e75 e86 e79 e78 e80 e83
  have HBE := Lib.hid ((Below.refl w.heap.size w).alloc (Nat.le_refl _) (.cells #[.int .u32 (id : Int), .int .i64 (op : Int), .string t, .string k, .string v, .int .i64 o, .int .i64 n, .int .i64 p, .int .i64 s] 24))
  go_enter Tryd.func16, Tryd.ntmps16
  go_wp2_with fail
  refine (PU.out _).mono ?_
  rintro e w1 ⟨rfl, rfl⟩
  by_cases hA1 : 24 < t.size
  · have d1 : decide ((24 : Int) < (t.size : Int)) = true := decide_eq_true (by omega)
    have HX0 := Lib.hid (HB1.out (gdT_bad (.inl hA1)))
    clear hA1
    go_wp2
    go_ret
    exact ⟨by rw [HX0.out] <;> rfl, HBE.out⟩
  have d1 : decide ((24 : Int) < (t.size : Int)) = false := decide_eq_false (by omega)
  by_cases hA2 : 64 < k.size
  · have d2 : decide ((64 : Int) < (k.size : Int)) = true := decide_eq_true (by omega)
    have HX0 := Lib.hid (HB2.out (gdT_bad (.inl hA2)))
    clear hA1 hA2
    go_wp2
    go_ret
    exact ⟨by rw [HX0.out] <;> rfl, HBE.out⟩
  have d2 : decide ((64 : Int) < (k.size : Int)) = false := decide_eq_false (by omega)
  by_cases hA4 : 1024 < v.size
  · have d4 : decide ((1024 : Int) < (v.size : Int)) = true := decide_eq_true (by omega)
    have HX0 := Lib.hid (HB4.out (gdT_bad (.inl hA4)))
    clear hA1 hA2 hA4
    go_wp2
    go_ret
    exact ⟨by rw [HX0.out] <;> rfl, HBE.out⟩
  have d4 : decide ((1024 : Int) < (v.size : Int)) = false := decide_eq_false (by omega)
  by_cases hA8 : o < 0
  · have d8 : decide (o < 0) = true := decide_eq_true hA8
    have HX0 := Lib.hid (HB8.out (gdN_bad (.inl hA8)))
    clear hA1 hA2 hA4 hA8
    go_wp2
    go_ret
    exact ⟨by rw [HX0.out] <;> rfl, HBE.out⟩
  have d8 : decide (o < 0) = false := decide_eq_false hA8
  by_cases hA16 : n < 0
  · have d16 : decide (n < 0) = true := decide_eq_true hA16
    have HX0 := Lib.hid (HB16.out (gdN_bad (.inl hA16)))
    clear hA1 hA2 hA4 hA8 hA16
    go_wp2
    go_ret
    exact ⟨by rw [HX0.out] <;> rfl, HBE.out⟩
  have d16 : decide (n < 0) = false := decide_eq_false hA16
  by_cases hA32 : p < 0
  · have d32 : decide (p < 0) = true := decide_eq_true hA32
    have HX0 := Lib.hid (HB32.out (gdN_bad (.inl hA32)))
    clear hA1 hA2 hA4 hA8 hA16 hA32
    go_wp2
    go_ret
    exact ⟨by rw [HX0.out] <;> rfl, HBE.out⟩
  have d32 : decide (p < 0) = false := decide_eq_false hA32
  by_cases hA64 : s < 0
  · have d64 : decide (s < 0) = true := decide_eq_true hA64
    have HX0 := Lib.hid (HB64.out (gdN_bad (.inl hA64)))
    clear hA1 hA2 hA4 hA8 hA16 hA32 hA64
    go_wp2
    go_ret
    exact ⟨by rw [HX0.out] <;> rfl, HBE.out⟩
  have d64 : decide (s < 0) = false := decide_eq_false hA64
  have LA1 := Lib.hid (Nat.le_of_not_lt hA1)
  have LA2 := Lib.hid (Nat.le_of_not_lt hA2)
  have LA4 := Lib.hid (Nat.le_of_not_lt hA4)
  have LA8 := Lib.hid (Int.le_of_not_gt hA8)
  have LA16 := Lib.hid (Int.le_of_not_gt hA16)
  have LA32 := Lib.hid (Int.le_of_not_gt hA32)
  have LA64 := Lib.hid (Int.le_of_not_gt hA64)
  clear hA1 hA2 hA4 hA8 hA16 hA32 hA64
  go_upto_region 4 with (fail)
  clear d1 d2 d4 d8 d16 d32 d64 eq0
  go_cut [74] from 4 (fun s74 wx => ∃ bb : Bool, s74 = .bool bb ∧ wx = w.alloc (.cells #[.int .u32 (id : Int), .int .i64 (op : Int), .string t, .string k, .string v, .int .i64 o, .int .i64 n, .int .i64 p, .int .i64 s] 24) ∧ (bb = false → gdT b 1 24 t = true ∧ gdT b 2 64 k = true ∧ gdT b 4 1024 v = true) ∧ (bb = true → Q = 161))
  case first =>
    by_cases hz1 : t.size = 0
    · have e1 : t.toList.isEmpty = true := by rw [isEmpty_size, decide_eq_true hz1]
      have e1' := toList_t e1
      have HG1 : Hid (gdT b 1 24 t = true) := Lib.hid (gdT_ok LA1.out (.inr hz1))
      clear hz1
      by_cases hz2 : k.size = 0
      · have e2 : k.toList.isEmpty = true := by rw [isEmpty_size, decide_eq_true hz2]
        have e2' := toList_t e2
        have HG2 : Hid (gdT b 2 64 k = true) := Lib.hid (gdT_ok LA2.out (.inr hz2))
        clear hz2
        by_cases hz4 : v.size = 0
        · have e4 : v.toList.isEmpty = true := by rw [isEmpty_size, decide_eq_true hz4]
          have e4' := toList_t e4
          have HG4 : Hid (gdT b 4 1024 v = true) := Lib.hid (gdT_ok LA4.out (.inr hz4))
          clear hz4
          go_wp2_with fail
          go_meet
          case rel => exact ⟨false, rfl, rfl, fun _ => ⟨HG1.out, HG2.out, HG4.out⟩, fun h => by cases h⟩
        · have e4 : v.toList.isEmpty = false := by rw [isEmpty_size, decide_eq_false hz4]
          have e4' := toList_f e4
          cases hh : hasb b 4 with
          | true =>
            rw [hh] at PV
            have HG4 : Hid (gdT b 4 1024 v = true) := Lib.hid (gdT_ok LA4.out (.inl hh))
            clear hz4 hh
            go_wp2_with fail
            refine (PV.out _).mono ?_
            rintro e w' ⟨rfl, rfl⟩
            go_wp2_with fail
            go_meet
            case rel => exact ⟨false, rfl, rfl, fun _ => ⟨HG1.out, HG2.out, HG4.out⟩, fun h => by cases h⟩
          | false =>
            rw [hh] at PV
            have HX0 := Lib.hid (HB4.out (gdT_bad (.inr ⟨hh, hz4⟩)))
            clear hz4 hh
            go_wp2_with fail
            refine (PV.out _).mono ?_
            rintro e w' ⟨rfl, rfl⟩
            go_wp2_with fail
            go_meet
            case rel => exact ⟨true, rfl, rfl, fun h => (by cases h), fun _ => HX0.out⟩
      · have e2 : k.toList.isEmpty = false := by rw [isEmpty_size, decide_eq_false hz2]
        have e2' := toList_f e2
        cases hh : hasb b 2 with
        | true =>
          rw [hh] at PK
          have HG2 : Hid (gdT b 2 64 k = true) := Lib.hid (gdT_ok LA2.out (.inl hh))
          clear hz2 hh
          by_cases hz4 : v.size = 0
          · have e4 : v.toList.isEmpty = true := by rw [isEmpty_size, decide_eq_true hz4]
            have e4' := toList_t e4
            have HG4 : Hid (gdT b 4 1024 v = true) := Lib.hid (gdT_ok LA4.out (.inr hz4))
            clear hz4
            go_wp2_with fail
            refine (PK.out _).mono ?_
            rintro e w' ⟨rfl, rfl⟩
            go_wp2_with fail
            go_meet
            case rel => exact ⟨false, rfl, rfl, fun _ => ⟨HG1.out, HG2.out, HG4.out⟩, fun h => by cases h⟩
          · have e4 : v.toList.isEmpty = false := by rw [isEmpty_size, decide_eq_false hz4]
            have e4' := toList_f e4
            cases hh : hasb b 4 with
            | true =>
              rw [hh] at PV
              have HG4 : Hid (gdT b 4 1024 v = true) := Lib.hid (gdT_ok LA4.out (.inl hh))
              clear hz4 hh
              go_wp2_with fail
              refine (PK.out _).mono ?_
              rintro e w' ⟨rfl, rfl⟩
              go_wp2_with fail
              refine (PV.out _).mono ?_
              rintro e w' ⟨rfl, rfl⟩
              go_wp2_with fail
              go_meet
              case rel => exact ⟨false, rfl, rfl, fun _ => ⟨HG1.out, HG2.out, HG4.out⟩, fun h => by cases h⟩
            | false =>
              rw [hh] at PV
              have HX0 := Lib.hid (HB4.out (gdT_bad (.inr ⟨hh, hz4⟩)))
              clear hz4 hh
              go_wp2_with fail
              refine (PK.out _).mono ?_
              rintro e w' ⟨rfl, rfl⟩
              go_wp2_with fail
              refine (PV.out _).mono ?_
              rintro e w' ⟨rfl, rfl⟩
              go_wp2_with fail
              go_meet
              case rel => exact ⟨true, rfl, rfl, fun h => (by cases h), fun _ => HX0.out⟩
        | false =>
          rw [hh] at PK
          have HX0 := Lib.hid (HB2.out (gdT_bad (.inr ⟨hh, hz2⟩)))
          clear hz2 hh
          go_wp2_with fail
          refine (PK.out _).mono ?_
          rintro e w' ⟨rfl, rfl⟩
          go_wp2_with fail
          go_meet
          case rel => exact ⟨true, rfl, rfl, fun h => (by cases h), fun _ => HX0.out⟩
    · have e1 : t.toList.isEmpty = false := by rw [isEmpty_size, decide_eq_false hz1]
      have e1' := toList_f e1
      cases hh : hasb b 1 with
      | true =>
        rw [hh] at PT
        have HG1 : Hid (gdT b 1 24 t = true) := Lib.hid (gdT_ok LA1.out (.inl hh))
        clear hz1 hh
        by_cases hz2 : k.size = 0
        · have e2 : k.toList.isEmpty = true := by rw [isEmpty_size, decide_eq_true hz2]
          have e2' := toList_t e2
          have HG2 : Hid (gdT b 2 64 k = true) := Lib.hid (gdT_ok LA2.out (.inr hz2))
          clear hz2
          by_cases hz4 : v.size = 0
          · have e4 : v.toList.isEmpty = true := by rw [isEmpty_size, decide_eq_true hz4]
            have e4' := toList_t e4
            have HG4 : Hid (gdT b 4 1024 v = true) := Lib.hid (gdT_ok LA4.out (.inr hz4))
            clear hz4
            go_wp2_with fail
            refine (PT.out _).mono ?_
            rintro e w' ⟨rfl, rfl⟩
            go_wp2_with fail
            go_meet
            case rel => exact ⟨false, rfl, rfl, fun _ => ⟨HG1.out, HG2.out, HG4.out⟩, fun h => by cases h⟩
          · have e4 : v.toList.isEmpty = false := by rw [isEmpty_size, decide_eq_false hz4]
            have e4' := toList_f e4
            cases hh : hasb b 4 with
            | true =>
              rw [hh] at PV
              have HG4 : Hid (gdT b 4 1024 v = true) := Lib.hid (gdT_ok LA4.out (.inl hh))
              clear hz4 hh
              go_wp2_with fail
              refine (PT.out _).mono ?_
              rintro e w' ⟨rfl, rfl⟩
              go_wp2_with fail
              refine (PV.out _).mono ?_
              rintro e w' ⟨rfl, rfl⟩
              go_wp2_with fail
              go_meet
              case rel => exact ⟨false, rfl, rfl, fun _ => ⟨HG1.out, HG2.out, HG4.out⟩, fun h => by cases h⟩
            | false =>
              rw [hh] at PV
              have HX0 := Lib.hid (HB4.out (gdT_bad (.inr ⟨hh, hz4⟩)))
              clear hz4 hh
              go_wp2_with fail
              refine (PT.out _).mono ?_
              rintro e w' ⟨rfl, rfl⟩
              go_wp2_with fail
              refine (PV.out _).mono ?_
              rintro e w' ⟨rfl, rfl⟩
              go_wp2_with fail
              go_meet
              case rel => exact ⟨true, rfl, rfl, fun h => (by cases h), fun _ => HX0.out⟩
        · have e2 : k.toList.isEmpty = false := by rw [isEmpty_size, decide_eq_false hz2]
          have e2' := toList_f e2
          cases hh : hasb b 2 with
          | true =>
            rw [hh] at PK
            have HG2 : Hid (gdT b 2 64 k = true) := Lib.hid (gdT_ok LA2.out (.inl hh))
            clear hz2 hh
            by_cases hz4 : v.size = 0
            · have e4 : v.toList.isEmpty = true := by rw [isEmpty_size, decide_eq_true hz4]
              have e4' := toList_t e4
              have HG4 : Hid (gdT b 4 1024 v = true) := Lib.hid (gdT_ok LA4.out (.inr hz4))
              clear hz4
              go_wp2_with fail
              refine (PT.out _).mono ?_
              rintro e w' ⟨rfl, rfl⟩
              go_wp2_with fail
              refine (PK.out _).mono ?_
              rintro e w' ⟨rfl, rfl⟩
              go_wp2_with fail
              go_meet
              case rel => exact ⟨false, rfl, rfl, fun _ => ⟨HG1.out, HG2.out, HG4.out⟩, fun h => by cases h⟩
            · have e4 : v.toList.isEmpty = false := by rw [isEmpty_size, decide_eq_false hz4]
              have e4' := toList_f e4
              cases hh : hasb b 4 with
              | true =>
                rw [hh] at PV
                have HG4 : Hid (gdT b 4 1024 v = true) := Lib.hid (gdT_ok LA4.out (.inl hh))
                clear hz4 hh
                go_wp2_with fail
                refine (PT.out _).mono ?_
                rintro e w' ⟨rfl, rfl⟩
                go_wp2_with fail
                refine (PK.out _).mono ?_
                rintro e w' ⟨rfl, rfl⟩
                go_wp2_with fail
                refine (PV.out _).mono ?_
                rintro e w' ⟨rfl, rfl⟩
                go_wp2_with fail
                go_meet
                case rel => exact ⟨false, rfl, rfl, fun _ => ⟨HG1.out, HG2.out, HG4.out⟩, fun h => by cases h⟩
              | false =>
                rw [hh] at PV
                have HX0 := Lib.hid (HB4.out (gdT_bad (.inr ⟨hh, hz4⟩)))
                clear hz4 hh
                go_wp2_with fail
                refine (PT.out _).mono ?_
                rintro e w' ⟨rfl, rfl⟩
                go_wp2_with fail
                refine (PK.out _).mono ?_
                rintro e w' ⟨rfl, rfl⟩
                go_wp2_with fail
                refine (PV.out _).mono ?_
                rintro e w' ⟨rfl, rfl⟩
                go_wp2_with fail
                go_meet
                case rel => exact ⟨true, rfl, rfl, fun h => (by cases h), fun _ => HX0.out⟩
          | false =>
            rw [hh] at PK
            have HX0 := Lib.hid (HB2.out (gdT_bad (.inr ⟨hh, hz2⟩)))
            clear hz2 hh
            go_wp2_with fail
            refine (PT.out _).mono ?_
            rintro e w' ⟨rfl, rfl⟩
            go_wp2_with fail
            refine (PK.out _).mono ?_
            rintro e w' ⟨rfl, rfl⟩
            go_wp2_with fail
            go_meet
            case rel => exact ⟨true, rfl, rfl, fun h => (by cases h), fun _ => HX0.out⟩
      | false =>
        rw [hh] at PT
        have HX0 := Lib.hid (HB1.out (gdT_bad (.inr ⟨hh, hz1⟩)))
        clear hz1 hh
        go_wp2_with fail
        refine (PT.out _).mono ?_
        rintro e w' ⟨rfl, rfl⟩
        go_wp2_with fail
        go_meet
        case rel => exact ⟨true, rfl, rfl, fun h => (by cases h), fun _ => HX0.out⟩
  case' rest => obtain ⟨bb, rfl, hwc, GG, GB⟩ := hcut; subst hwc; clear PT PK PV
  cases bb with
  | true =>
    have HX0 := Lib.hid (GB rfl)
    clear GB GG
    go_wp2_with fail
    go_ret
    exact ⟨by rw [HX0.out] <;> rfl, HBE.out⟩
  | false =>
    obtain ⟨G1, G2, G4⟩ := GG rfl
    have HG1 := Lib.hid G1
    have HG2 := Lib.hid G2
    have HG4 := Lib.hid G4
    clear G1 G2 G4 GG GB
    by_cases hz8 : o = 0
    · have e8 : decide (0 < o) = false := decide_eq_false (by omega)
      have HG8 : Hid (gdN b 8 o = true) := Lib.hid (gdN_ok LA8.out (.inr hz8))
      clear hz8
      by_cases hz16 : n = 0
      · have e16 : decide (0 < n) = false := decide_eq_false (by omega)
        have HG16 : Hid (gdN b 16 n = true) := Lib.hid (gdN_ok LA16.out (.inr hz16))
        clear hz16
        by_cases hz32 : p = 0
        · have e32 : decide (0 < p) = false := decide_eq_false (by omega)
          have HG32 : Hid (gdN b 32 p = true) := Lib.hid (gdN_ok LA32.out (.inr hz32))
          clear hz32
          by_cases hz64 : s = 0
          · have e64 : decide (0 < s) = false := decide_eq_false (by omega)
            have HG64 : Hid (gdN b 64 s = true) := Lib.hid (gdN_ok LA64.out (.inr hz64))
            clear hz64
            go_wp2_with fail
            have HX0 := Lib.hid (HOK.out HG1.out HG2.out HG4.out HG8.out HG16.out HG32.out HG64.out)
            go_ret
            exact ⟨by rw [HX0.out] <;> rfl, HBE.out⟩
          · have e64 : decide (0 < s) = true := decide_eq_true (by have := LA64.out; omega)
            cases hh : hasb b 64 with
            | true =>
              rw [hh] at PS
              have HG64 : Hid (gdN b 64 s = true) := Lib.hid (gdN_ok LA64.out (.inl hh))
              clear hz64 hh
              go_wp2_with fail
              refine (PS.out _).mono ?_
              rintro e w' ⟨rfl, rfl⟩
              go_wp2_with fail
              have HX0 := Lib.hid (HOK.out HG1.out HG2.out HG4.out HG8.out HG16.out HG32.out HG64.out)
              go_ret
              exact ⟨by rw [HX0.out] <;> rfl, HBE.out⟩
            | false =>
              rw [hh] at PS
              have HX0 := Lib.hid (HB64.out (gdN_bad (.inr ⟨hh, hz64⟩)))
              clear hz64 hh
              go_wp2_with fail
              refine (PS.out _).mono ?_
              rintro e w' ⟨rfl, rfl⟩
              go_wp2_with fail
              go_ret
              exact ⟨by rw [HX0.out] <;> rfl, HBE.out⟩
        · have e32 : decide (0 < p) = true := decide_eq_true (by have := LA32.out; omega)
          cases hh : hasb b 32 with
          | true =>
            rw [hh] at PP
            have HG32 : Hid (gdN b 32 p = true) := Lib.hid (gdN_ok LA32.out (.inl hh))
            clear hz32 hh
            by_cases hz64 : s = 0
            · have e64 : decide (0 < s) = false := decide_eq_false (by omega)
              have HG64 : Hid (gdN b 64 s = true) := Lib.hid (gdN_ok LA64.out (.inr hz64))
              clear hz64
              go_wp2_with fail
              refine (PP.out _).mono ?_
              rintro e w' ⟨rfl, rfl⟩
              go_wp2_with fail
              have HX0 := Lib.hid (HOK.out HG1.out HG2.out HG4.out HG8.out HG16.out HG32.out HG64.out)
              go_ret
              exact ⟨by rw [HX0.out] <;> rfl, HBE.out⟩
            · have e64 : decide (0 < s) = true := decide_eq_true (by have := LA64.out; omega)
              cases hh : hasb b 64 with
              | true =>
                rw [hh] at PS
                have HG64 : Hid (gdN b 64 s = true) := Lib.hid (gdN_ok LA64.out (.inl hh))
                clear hz64 hh
                go_wp2_with fail
                refine (PP.out _).mono ?_
                rintro e w' ⟨rfl, rfl⟩
                go_wp2_with fail
                refine (PS.out _).mono ?_
                rintro e w' ⟨rfl, rfl⟩
                go_wp2_with fail
                have HX0 := Lib.hid (HOK.out HG1.out HG2.out HG4.out HG8.out HG16.out HG32.out HG64.out)
                go_ret
                exact ⟨by rw [HX0.out] <;> rfl, HBE.out⟩
              | false =>
                rw [hh] at PS
                have HX0 := Lib.hid (HB64.out (gdN_bad (.inr ⟨hh, hz64⟩)))
                clear hz64 hh
                go_wp2_with fail
                refine (PP.out _).mono ?_
                rintro e w' ⟨rfl, rfl⟩
                go_wp2_with fail
                refine (PS.out _).mono ?_
                rintro e w' ⟨rfl, rfl⟩
                go_wp2_with fail
                go_ret
                exact ⟨by rw [HX0.out] <;> rfl, HBE.out⟩
          | false =>
            rw [hh] at PP
            have HX0 := Lib.hid (HB32.out (gdN_bad (.inr ⟨hh, hz32⟩)))
            clear hz32 hh
            go_wp2_with fail
            refine (PP.out _).mono ?_
            rintro e w' ⟨rfl, rfl⟩
            go_wp2_with fail
            go_ret
            exact ⟨by rw [HX0.out] <;> rfl, HBE.out⟩
      · have e16 : decide (0 < n) = true := decide_eq_true (by have := LA16.out; omega)
        cases hh : hasb b 16 with
        | true =>
          rw [hh] at PNn
          have HG16 : Hid (gdN b 16 n = true) := Lib.hid (gdN_ok LA16.out (.inl hh))
          clear hz16 hh
          by_cases hz32 : p = 0
          · have e32 : decide (0 < p) = false := decide_eq_false (by omega)
            have HG32 : Hid (gdN b 32 p = true) := Lib.hid (gdN_ok LA32.out (.inr hz32))
            clear hz32
            by_cases hz64 : s = 0
            · have e64 : decide (0 < s) = false := decide_eq_false (by omega)
              have HG64 : Hid (gdN b 64 s = true) := Lib.hid (gdN_ok LA64.out (.inr hz64))
              clear hz64
              go_wp2_with fail
              refine (PNn.out _).mono ?_
              rintro e w' ⟨rfl, rfl⟩
              go_wp2_with fail
              have HX0 := Lib.hid (HOK.out HG1.out HG2.out HG4.out HG8.out HG16.out HG32.out HG64.out)
              go_ret
              exact ⟨by rw [HX0.out] <;> rfl, HBE.out⟩
            · have e64 : decide (0 < s) = true := decide_eq_true (by have := LA64.out; omega)
              cases hh : hasb b 64 with
              | true =>
                rw [hh] at PS
                have HG64 : Hid (gdN b 64 s = true) := Lib.hid (gdN_ok LA64.out (.inl hh))
                clear hz64 hh
                go_wp2_with fail
                refine (PNn.out _).mono ?_
                rintro e w' ⟨rfl, rfl⟩
                go_wp2_with fail
                refine (PS.out _).mono ?_
                rintro e w' ⟨rfl, rfl⟩
                go_wp2_with fail
                have HX0 := Lib.hid (HOK.out HG1.out HG2.out HG4.out HG8.out HG16.out HG32.out HG64.out)
                go_ret
                exact ⟨by rw [HX0.out] <;> rfl, HBE.out⟩
              | false =>
                rw [hh] at PS
                have HX0 := Lib.hid (HB64.out (gdN_bad (.inr ⟨hh, hz64⟩)))
                clear hz64 hh
                go_wp2_with fail
                refine (PNn.out _).mono ?_
                rintro e w' ⟨rfl, rfl⟩
                go_wp2_with fail
                refine (PS.out _).mono ?_
                rintro e w' ⟨rfl, rfl⟩
                go_wp2_with fail
                go_ret
                exact ⟨by rw [HX0.out] <;> rfl, HBE.out⟩
          · have e32 : decide (0 < p) = true := decide_eq_true (by have := LA32.out; omega)
            cases hh : hasb b 32 with
            | true =>
              rw [hh] at PP
              have HG32 : Hid (gdN b 32 p = true) := Lib.hid (gdN_ok LA32.out (.inl hh))
              clear hz32 hh
              by_cases hz64 : s = 0
              · have e64 : decide (0 < s) = false := decide_eq_false (by omega)
                have HG64 : Hid (gdN b 64 s = true) := Lib.hid (gdN_ok LA64.out (.inr hz64))
                clear hz64
                go_wp2_with fail
                refine (PNn.out _).mono ?_
                rintro e w' ⟨rfl, rfl⟩
                go_wp2_with fail
                refine (PP.out _).mono ?_
                rintro e w' ⟨rfl, rfl⟩
                go_wp2_with fail
                have HX0 := Lib.hid (HOK.out HG1.out HG2.out HG4.out HG8.out HG16.out HG32.out HG64.out)
                go_ret
                exact ⟨by rw [HX0.out] <;> rfl, HBE.out⟩
              · have e64 : decide (0 < s) = true := decide_eq_true (by have := LA64.out; omega)
                cases hh : hasb b 64 with
                | true =>
                  rw [hh] at PS
                  have HG64 : Hid (gdN b 64 s = true) := Lib.hid (gdN_ok LA64.out (.inl hh))
                  clear hz64 hh
                  go_wp2_with fail
                  refine (PNn.out _).mono ?_
                  rintro e w' ⟨rfl, rfl⟩
                  go_wp2_with fail
                  refine (PP.out _).mono ?_
                  rintro e w' ⟨rfl, rfl⟩
                  go_wp2_with fail
                  refine (PS.out _).mono ?_
                  rintro e w' ⟨rfl, rfl⟩
                  go_wp2_with fail
                  have HX0 := Lib.hid (HOK.out HG1.out HG2.out HG4.out HG8.out HG16.out HG32.out HG64.out)
                  go_ret
                  exact ⟨by rw [HX0.out] <;> rfl, HBE.out⟩
                | false =>
                  rw [hh] at PS
                  have HX0 := Lib.hid (HB64.out (gdN_bad (.inr ⟨hh, hz64⟩)))
                  clear hz64 hh
                  go_wp2_with fail
                  refine (PNn.out _).mono ?_
                  rintro e w' ⟨rfl, rfl⟩
                  go_wp2_with fail
                  refine (PP.out _).mono ?_
                  rintro e w' ⟨rfl, rfl⟩
                  go_wp2_with fail
                  refine (PS.out _).mono ?_
                  rintro e w' ⟨rfl, rfl⟩
                  go_wp2_with fail
                  go_ret
                  exact ⟨by rw [HX0.out] <;> rfl, HBE.out⟩
            | false =>
              rw [hh] at PP
              have HX0 := Lib.hid (HB32.out (gdN_bad (.inr ⟨hh, hz32⟩)))
              clear hz32 hh
              go_wp2_with fail
              refine (PNn.out _).mono ?_
              rintro e w' ⟨rfl, rfl⟩
              go_wp2_with fail
              refine (PP.out _).mono ?_
              rintro e w' ⟨rfl, rfl⟩
              go_wp2_with fail
              go_ret
              exact ⟨by rw [HX0.out] <;> rfl, HBE.out⟩
        | false =>
          rw [hh] at PNn
          have HX0 := Lib.hid (HB16.out (gdN_bad (.inr ⟨hh, hz16⟩)))
          clear hz16 hh
          go_wp2_with fail
          refine (PNn.out _).mono ?_
          rintro e w' ⟨rfl, rfl⟩
          go_wp2_with fail
          go_ret
          exact ⟨by rw [HX0.out] <;> rfl, HBE.out⟩
    · have e8 : decide (0 < o) = true := decide_eq_true (by have := LA8.out; omega)
      cases hh : hasb b 8 with
      | true =>
        rw [hh] at PO
        have HG8 : Hid (gdN b 8 o = true) := Lib.hid (gdN_ok LA8.out (.inl hh))
        clear hz8 hh
        by_cases hz16 : n = 0
        · have e16 : decide (0 < n) = false := decide_eq_false (by omega)
          have HG16 : Hid (gdN b 16 n = true) := Lib.hid (gdN_ok LA16.out (.inr hz16))
          clear hz16
          by_cases hz32 : p = 0
          · have e32 : decide (0 < p) = false := decide_eq_false (by omega)
            have HG32 : Hid (gdN b 32 p = true) := Lib.hid (gdN_ok LA32.out (.inr hz32))
            clear hz32
            by_cases hz64 : s = 0
            · have e64 : decide (0 < s) = false := decide_eq_false (by omega)
              have HG64 : Hid (gdN b 64 s = true) := Lib.hid (gdN_ok LA64.out (.inr hz64))
              clear hz64
              go_wp2_with fail
              refine (PO.out _).mono ?_
              rintro e w' ⟨rfl, rfl⟩
              go_wp2_with fail
              have HX0 := Lib.hid (HOK.out HG1.out HG2.out HG4.out HG8.out HG16.out HG32.out HG64.out)
              go_ret
              exact ⟨by rw [HX0.out] <;> rfl, HBE.out⟩
            · have e64 : decide (0 < s) = true := decide_eq_true (by have := LA64.out; omega)
              cases hh : hasb b 64 with
              | true =>
                rw [hh] at PS
                have HG64 : Hid (gdN b 64 s = true) := Lib.hid (gdN_ok LA64.out (.inl hh))
                clear hz64 hh
                go_wp2_with fail
                refine (PO.out _).mono ?_
                rintro e w' ⟨rfl, rfl⟩
                go_wp2_with fail
                refine (PS.out _).mono ?_
                rintro e w' ⟨rfl, rfl⟩
                go_wp2_with fail
                have HX0 := Lib.hid (HOK.out HG1.out HG2.out HG4.out HG8.out HG16.out HG32.out HG64.out)
                go_ret
                exact ⟨by rw [HX0.out] <;> rfl, HBE.out⟩
              | false =>
                rw [hh] at PS
                have HX0 := Lib.hid (HB64.out (gdN_bad (.inr ⟨hh, hz64⟩)))
                clear hz64 hh
                go_wp2_with fail
                refine (PO.out _).mono ?_
                rintro e w' ⟨rfl, rfl⟩
                go_wp2_with fail
                refine (PS.out _).mono ?_
                rintro e w' ⟨rfl, rfl⟩
                go_wp2_with fail
                go_ret
                exact ⟨by rw [HX0.out] <;> rfl, HBE.out⟩
          · have e32 : decide (0 < p) = true := decide_eq_true (by have := LA32.out; omega)
            cases hh : hasb b 32 with
            | true =>
              rw [hh] at PP
              have HG32 : Hid (gdN b 32 p = true) := Lib.hid (gdN_ok LA32.out (.inl hh))
              clear hz32 hh
              by_cases hz64 : s = 0
              · have e64 : decide (0 < s) = false := decide_eq_false (by omega)
                have HG64 : Hid (gdN b 64 s = true) := Lib.hid (gdN_ok LA64.out (.inr hz64))
                clear hz64
                go_wp2_with fail
                refine (PO.out _).mono ?_
                rintro e w' ⟨rfl, rfl⟩
                go_wp2_with fail
                refine (PP.out _).mono ?_
                rintro e w' ⟨rfl, rfl⟩
                go_wp2_with fail
                have HX0 := Lib.hid (HOK.out HG1.out HG2.out HG4.out HG8.out HG16.out HG32.out HG64.out)
                go_ret
                exact ⟨by rw [HX0.out] <;> rfl, HBE.out⟩
              · have e64 : decide (0 < s) = true := decide_eq_true (by have := LA64.out; omega)
                cases hh : hasb b 64 with
                | true =>
                  rw [hh] at PS
                  have HG64 : Hid (gdN b 64 s = true) := Lib.hid (gdN_ok LA64.out (.inl hh))
                  clear hz64 hh
                  go_wp2_with fail
                  refine (PO.out _).mono ?_
                  rintro e w' ⟨rfl, rfl⟩
                  go_wp2_with fail
                  refine (PP.out _).mono ?_
                  rintro e w' ⟨rfl, rfl⟩
                  go_wp2_with fail
                  refine (PS.out _).mono ?_
                  rintro e w' ⟨rfl, rfl⟩
                  go_wp2_with fail
                  have HX0 := Lib.hid (HOK.out HG1.out HG2.out HG4.out HG8.out HG16.out HG32.out HG64.out)
                  go_ret
                  exact ⟨by rw [HX0.out] <;> rfl, HBE.out⟩
                | false =>
                  rw [hh] at PS
                  have HX0 := Lib.hid (HB64.out (gdN_bad (.inr ⟨hh, hz64⟩)))
                  clear hz64 hh
                  go_wp2_with fail
                  refine (PO.out _).mono ?_
                  rintro e w' ⟨rfl, rfl⟩
                  go_wp2_with fail
                  refine (PP.out _).mono ?_
                  rintro e w' ⟨rfl, rfl⟩
                  go_wp2_with fail
                  refine (PS.out _).mono ?_
                  rintro e w' ⟨rfl, rfl⟩
                  go_wp2_with fail
                  go_ret
                  exact ⟨by rw [HX0.out] <;> rfl, HBE.out⟩
            | false =>
              rw [hh] at PP
              have HX0 := Lib.hid (HB32.out (gdN_bad (.inr ⟨hh, hz32⟩)))
              clear hz32 hh
              go_wp2_with fail
              refine (PO.out _).mono ?_
              rintro e w' ⟨rfl, rfl⟩
              go_wp2_with fail
              refine (PP.out _).mono ?_
              rintro e w' ⟨rfl, rfl⟩
              go_wp2_with fail
              go_ret
              exact ⟨by rw [HX0.out] <;> rfl, HBE.out⟩
        · have e16 : decide (0 < n) = true := decide_eq_true (by have := LA16.out; omega)
          cases hh : hasb b 16 with
          | true =>
            rw [hh] at PNn
            have HG16 : Hid (gdN b 16 n = true) := Lib.hid (gdN_ok LA16.out (.inl hh))
            clear hz16 hh
            by_cases hz32 : p = 0
            · have e32 : decide (0 < p) = false := decide_eq_false (by omega)
              have HG32 : Hid (gdN b 32 p = true) := Lib.hid (gdN_ok LA32.out (.inr hz32))
              clear hz32
              by_cases hz64 : s = 0
              · have e64 : decide (0 < s) = false := decide_eq_false (by omega)
                have HG64 : Hid (gdN b 64 s = true) := Lib.hid (gdN_ok LA64.out (.inr hz64))
                clear hz64
                go_wp2_with fail
                refine (PO.out _).mono ?_
                rintro e w' ⟨rfl, rfl⟩
                go_wp2_with fail
                refine (PNn.out _).mono ?_
                rintro e w' ⟨rfl, rfl⟩
                go_wp2_with fail
                have HX0 := Lib.hid (HOK.out HG1.out HG2.out HG4.out HG8.out HG16.out HG32.out HG64.out)
                go_ret
                exact ⟨by rw [HX0.out] <;> rfl, HBE.out⟩
              · have e64 : decide (0 < s) = true := decide_eq_true (by have := LA64.out; omega)
                cases hh : hasb b 64 with
                | true =>
                  rw [hh] at PS
                  have HG64 : Hid (gdN b 64 s = true) := Lib.hid (gdN_ok LA64.out (.inl hh))
                  clear hz64 hh
                  go_wp2_with fail
                  refine (PO.out _).mono ?_
                  rintro e w' ⟨rfl, rfl⟩
                  go_wp2_with fail
                  refine (PNn.out _).mono ?_
                  rintro e w' ⟨rfl, rfl⟩
                  go_wp2_with fail
                  refine (PS.out _).mono ?_
                  rintro e w' ⟨rfl, rfl⟩
                  go_wp2_with fail
                  have HX0 := Lib.hid (HOK.out HG1.out HG2.out HG4.out HG8.out HG16.out HG32.out HG64.out)
                  go_ret
                  exact ⟨by rw [HX0.out] <;> rfl, HBE.out⟩
                | false =>
                  rw [hh] at PS
                  have HX0 := Lib.hid (HB64.out (gdN_bad (.inr ⟨hh, hz64⟩)))
                  clear hz64 hh
                  go_wp2_with fail
                  refine (PO.out _).mono ?_
                  rintro e w' ⟨rfl, rfl⟩
                  go_wp2_with fail
                  refine (PNn.out _).mono ?_
                  rintro e w' ⟨rfl, rfl⟩
                  go_wp2_with fail
                  refine (PS.out _).mono ?_
                  rintro e w' ⟨rfl, rfl⟩
                  go_wp2_with fail
                  go_ret
                  exact ⟨by rw [HX0.out] <;> rfl, HBE.out⟩
            · have e32 : decide (0 < p) = true := decide_eq_true (by have := LA32.out; omega)
              cases hh : hasb b 32 with
              | true =>
                rw [hh] at PP
                have HG32 : Hid (gdN b 32 p = true) := Lib.hid (gdN_ok LA32.out (.inl hh))
                clear hz32 hh
                by_cases hz64 : s = 0
                · have e64 : decide (0 < s) = false := decide_eq_false (by omega)
                  have HG64 : Hid (gdN b 64 s = true) := Lib.hid (gdN_ok LA64.out (.inr hz64))
                  clear hz64
                  go_wp2_with fail
                  refine (PO.out _).mono ?_
                  rintro e w' ⟨rfl, rfl⟩
                  go_wp2_with fail
                  refine (PNn.out _).mono ?_
                  rintro e w' ⟨rfl, rfl⟩
                  go_wp2_with fail
                  refine (PP.out _).mono ?_
                  rintro e w' ⟨rfl, rfl⟩
                  go_wp2_with fail
                  have HX0 := Lib.hid (HOK.out HG1.out HG2.out HG4.out HG8.out HG16.out HG32.out HG64.out)
                  go_ret
                  exact ⟨by rw [HX0.out] <;> rfl, HBE.out⟩
                · have e64 : decide (0 < s) = true := decide_eq_true (by have := LA64.out; omega)
                  cases hh : hasb b 64 with
                  | true =>
                    rw [hh] at PS
                    have HG64 : Hid (gdN b 64 s = true) := Lib.hid (gdN_ok LA64.out (.inl hh))
                    clear hz64 hh
                    go_wp2_with fail
                    refine (PO.out _).mono ?_
                    rintro e w' ⟨rfl, rfl⟩
                    go_wp2_with fail
                    refine (PNn.out _).mono ?_
                    rintro e w' ⟨rfl, rfl⟩
                    go_wp2_with fail
                    refine (PP.out _).mono ?_
                    rintro e w' ⟨rfl, rfl⟩
                    go_wp2_with fail
                    refine (PS.out _).mono ?_
                    rintro e w' ⟨rfl, rfl⟩
                    go_wp2_with fail
                    have HX0 := Lib.hid (HOK.out HG1.out HG2.out HG4.out HG8.out HG16.out HG32.out HG64.out)
                    go_ret
                    exact ⟨by rw [HX0.out] <;> rfl, HBE.out⟩
                  | false =>
                    rw [hh] at PS
                    have HX0 := Lib.hid (HB64.out (gdN_bad (.inr ⟨hh, hz64⟩)))
                    clear hz64 hh
                    go_wp2_with fail
                    refine (PO.out _).mono ?_
                    rintro e w' ⟨rfl, rfl⟩
                    go_wp2_with fail
                    refine (PNn.out _).mono ?_
                    rintro e w' ⟨rfl, rfl⟩
                    go_wp2_with fail
                    refine (PP.out _).mono ?_
                    rintro e w' ⟨rfl, rfl⟩
                    go_wp2_with fail
                    refine (PS.out _).mono ?_
                    rintro e w' ⟨rfl, rfl⟩
                    go_wp2_with fail
                    go_ret
                    exact ⟨by rw [HX0.out] <;> rfl, HBE.out⟩
              | false =>
                rw [hh] at PP
                have HX0 := Lib.hid (HB32.out (gdN_bad (.inr ⟨hh, hz32⟩)))
                clear hz32 hh
                go_wp2_with fail
                refine (PO.out _).mono ?_
                rintro e w' ⟨rfl, rfl⟩
                go_wp2_with fail
                refine (PNn.out _).mono ?_
                rintro e w' ⟨rfl, rfl⟩
                go_wp2_with fail
                refine (PP.out _).mono ?_
                rintro e w' ⟨rfl, rfl⟩
                go_wp2_with fail
                go_ret
                exact ⟨by rw [HX0.out] <;> rfl, HBE.out⟩
          | false =>
            rw [hh] at PNn
            have HX0 := Lib.hid (HB16.out (gdN_bad (.inr ⟨hh, hz16⟩)))
            clear hz16 hh
            go_wp2_with fail
            refine (PO.out _).mono ?_
            rintro e w' ⟨rfl, rfl⟩
            go_wp2_with fail
            refine (PNn.out _).mono ?_
            rintro e w' ⟨rfl, rfl⟩
            go_wp2_with fail
            go_ret
            exact ⟨by rw [HX0.out] <;> rfl, HBE.out⟩
      | false =>
        rw [hh] at PO
        have HX0 := Lib.hid (HB8.out (gdN_bad (.inr ⟨hh, hz8⟩)))
        clear hz8 hh
        go_wp2_with fail
        refine (PO.out _).mono ?_
        rintro e w' ⟨rfl, rfl⟩
        go_wp2_with fail
        go_ret
        exact ⟨by rw [HX0.out] <;> rfl, HBE.out⟩
set_option maxRecDepth 100000 in
theorem rcheckq_noOp (x : Rq) (w : World) (h : ¬ (1 ≤ x.op ∧ x.op < 16)) : Calls Tryd.prog 16 #[x.V] w fun e w' => e = .returned (.int .i64 (chkq x)) ∧ Below w.heap.size w w' := by
  rw [chkq_no (fun m => h m.op)]
  have PU := Lib.hid (fun W => uses16_is x.op W)
  have hu : usS x.op = ⟨#[63]⟩ := by unfold usS; rw [usL_none h]; rfl
  rw [hu] at PU
  obtain ⟨id, op, t, k, v, o, n, p, s⟩ := x
  unfold Rq.V
  simp only at PU ⊢
  clear h hu
  go_enter Tryd.func16, Tryd.ntmps16
  go_wp2_with fail
  refine (PU.out _).mono ?_
  rintro e w1 ⟨rfl, rfl⟩
  go_wp2_with fail
  go_ret
  exact ⟨rfl, (Below.refl _ _).alloc (Nat.le_refl _) _⟩
theorem rcheckq_is (x : Rq) (w : World) : Calls Tryd.prog 16 #[x.V] w fun e w' => e = .returned (.int .i64 (chkq x)) ∧ Below w.heap.size w w' := by
  by_cases h : 1 ≤ x.op ∧ x.op < 16
  · obtain ⟨id, op, t, k, v, o, n, p, s⟩ := x
    simp only at h
    obtain ⟨m, rfl⟩ : ∃ m : Nat, op = (m : Int) := ⟨op.toNat, by omega⟩
    exact rcheckq_op id m t k v o n p s w (by omega) (by omega)
  · exact rcheckq_noOp x w h
end Go.Proofs.YtljfmcgeiceagaaDoor
