/- chronicleref16.body, at a response that may be (printed by gen_rsref.py). -/
import Derived.Test.YtljfmcgeiceagaaGreatRsRef1
namespace Go.Proofs.YtljfmcgeiceagaaGreat
open Go Go.RowKit
set_option linter.unusedVariables false
set_option linter.unusedSimpArgs false

set_option maxHeartbeats 8000000 in
set_option maxRecDepth 100000 in
theorem bodyr_is (id op code : Nat) (off num : Int) (more : Bool) (names : List ByteArray) (recs : List Rc) (AN AL : Option Addr) (nn nr cn cl : Nat) (w : World)
    (hrn : Rd w AN (strs names)) (hnn : names.length = nn) (hrl : Rd w AL (rcCells recs)) (hnr : recs.length = nr)
    (hid : id < 4294967296) (hop : op < 256) (hc : code < 256) (ho : r64 off) (hu : r64 num) (hn16 : nn ≤ 16) (hn24 : ∀ s ∈ names, s.size ≤ 24) (hchk : ∀ r ∈ recs, chk r = 0) (hnl : nr ≤ 2000000000000) (htot : (recs.flatMap encs).length ≤ 140737488350000) :
    Calls Tryz.prog 23 #[.agg #[.int .u32 (id : Int), .int .i64 (op : Int), .int .i64 (code : Int), .int .i64 off, .int .i64 num, .bool more, .slice AL nr cl, .slice AN nn cn]] w fun e w' => ∃ A c, e = .returned (.slice A (bdyp ⟨id, op, code, off, num, more, names, recs⟩).length c) ∧ w'.ownsRow w.heap.size 5 1 (.slice A (bdyp ⟨id, op, code, off, num, more, names, recs⟩).length c) (bdyp ⟨id, op, code, off, num, more, names, recs⟩).length (b8 (bdyp ⟨id, op, code, off, num, more, names, recs⟩)) ∧ Below w.heap.size w w' := by
  have HNN := Lib.hid hnn
  have HNR := Lib.hid hnr
  have H24 := Lib.hid hn24
  have HT := Lib.hid htot
  have HCH := Lib.hid hchk
  have HO := Lib.hid ho
  have HU := Lib.hid hu
  have hw1 : IntKind.u8.wrap (op : Int) = (op : Int) := by rw [IntKind.wrap_u8]; omega
  have hw2 : IntKind.u8.wrap (code : Int) = (code : Int) := by rw [IntKind.wrap_u8]; omega
  have hw3 : IntKind.u64.wrap (id : Int) = (id : Int) := by rw [IntKind.wrap_u64]; omega
  have hw4 : IntKind.u64.wrap (nn : Int) = (nn : Int) := by rw [IntKind.wrap_u64]; omega
  have hw5 : IntKind.u64.wrap (nr : Int) = (nr : Int) := by rw [IntKind.wrap_u64]; omega
  have z1 := (zig_nat off ho).2
  have z2 := (zig_nat num hu).2
  have LZ1 := Lib.hid (Uv.uv_len_64 _ z1)
  have LZ2 := Lib.hid (Uv.uv_len_64 _ z2)
  have LID : Hid ((Uv.uv id).length ≤ 5) := Lib.hid (Uv.uv_len_pow 4 id (by omega))
  have LN : Hid ((Uv.uv nn).length ≤ 10) := Lib.hid (Uv.uv_len_64 _ (by omega))
  have LR : Hid ((Uv.uv nr).length ≤ 10) := Lib.hid (Uv.uv_len_64 _ (by omega))
  have hnl2 := names_len names hn24
  have LNS : Hid ((names.flatMap txt).length ≤ 400) := Lib.hid (by omega)
  have HQ : Hid (bdyp ⟨id, op, code, off, num, more, names, recs⟩ = [82, op] ++ [code] ++ Uv.uv id ++ Uv.uv (Uv.zig off).toNat ++ Uv.uv (Uv.zig num).toNat ++ [if more = true then 1 else 0] ++ Uv.uv nn ++ names.flatMap txt ++ Uv.uv nr ++ recs.flatMap encs) := Lib.hid (by simp only [bdyp, headp, Int.toNat_natCast, hnn, hnr]; simp only [List.append_assoc, List.cons_append, List.nil_append])
  obtain ⟨X, hX⟩ : ∃ X, X = bdyp ⟨id, op, code, off, num, more, names, recs⟩ := ⟨_, rfl⟩
  rw [← hX] at HQ ⊢
  have SID : Hid (id < 18446744073709551616) := Lib.hid (by omega)
  have hB0 := (Below.refl w.heap.size w).alloc (Nat.le_refl _) (.cells #[.int .u32 (id : Int), .int .i64 (op : Int), .int .i64 (code : Int), .int .i64 off, .int .i64 num, .bool more, .slice AL nr cl, .slice AN nn cn] 26)
  have HX0 := Lib.hid (show B8 _ w.heap.size (.int .u32 (id : Int)) (.int .i64 (op : Int)) (.int .i64 (code : Int)) (.int .i64 off) (.int .i64 num) (.bool more) (.slice AL nr cl) (.slice AN nn cn) from heap_alloc_new w _)
  have HRN0 := Lib.hid (hrn.below hB0)
  have HRL0 := Lib.hid (hrl.below hB0)
  have HB0 := Lib.hid hB0
  have hgs0 : w.heap.size < (w.alloc (.cells #[.int .u32 (id : Int), .int .i64 (op : Int), .int .i64 (code : Int), .int .i64 off, .int .i64 num, .bool more, .slice AL nr cl, .slice AN nn cn] 26)).heap.size := by simp
  clear hrn hnn hrl hnr hn24 htot ho hu z1 z2 hnl2 hX hid hop hc hchk hB0
  go_enter Tryz.func23, Tryz.ntmps23
  go_upto_region 1 with (fail)
  obtain ⟨gb, hgb⟩ : ∃ gb, gb = w.alloc (.cells #[.int .u32 (id : Int), .int .i64 (op : Int), .int .i64 (code : Int), .int .i64 off, .int .i64 num, .bool more, .slice AL nr cl, .slice AN nn cn] 26) := ⟨_, rfl⟩
  rw [← hgb] at HX0 HRN0 HRL0 HB0 hgs0 ⊢
  have HX := HX0
  have HRN := HRN0
  have HRL := HRL0
  have HBW := HB0
  have hgs := hgs0
  clear hgb HX0 HRN0 HRL0 HB0 hgs0
  go_wp2_with fail
  refine (rnew_is gb).mono ?_
  rintro e w0 ⟨rfl, hw0⟩
  have V0 : Hid (Wr gb.heap.size w0 110 gb.heap.size (.slice none 0 0) []) := Lib.hid (by rw [hw0]; exact rnew_wr gb.heap.size gb (Nat.le_refl _))
  have D0 : Hid (Below gb.heap.size gb w0) := Lib.hid (by rw [hw0]; exact (Below.refl _ _).alloc (Nat.le_refl _) _)
  clear hw0
  obtain ⟨x0, x1, x2, x3, x4, x5, x6, x7⟩ := (HX.out.below D0.out hgs).facts
  go_wp2_with fail
  refine (rbyte_is gb.heap.size gb.heap.size (.slice none 0 0) [] 82 _ V0.out (by have := LID.out; have := LZ1.out; have := LZ2.out; have := LN.out; have := LR.out; have := LNS.out; have := HT.out; simp only [List.length_append, List.length_cons, List.length_nil]; omega) D0.out.size).mono ?_
  intro e w1 hw
  obtain ⟨v1, rfl, h, b⟩ := hw.to' V0.out
  have V1 := Lib.hid h
  have D1 := Lib.hid (D0.out.trans b)
  clear hw h b V0 D0
  clear x0 x1 x2 x3 x4 x5 x6 x7
  obtain ⟨x0, x1, x2, x3, x4, x5, x6, x7⟩ := (HX.out.below D1.out hgs).facts
  go_wp2_with fail
  refine (rbyte_is gb.heap.size gb.heap.size v1 ([] ++ [82]) op _ V1.out (by have := LID.out; have := LZ1.out; have := LZ2.out; have := LN.out; have := LR.out; have := LNS.out; have := HT.out; simp only [List.length_append, List.length_cons, List.length_nil]; omega) D1.out.size).mono ?_
  intro e w2 hw
  obtain ⟨v2, rfl, h, b⟩ := hw.to' V1.out
  have V2 := Lib.hid h
  have D2 := Lib.hid (D1.out.trans b)
  clear hw h b V1 D1
  clear x0 x1 x2 x3 x4 x5 x6 x7
  obtain ⟨x0, x1, x2, x3, x4, x5, x6, x7⟩ := (HX.out.below D2.out hgs).facts
  go_wp2_with fail
  refine (rbyte_is gb.heap.size gb.heap.size v2 (([] ++ [82]) ++ [op]) code _ V2.out (by have := LID.out; have := LZ1.out; have := LZ2.out; have := LN.out; have := LR.out; have := LNS.out; have := HT.out; simp only [List.length_append, List.length_cons, List.length_nil]; omega) D2.out.size).mono ?_
  intro e w3 hw
  obtain ⟨v3, rfl, h, b⟩ := hw.to' V2.out
  have V3 := Lib.hid h
  have D3 := Lib.hid (D2.out.trans b)
  clear hw h b V2 D2
  clear x0 x1 x2 x3 x4 x5 x6 x7
  obtain ⟨x0, x1, x2, x3, x4, x5, x6, x7⟩ := (HX.out.below D3.out hgs).facts
  go_wp2_with fail
  refine (ruvarint_w gb.heap.size gb.heap.size v3 ((([] ++ [82]) ++ [op]) ++ [code]) id _ V3.out SID.out (by have := LID.out; have := LZ1.out; have := LZ2.out; have := LN.out; have := LR.out; have := LNS.out; have := HT.out; simp only [List.length_append, List.length_cons, List.length_nil]; omega) D3.out.size).mono ?_
  intro e w4 hw
  obtain ⟨v4, rfl, h, b⟩ := hw.to' V3.out
  have V4 := Lib.hid h
  have D4 := Lib.hid (D3.out.trans b)
  clear hw h b V3 D3
  clear x0 x1 x2 x3 x4 x5 x6 x7
  obtain ⟨x0, x1, x2, x3, x4, x5, x6, x7⟩ := (HX.out.below D4.out hgs).facts
  go_wp2_with fail
  refine (rvarint_w gb.heap.size gb.heap.size v4 (((([] ++ [82]) ++ [op]) ++ [code]) ++ Uv.uv id) off _ V4.out HO.out (by have := LID.out; have := LZ1.out; have := LZ2.out; have := LN.out; have := LR.out; have := LNS.out; have := HT.out; simp only [List.length_append, List.length_cons, List.length_nil]; omega) D4.out.size).mono ?_
  intro e w5 hw
  obtain ⟨v5, rfl, h, b⟩ := hw.to' V4.out
  have V5 := Lib.hid h
  have D5 := Lib.hid (D4.out.trans b)
  clear hw h b V4 D4
  clear x0 x1 x2 x3 x4 x5 x6 x7
  obtain ⟨x0, x1, x2, x3, x4, x5, x6, x7⟩ := (HX.out.below D5.out hgs).facts
  go_wp2_with fail
  refine (rvarint_w gb.heap.size gb.heap.size v5 ((((([] ++ [82]) ++ [op]) ++ [code]) ++ Uv.uv id) ++ Uv.uv (Uv.zig off).toNat) num _ V5.out HU.out (by have := LID.out; have := LZ1.out; have := LZ2.out; have := LN.out; have := LR.out; have := LNS.out; have := HT.out; simp only [List.length_append, List.length_cons, List.length_nil]; omega) D5.out.size).mono ?_
  intro e w6 hw
  obtain ⟨v6, rfl, h, b⟩ := hw.to' V5.out
  have V6 := Lib.hid h
  have D6 := Lib.hid (D5.out.trans b)
  clear hw h b V5 D5
  clear x0 x1 x2 x3 x4 x5 x6 x7
  obtain ⟨x0, x1, x2, x3, x4, x5, x6, x7⟩ := (HX.out.below D6.out hgs).facts
  go_upto_if 35 with (fail)
  go_cut [] from 8 (fun wx => ∃ v', Wr gb.heap.size wx 110 gb.heap.size v' ([82, op] ++ [code] ++ Uv.uv id ++ Uv.uv (Uv.zig off).toNat ++ Uv.uv (Uv.zig num).toNat ++ [if more = true then 1 else 0]) ∧ Below gb.heap.size gb wx)
  case first =>
    cases more with
    | true =>
      go_wp2_with fail
      refine (rbyte_is gb.heap.size gb.heap.size v6 (((((([] ++ [82]) ++ [op]) ++ [code]) ++ Uv.uv id) ++ Uv.uv (Uv.zig off).toNat) ++ Uv.uv (Uv.zig num).toNat) 1 _ V6.out (by have := LID.out; have := LZ1.out; have := LZ2.out; have := LN.out; have := LR.out; have := LNS.out; have := HT.out; simp only [List.length_append, List.length_cons, List.length_nil]; omega) D6.out.size).mono ?_
      intro e wn hw
      obtain ⟨vn, rfl, h, b⟩ := hw.to' V6.out
      have VN := Lib.hid h
      have DN := Lib.hid (D6.out.trans b)
      clear hw h b
      go_wp2_with fail
      go_meet
      case rel => exact ⟨vn, by have := VN.out; simpa using this, DN.out⟩
    | false =>
      go_wp2_with fail
      refine (rbyte_is gb.heap.size gb.heap.size v6 (((((([] ++ [82]) ++ [op]) ++ [code]) ++ Uv.uv id) ++ Uv.uv (Uv.zig off).toNat) ++ Uv.uv (Uv.zig num).toNat) 0 _ V6.out (by have := LID.out; have := LZ1.out; have := LZ2.out; have := LN.out; have := LR.out; have := LNS.out; have := HT.out; simp only [List.length_append, List.length_cons, List.length_nil]; omega) D6.out.size).mono ?_
      intro e wn hw
      obtain ⟨vn, rfl, h, b⟩ := hw.to' V6.out
      have VN := Lib.hid h
      have DN := Lib.hid (D6.out.trans b)
      clear hw h b
      go_wp2_with fail
      go_meet
      case rel => exact ⟨vn, by have := VN.out; simpa using this, DN.out⟩
  case' rest => obtain ⟨v7, hvn, hdn⟩ := hcut; have V7 := Lib.hid hvn; have D7 := Lib.hid hdn; clear x0 x1 x2 x3 x4 x5 x6 x7; clear hvn hdn V6 D6
  obtain ⟨x0, x1, x2, x3, x4, x5, x6, x7⟩ := (HX.out.below D7.out hgs).facts
  go_wp2_with fail
  refine (ruvarint_w gb.heap.size gb.heap.size v7 ([82, op] ++ [code] ++ Uv.uv id ++ Uv.uv (Uv.zig off).toNat ++ Uv.uv (Uv.zig num).toNat ++ [if more = true then 1 else 0]) nn _ V7.out (by omega) (by have := LID.out; have := LZ1.out; have := LZ2.out; have := LN.out; have := LR.out; have := LNS.out; have := HT.out; simp only [List.length_append, List.length_cons, List.length_nil]; omega) D7.out.size).mono ?_
  intro e w8 hw
  obtain ⟨v8, rfl, h, b⟩ := hw.to' V7.out
  have V8 : Hid (Wr gb.heap.size w8 110 gb.heap.size v8 ([82, op] ++ [code] ++ Uv.uv id ++ Uv.uv (Uv.zig off).toNat ++ Uv.uv (Uv.zig num).toNat ++ [if more = true then 1 else 0] ++ Uv.uv nn ++ (names.take 0).flatMap txt)) := Lib.hid (by simpa using h)
  have D8 := Lib.hid (D7.out.trans b)
  clear hw h b V7 D7
  clear x0 x1 x2 x3 x4 x5 x6 x7
  go_wp2_with fail
  go_loopw [4] (fun i wr => ∃ j : Nat, j ≤ nn ∧ i = .int .i64 j ∧ (∃ v', Wr gb.heap.size wr 110 gb.heap.size v' ([82, op] ++ [code] ++ Uv.uv id ++ Uv.uv (Uv.zig off).toNat ++ Uv.uv (Uv.zig num).toNat ++ [if more = true then 1 else 0] ++ Uv.uv nn ++ (names.take j).flatMap txt)) ∧ Below gb.heap.size gb wr) (fun i _ => nn - (intOf i).toNat)
  case atStart => exact ⟨0, Nat.zero_le _, rfl, ⟨v8, V8.out⟩, D8.out⟩
  case round =>
    obtain ⟨j, hj, rfl, ⟨vj, hv⟩, hd⟩ := hrel
    have VJ := Lib.hid hv
    have DJ := Lib.hid hd
    clear hv hd V8 D8
    obtain ⟨x0, x1, x2, x3, x4, x5, x6, x7⟩ := (HX.out.below DJ.out hgs).facts
    by_cases hlt : j < nn
    · have i1 : (0 : Int) ≤ (j : Int) := by omega
      have i2 : (j : Int) < (nn : Int) := by omega
      obtain ⟨s, hs⟩ : ∃ s, names[j]? = some s := ⟨_, List.getElem?_eq_getElem (by rw [HNN.out]; exact hlt)⟩
      obtain ⟨g2, off2, rfl, hg2, hc2⟩ := (HRN.out.below DJ.out).val_ (strs_get hs)
      have HST := Lib.hid (flatT (f := txt) hs)
      have S24 := Lib.hid (H24.out s (List.mem_of_getElem? hs))
      have LTK := Lib.hid (flat_take_le (f := txt) names j)
      clear hs
      go_wp2_with fail
      refine (rtext_w gb.heap.size gb.heap.size vj ([82, op] ++ [code] ++ Uv.uv id ++ Uv.uv (Uv.zig off).toNat ++ Uv.uv (Uv.zig num).toNat ++ [if more = true then 1 else 0] ++ Uv.uv nn ++ (names.take j).flatMap txt) s _ VJ.out (by have := LID.out; have := LZ1.out; have := LZ2.out; have := LN.out; have := LNS.out; have := LTK.out; have := S24.out; simp only [List.length_append, List.length_cons, List.length_nil]; omega) DJ.out.size).mono ?_
      intro e yn hw
      obtain ⟨vn, rfl, h, bb⟩ := hw.to' VJ.out
      have VN := Lib.hid h
      have DN := Lib.hid (DJ.out.trans bb)
      clear hw h bb
      go_wp2_with fail
      go_roundw
      case rel => exact ⟨j + 1, by omega, by go_num, ⟨vn, by rw [HST.out]; have := VN.out; unfold txt at this ⊢; simpa only [List.append_assoc] using this⟩, DN.out⟩
      case measure => simp [intOf]; omega
    · have hj2 : j = nn := by omega
      have i2 : ¬ (j : Int) < (nn : Int) := by omega
      have hall : (names.take j) = names := List.take_of_length_le (by have := HNN.out; omega)
      have V9 : Hid (Wr gb.heap.size wr 110 gb.heap.size vj ([82, op] ++ [code] ++ Uv.uv id ++ Uv.uv (Uv.zig off).toNat ++ Uv.uv (Uv.zig num).toNat ++ [if more = true then 1 else 0] ++ Uv.uv nn ++ names.flatMap txt)) := Lib.hid (by have := VJ.out; rwa [hall] at this)
      clear hall hlt hj hj2 VJ
      go_wp2_with fail
      refine (ruvarint_w gb.heap.size gb.heap.size vj ([82, op] ++ [code] ++ Uv.uv id ++ Uv.uv (Uv.zig off).toNat ++ Uv.uv (Uv.zig num).toNat ++ [if more = true then 1 else 0] ++ Uv.uv nn ++ names.flatMap txt) nr _ V9.out (by omega) (by have := LID.out; have := LZ1.out; have := LZ2.out; have := LN.out; have := LR.out; have := LNS.out; have := HT.out; simp only [List.length_append, List.length_cons, List.length_nil]; omega) DJ.out.size).mono ?_
      intro e w10 hw
      obtain ⟨v10, rfl, h, b⟩ := hw.to' V9.out
      have V10 : Hid (Wr gb.heap.size w10 110 gb.heap.size v10 ([82, op] ++ [code] ++ Uv.uv id ++ Uv.uv (Uv.zig off).toNat ++ Uv.uv (Uv.zig num).toNat ++ [if more = true then 1 else 0] ++ Uv.uv nn ++ names.flatMap txt ++ Uv.uv nr ++ (recs.take 0).flatMap encs)) := Lib.hid (by simpa using h)
      have D10 := Lib.hid (DJ.out.trans b)
      clear hw h b V9 DJ
      clear x0 x1 x2 x3 x4 x5 x6 x7
      go_wp2_with fail
      go_loopw [5] (fun i wr => ∃ j : Nat, j ≤ nr ∧ i = .int .i64 j ∧ (∃ v', Wr gb.heap.size wr 110 gb.heap.size v' ([82, op] ++ [code] ++ Uv.uv id ++ Uv.uv (Uv.zig off).toNat ++ Uv.uv (Uv.zig num).toNat ++ [if more = true then 1 else 0] ++ Uv.uv nn ++ names.flatMap txt ++ Uv.uv nr ++ (recs.take j).flatMap encs)) ∧ Below gb.heap.size gb wr) (fun i _ => nr - (intOf i).toNat)
      case atStart => exact ⟨0, Nat.zero_le _, rfl, ⟨v10, V10.out⟩, D10.out⟩
      case round =>
        obtain ⟨k, hk, rfl, ⟨vk, hv⟩, hd⟩ := hrel
        have VK := Lib.hid hv
        have DK := Lib.hid hd
        clear hv hd V10 D10
        obtain ⟨x0, x1, x2, x3, x4, x5, x6, x7⟩ := (HX.out.below DK.out hgs).facts
        by_cases hlt2 : k < nr
        · have i3 : (0 : Int) ≤ (k : Int) := by omega
          have i4 : (k : Int) < (nr : Int) := by omega
          obtain ⟨r, hr⟩ : ∃ s, recs[k]? = some s := ⟨_, List.getElem?_eq_getElem (by rw [HNR.out]; exact hlt2)⟩
          obtain ⟨g3, off3, rfl, hg3, y0, y1, y2, y3, y4, y5, y6⟩ := (HRL.out.below DK.out).rec hr
          have HST := Lib.hid (flatT (f := encs) hr)
          have LTK := Lib.hid (flat_take_le (f := encs) recs (k + 1))
          have hen := renc_ok (HCH.out r (List.mem_of_getElem? hr))
          have PE := Lib.hid (fun W => rcencode4_is r W)
          unfold Ans8 at PE
          have hee : encs r = (renc r).1 := rfl
          rw [hen] at hee PE
          simp only at hee PE
          rw [← hee] at PE
          obtain ⟨m, hm⟩ : ∃ m, (encs r).length = m := ⟨_, rfl⟩
          have HMM := Lib.hid hm
          rw [hm] at PE
          unfold Rc.v at PE
          obtain ⟨xk, xo, xt, xp, xs, xkey, xval⟩ := r
          simp only at PE y0 y1 y2 y3 y4 y5 y6
          clear hr hm hen hee
          go_wp2_with fail
          refine (PE.out _).mono ?_
          rintro e we ⟨AK, ck, rfl, hoe, hbe⟩
          have HRK := Lib.hid (rd_own hoe)
          have DE := Lib.hid (DK.out.trans (hbe.mono DK.out.size))
          have VE := Lib.hid (VK.out.below hbe)
          clear hoe hbe
          go_wp2_with fail
          refine (rraw_is gb.heap.size gb.heap.size vk ([82, op] ++ [code] ++ Uv.uv id ++ Uv.uv (Uv.zig off).toNat ++ Uv.uv (Uv.zig num).toNat ++ [if more = true then 1 else 0] ++ Uv.uv nn ++ names.flatMap txt ++ Uv.uv nr ++ (recs.take k).flatMap encs) AK m ck (encs _) _ VE.out HRK.out HMM.out (by have := LID.out; have := LZ1.out; have := LZ2.out; have := LN.out; have := LNS.out; have := LR.out; have h1 := LTK.out; have := HT.out; rw [HST.out, List.length_append, HMM.out] at h1; simp only [List.length_append, List.length_cons, List.length_nil]; omega) DE.out.size).mono ?_
          intro e yn hw
          obtain ⟨vn, rfl, h, bb⟩ := hw.to' VE.out
          have VN := Lib.hid h
          have DN := Lib.hid (DE.out.trans bb)
          clear hw h bb
          go_wp2_with fail
          go_roundw
          case rel => exact ⟨k + 1, by omega, by go_num, ⟨vn, by rw [HST.out]; have := VN.out; simpa only [List.append_assoc] using this⟩, DN.out⟩
          case measure => simp [intOf]; omega
        · have i4 : ¬ (k : Int) < (nr : Int) := by omega
          have hall : (recs.take k) = recs := List.take_of_length_le (by have := HNR.out; omega)
          have VE : Hid (Wr gb.heap.size wr 110 gb.heap.size vk X) := Lib.hid (by rw [HQ.out]; have := VK.out; rwa [hall] at this)
          have hXl : X.length ≤ 140737488351232 := by rw [HQ.out]; have := LID.out; have := LZ1.out; have := LZ2.out; have := LN.out; have := LNS.out; have := LR.out; have := HT.out; simp only [List.length_append, List.length_cons, List.length_nil]; omega
          clear hall hlt2 hk VK
          go_wp2_with fail
          refine (rbytes_w gb.heap.size gb.heap.size vk X wr VE.out hXl).mono ?_
          rintro e w3 ⟨A3, c3, rfl, ho3, hb3⟩
          have B3 := Lib.hid (HBW.out.trans ((DK.out.trans (hb3.mono DK.out.size)).mono (Nat.le_of_lt hgs)))
          have HO3 := Lib.hid (own_lower ho3 (Nat.le_trans (Nat.le_of_lt hgs) DK.out.size))
          clear ho3 hb3
          go_wp2_with fail
          go_ret
          exact ⟨A3, c3, rfl, HO3.out, B3.out⟩
end Go.Proofs.YtljfmcgeiceagaaGreat
