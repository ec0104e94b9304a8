/- wire.written's closure, at any response. -/
import Derived.Test.YtljfmcgeiceagaaGreatRsP
import Derived.Test.YtljfmcgeiceagaaGreatQ1
import Derived.Deep.CutRange
namespace Go.Proofs.YtljfmcgeiceagaaGreat
open Go Go.RowKit
set_option linter.unusedVariables false
set_option linter.unusedSimpArgs false

/-- A response's box and the box of its records' bytes. -/
structure PG (W : World) (gr gl : Nat) (x : Rp) (vr vn vl : Value) : Prop where
  lt1 : gr < W.heap.size
  lt2 : gl < W.heap.size
  c0 : W.cell? ⟨gr, 0, none⟩ = some (.int .u32 (x.id : Int))
  c1 : W.cell? ⟨gr, 1, none⟩ = some (.int .i64 x.op)
  c2 : W.cell? ⟨gr, 2, none⟩ = some (.int .i64 x.code)
  c3 : W.cell? ⟨gr, 3, none⟩ = some (.int .i64 x.off)
  c4 : W.cell? ⟨gr, 4, none⟩ = some (.int .i64 x.num)
  c5 : W.cell? ⟨gr, 5, none⟩ = some (.bool x.more)
  c6 : W.cell? ⟨gr, 6, none⟩ = some vr
  c7 : W.cell? ⟨gr, 7, none⟩ = some vn
  cl : W.cell? ⟨gl, 0, none⟩ = some vl
theorem PG.below {W W' : World} {gr gl : Nat} {x : Rp} {vr vn vl : Value} {B : Nat} (h : PG W gr gl x vr vn vl) (hb : Below B W W') (h1 : gr < B) (h2 : gl < B) : PG W' gr gl x vr vn vl :=
  ⟨Nat.lt_of_lt_of_le h.lt1 hb.size, Nat.lt_of_lt_of_le h.lt2 hb.size, (hb.cell (p := ⟨gr, 0, none⟩) h1).trans h.c0, (hb.cell (p := ⟨gr, 1, none⟩) h1).trans h.c1, (hb.cell (p := ⟨gr, 2, none⟩) h1).trans h.c2, (hb.cell (p := ⟨gr, 3, none⟩) h1).trans h.c3, (hb.cell (p := ⟨gr, 4, none⟩) h1).trans h.c4, (hb.cell (p := ⟨gr, 5, none⟩) h1).trans h.c5, (hb.cell (p := ⟨gr, 6, none⟩) h1).trans h.c6, (hb.cell (p := ⟨gr, 7, none⟩) h1).trans h.c7, (hb.cell (p := ⟨gl, 0, none⟩) h2).trans h.cl⟩
set_option maxHeartbeats 8000000 in
set_option maxRecDepth 100000 in
theorem closp_is (g gr gl id op code : Nat) (off num : Int) (more : Bool) (names : List ByteArray) (recs : List Rc) (vr : Value) (AN AL : Option Addr) (nn nr cn cl : Nat) (vs : List Value) (wb w : World)
    (h : Wr wb.heap.size w 106 g (.slice none 0 0) []) (hb : Below wb.heap.size wb w) (hp : PG wb gr gl ⟨id, op, code, off, num, more, names, recs⟩ vr (.slice AN nn cn) (.slice AL nr cl))
    (hrn : Rd wb AN (strs names)) (hnn : names.length = nn) (hrl : Rd wb AL vs) (hsl : SlR wb vs (recs.map encs)) (hnr : recs.length = nr)
    (hid : id < 4294967296) (hop : op < 256) (hc : code < 256) (ho : r64 off) (hu : r64 num) (hn16 : nn ≤ 16) (hn24 : ∀ s ∈ names, s.size ≤ 24) (hnl : nr ≤ 2000000000000) (htot : (recs.flatMap encs).length ≤ 140737488350000) :
    Calls Tryz.prog 48 #[.pointer (some ⟨g, 0, none⟩), .pointer (some ⟨gr, 0, none⟩), .pointer (some ⟨gl, 0, none⟩)] w fun e w' => e = .returned (.tuple #[]) ∧ (∃ v', Wr wb.heap.size w' 106 g v' (bdyp ⟨id, op, code, off, num, more, names, recs⟩)) ∧ Below wb.heap.size wb w' := by
  have h1 := hp.lt1
  have h2 := hp.lt2
  have V0 := Lib.hid h
  have D0 := Lib.hid hb
  have HP := Lib.hid hp
  have HRN := Lib.hid hrn
  have HRL := Lib.hid hrl
  have HSL := Lib.hid hsl
  have HNN := Lib.hid hnn
  have HNR := Lib.hid hnr
  have H24 := Lib.hid hn24
  have HT := Lib.hid htot
  have HO := Lib.hid ho
  have HU := Lib.hid hu
  have hw1 : IntKind.u8.wrap (op : Int) = (op : Int) := by rw [IntKind.wrap_u8]; omega
  have hw2 : IntKind.u8.wrap (code : Int) = (code : Int) := by rw [IntKind.wrap_u8]; omega
  have hw3 : IntKind.u64.wrap (id : Int) = (id : Int) := by rw [IntKind.wrap_u64]; omega
  have hw4 : IntKind.u64.wrap (nn : Int) = (nn : Int) := by rw [IntKind.wrap_u64]; omega
  have hw5 : IntKind.u64.wrap (nr : Int) = (nr : Int) := by rw [IntKind.wrap_u64]; omega
  have z1 := (zig_nat off ho).2
  have z2 := (zig_nat num hu).2
  have LZ1 := Lib.hid (Uv.uv_len_64 _ z1)
  have LZ2 := Lib.hid (Uv.uv_len_64 _ z2)
  have LID : Hid ((Uv.uv id).length ≤ 5) := Lib.hid (Uv.uv_len_pow 4 id (by omega))
  have LN : Hid ((Uv.uv nn).length ≤ 10) := Lib.hid (Uv.uv_len_64 _ (by omega))
  have LR : Hid ((Uv.uv nr).length ≤ 10) := Lib.hid (Uv.uv_len_64 _ (by omega))
  have hnl2 := names_len names hn24
  have LNS : Hid ((names.flatMap txt).length ≤ 400) := Lib.hid (by omega)
  have HQ : Hid (bdyp ⟨id, op, code, off, num, more, names, recs⟩ = [82, op] ++ [code] ++ Uv.uv id ++ Uv.uv (Uv.zig off).toNat ++ Uv.uv (Uv.zig num).toNat ++ [if more = true then 1 else 0] ++ Uv.uv nn ++ names.flatMap txt ++ Uv.uv nr ++ recs.flatMap encs) := Lib.hid (by simp only [bdyp, headp, Int.toNat_natCast, hnn, hnr]; simp only [List.append_assoc, List.cons_append, List.nil_append])
  obtain ⟨X, hX⟩ : ∃ X, X = bdyp ⟨id, op, code, off, num, more, names, recs⟩ := ⟨_, rfl⟩
  rw [← hX] at HQ ⊢
  have SID : Hid (id < 18446744073709551616) := Lib.hid (by omega)
  clear h hb hp hrn hrl hsl hnn hnr hn24 htot ho hu z1 z2 hnl2 hX hid hop hc
  go_enter Tryz.func48, Tryz.ntmps48
  obtain ⟨x0, x1, x2, x3, x4, x5, x6, x7, xl⟩ : _ ∧ _ ∧ _ ∧ _ ∧ _ ∧ _ ∧ _ ∧ _ ∧ _ := (fun q : PG _ gr gl _ vr (.slice AN nn cn) (.slice AL nr cl) => ⟨q.c0, q.c1, q.c2, q.c3, q.c4, q.c5, q.c6, q.c7, q.cl⟩) (HP.out.below D0.out h1 h2)
  simp only at x0 x1 x2 x3 x4 x5
  go_wp2_with fail
  refine (byte_is wb.heap.size g (.slice none 0 0) [] 82 w V0.out (by simp) D0.out.size).mono ?_
  intro e w1 hw
  obtain ⟨v1, rfl, h, b⟩ := hw.to' V0.out
  have V1 := Lib.hid h
  have D1 := Lib.hid (D0.out.trans b)
  clear hw h b x0 x1 x2 x3 x4 x5 x6 x7 xl V0 D0
  obtain ⟨x0, x1, x2, x3, x4, x5, x6, x7, xl⟩ : _ ∧ _ ∧ _ ∧ _ ∧ _ ∧ _ ∧ _ ∧ _ ∧ _ := (fun q : PG _ gr gl _ vr (.slice AN nn cn) (.slice AL nr cl) => ⟨q.c0, q.c1, q.c2, q.c3, q.c4, q.c5, q.c6, q.c7, q.cl⟩) (HP.out.below D1.out h1 h2)
  simp only at x0 x1 x2 x3 x4 x5
  go_wp2_with fail
  refine (byte_is wb.heap.size g v1 ([] ++ [82]) op _ V1.out (by have := LID.out; have := LZ1.out; have := LZ2.out; have := LN.out; have := LR.out; have := LNS.out; have := HT.out; simp only [List.length_append, List.length_cons, List.length_nil]; omega) D1.out.size).mono ?_
  intro e w2 hw
  obtain ⟨v2, rfl, h, b⟩ := hw.to' V1.out
  have V2 := Lib.hid h
  have D2 := Lib.hid (D1.out.trans b)
  clear hw h b V1 D1
  clear x0 x1 x2 x3 x4 x5 x6 x7 xl
  obtain ⟨x0, x1, x2, x3, x4, x5, x6, x7, xl⟩ : _ ∧ _ ∧ _ ∧ _ ∧ _ ∧ _ ∧ _ ∧ _ ∧ _ := (fun q : PG _ gr gl _ vr (.slice AN nn cn) (.slice AL nr cl) => ⟨q.c0, q.c1, q.c2, q.c3, q.c4, q.c5, q.c6, q.c7, q.cl⟩) (HP.out.below D2.out h1 h2)
  simp only at x0 x1 x2 x3 x4 x5
  go_wp2_with fail
  refine (byte_is wb.heap.size g v2 (([] ++ [82]) ++ [op]) code _ V2.out (by have := LID.out; have := LZ1.out; have := LZ2.out; have := LN.out; have := LR.out; have := LNS.out; have := HT.out; simp only [List.length_append, List.length_cons, List.length_nil]; omega) D2.out.size).mono ?_
  intro e w3 hw
  obtain ⟨v3, rfl, h, b⟩ := hw.to' V2.out
  have V3 := Lib.hid h
  have D3 := Lib.hid (D2.out.trans b)
  clear hw h b V2 D2
  clear x0 x1 x2 x3 x4 x5 x6 x7 xl
  obtain ⟨x0, x1, x2, x3, x4, x5, x6, x7, xl⟩ : _ ∧ _ ∧ _ ∧ _ ∧ _ ∧ _ ∧ _ ∧ _ ∧ _ := (fun q : PG _ gr gl _ vr (.slice AN nn cn) (.slice AL nr cl) => ⟨q.c0, q.c1, q.c2, q.c3, q.c4, q.c5, q.c6, q.c7, q.cl⟩) (HP.out.below D3.out h1 h2)
  simp only at x0 x1 x2 x3 x4 x5
  go_wp2_with fail
  refine (uvarint_w wb.heap.size g v3 ((([] ++ [82]) ++ [op]) ++ [code]) id _ V3.out SID.out (by have := LID.out; have := LZ1.out; have := LZ2.out; have := LN.out; have := LR.out; have := LNS.out; have := HT.out; simp only [List.length_append, List.length_cons, List.length_nil]; omega) D3.out.size).mono ?_
  intro e w4 hw
  obtain ⟨v4, rfl, h, b⟩ := hw.to' V3.out
  have V4 := Lib.hid h
  have D4 := Lib.hid (D3.out.trans b)
  clear hw h b V3 D3
  clear x0 x1 x2 x3 x4 x5 x6 x7 xl
  obtain ⟨x0, x1, x2, x3, x4, x5, x6, x7, xl⟩ : _ ∧ _ ∧ _ ∧ _ ∧ _ ∧ _ ∧ _ ∧ _ ∧ _ := (fun q : PG _ gr gl _ vr (.slice AN nn cn) (.slice AL nr cl) => ⟨q.c0, q.c1, q.c2, q.c3, q.c4, q.c5, q.c6, q.c7, q.cl⟩) (HP.out.below D4.out h1 h2)
  simp only at x0 x1 x2 x3 x4 x5
  go_wp2_with fail
  refine (varint_w wb.heap.size g v4 (((([] ++ [82]) ++ [op]) ++ [code]) ++ Uv.uv id) off _ V4.out HO.out (by have := LID.out; have := LZ1.out; have := LZ2.out; have := LN.out; have := LR.out; have := LNS.out; have := HT.out; simp only [List.length_append, List.length_cons, List.length_nil]; omega) D4.out.size).mono ?_
  intro e w5 hw
  obtain ⟨v5, rfl, h, b⟩ := hw.to' V4.out
  have V5 := Lib.hid h
  have D5 := Lib.hid (D4.out.trans b)
  clear hw h b V4 D4
  clear x0 x1 x2 x3 x4 x5 x6 x7 xl
  obtain ⟨x0, x1, x2, x3, x4, x5, x6, x7, xl⟩ : _ ∧ _ ∧ _ ∧ _ ∧ _ ∧ _ ∧ _ ∧ _ ∧ _ := (fun q : PG _ gr gl _ vr (.slice AN nn cn) (.slice AL nr cl) => ⟨q.c0, q.c1, q.c2, q.c3, q.c4, q.c5, q.c6, q.c7, q.cl⟩) (HP.out.below D5.out h1 h2)
  simp only at x0 x1 x2 x3 x4 x5
  go_wp2_with fail
  refine (varint_w wb.heap.size g v5 ((((([] ++ [82]) ++ [op]) ++ [code]) ++ Uv.uv id) ++ Uv.uv (Uv.zig off).toNat) num _ V5.out HU.out (by have := LID.out; have := LZ1.out; have := LZ2.out; have := LN.out; have := LR.out; have := LNS.out; have := HT.out; simp only [List.length_append, List.length_cons, List.length_nil]; omega) D5.out.size).mono ?_
  intro e w6 hw
  obtain ⟨v6, rfl, h, b⟩ := hw.to' V5.out
  have V6 := Lib.hid h
  have D6 := Lib.hid (D5.out.trans b)
  clear hw h b V5 D5
  clear x0 x1 x2 x3 x4 x5 x6 x7 xl
  obtain ⟨x0, x1, x2, x3, x4, x5, x6, x7, xl⟩ : _ ∧ _ ∧ _ ∧ _ ∧ _ ∧ _ ∧ _ ∧ _ ∧ _ := (fun q : PG _ gr gl _ vr (.slice AN nn cn) (.slice AL nr cl) => ⟨q.c0, q.c1, q.c2, q.c3, q.c4, q.c5, q.c6, q.c7, q.cl⟩) (HP.out.below D6.out h1 h2)
  simp only at x0 x1 x2 x3 x4 x5
  go_upto_if 34 with (fail)
  go_cut [] from 8 (fun wx => ∃ v', Wr wb.heap.size wx 106 g v' ([82, op] ++ [code] ++ Uv.uv id ++ Uv.uv (Uv.zig off).toNat ++ Uv.uv (Uv.zig num).toNat ++ [if more = true then 1 else 0]) ∧ Below wb.heap.size wb wx)
  case first =>
    cases more with
    | true =>
      go_wp2_with fail
      refine (byte_is wb.heap.size g v6 (((((([] ++ [82]) ++ [op]) ++ [code]) ++ Uv.uv id) ++ Uv.uv (Uv.zig off).toNat) ++ Uv.uv (Uv.zig num).toNat) 1 _ V6.out (by have := LID.out; have := LZ1.out; have := LZ2.out; have := LN.out; have := LR.out; have := LNS.out; have := HT.out; simp only [List.length_append, List.length_cons, List.length_nil]; omega) D6.out.size).mono ?_
      intro e wn hw
      obtain ⟨vn, rfl, h, b⟩ := hw.to' V6.out
      have VN := Lib.hid h
      have DN := Lib.hid (D6.out.trans b)
      clear hw h b
      go_wp2_with fail
      go_meet
      case rel => exact ⟨vn, by have := VN.out; simpa using this, DN.out⟩
    | false =>
      go_wp2_with fail
      refine (byte_is wb.heap.size g v6 (((((([] ++ [82]) ++ [op]) ++ [code]) ++ Uv.uv id) ++ Uv.uv (Uv.zig off).toNat) ++ Uv.uv (Uv.zig num).toNat) 0 _ V6.out (by have := LID.out; have := LZ1.out; have := LZ2.out; have := LN.out; have := LR.out; have := LNS.out; have := HT.out; simp only [List.length_append, List.length_cons, List.length_nil]; omega) D6.out.size).mono ?_
      intro e wn hw
      obtain ⟨vn, rfl, h, b⟩ := hw.to' V6.out
      have VN := Lib.hid h
      have DN := Lib.hid (D6.out.trans b)
      clear hw h b
      go_wp2_with fail
      go_meet
      case rel => exact ⟨vn, by have := VN.out; simpa using this, DN.out⟩
  case' rest => obtain ⟨v7, hvn, hdn⟩ := hcut; have V7 := Lib.hid hvn; have D7 := Lib.hid hdn; clear x0 x1 x2 x3 x4 x5 x6 x7 xl; clear hvn hdn V6 D6
  obtain ⟨x0, x1, x2, x3, x4, x5, x6, x7, xl⟩ : _ ∧ _ ∧ _ ∧ _ ∧ _ ∧ _ ∧ _ ∧ _ ∧ _ := (fun q : PG _ gr gl _ vr (.slice AN nn cn) (.slice AL nr cl) => ⟨q.c0, q.c1, q.c2, q.c3, q.c4, q.c5, q.c6, q.c7, q.cl⟩) (HP.out.below D7.out h1 h2)
  simp only at x0 x1 x2 x3 x4 x5
  go_wp2_with fail
  refine (uvarint_w wb.heap.size g v7 ([82, op] ++ [code] ++ Uv.uv id ++ Uv.uv (Uv.zig off).toNat ++ Uv.uv (Uv.zig num).toNat ++ [if more = true then 1 else 0]) nn _ V7.out (by omega) (by have := LID.out; have := LZ1.out; have := LZ2.out; have := LN.out; have := LR.out; have := LNS.out; have := HT.out; simp only [List.length_append, List.length_cons, List.length_nil]; omega) D7.out.size).mono ?_
  intro e w8 hw
  obtain ⟨v8, rfl, h, b⟩ := hw.to' V7.out
  have V8 : Hid (Wr wb.heap.size w8 106 g v8 ([82, op] ++ [code] ++ Uv.uv id ++ Uv.uv (Uv.zig off).toNat ++ Uv.uv (Uv.zig num).toNat ++ [if more = true then 1 else 0] ++ Uv.uv nn ++ (names.take 0).flatMap txt)) := Lib.hid (by simpa using h)
  have D8 := Lib.hid (D7.out.trans b)
  clear hw h b V7 D7
  clear x0 x1 x2 x3 x4 x5 x6 x7 xl
  obtain ⟨x0, x1, x2, x3, x4, x5, x6, x7, xl⟩ : _ ∧ _ ∧ _ ∧ _ ∧ _ ∧ _ ∧ _ ∧ _ ∧ _ := (fun q : PG _ gr gl _ vr (.slice AN nn cn) (.slice AL nr cl) => ⟨q.c0, q.c1, q.c2, q.c3, q.c4, q.c5, q.c6, q.c7, q.cl⟩) (HP.out.below D8.out h1 h2)
  simp only at x0 x1 x2 x3 x4 x5
  go_wp2_with fail
  clear x0 x1 x2 x3 x4 x5 x6 x7 xl
  go_loopw [48] (fun i wr => ∃ j : Nat, j ≤ nn ∧ i = .int .i64 j ∧ (∃ v', Wr wb.heap.size wr 106 g v' ([82, op] ++ [code] ++ Uv.uv id ++ Uv.uv (Uv.zig off).toNat ++ Uv.uv (Uv.zig num).toNat ++ [if more = true then 1 else 0] ++ Uv.uv nn ++ (names.take j).flatMap txt)) ∧ Below wb.heap.size wb wr) (fun i _ => nn - (intOf i).toNat)
  case atStart => exact ⟨0, Nat.zero_le _, rfl, ⟨v8, V8.out⟩, D8.out⟩
  case round =>
    obtain ⟨j, hj, rfl, ⟨vj, hv⟩, hd⟩ := hrel
    have VJ := Lib.hid hv
    have DJ := Lib.hid hd
    clear hv hd V8 D8
    by_cases hlt : j < nn
    · have i1 : (0 : Int) ≤ (j : Int) := by omega
      have i2 : (j : Int) < (nn : Int) := by omega
      obtain ⟨s, hs⟩ : ∃ s, names[j]? = some s := ⟨_, List.getElem?_eq_getElem (by rw [HNN.out]; exact hlt)⟩
      obtain ⟨g2, off2, rfl, hg2, hc2⟩ := (HRN.out.below DJ.out).val_ (strs_get hs)
      have HST := Lib.hid (flatT (f := txt) hs)
      have S24 := Lib.hid (H24.out s (List.mem_of_getElem? hs))
      have LTK := Lib.hid (flat_take_le (f := txt) names j)
      clear hs
      go_wp2_with fail
      refine (text_w wb.heap.size g vj ([82, op] ++ [code] ++ Uv.uv id ++ Uv.uv (Uv.zig off).toNat ++ Uv.uv (Uv.zig num).toNat ++ [if more = true then 1 else 0] ++ Uv.uv nn ++ (names.take j).flatMap txt) s _ VJ.out (by have := LID.out; have := LZ1.out; have := LZ2.out; have := LN.out; have := LNS.out; have := LTK.out; have := S24.out; simp only [List.length_append, List.length_cons, List.length_nil]; omega) DJ.out.size).mono ?_
      intro e yn hw
      obtain ⟨vn, rfl, h, bb⟩ := hw.to' VJ.out
      have VN := Lib.hid h
      have DN := Lib.hid (DJ.out.trans bb)
      clear hw h bb
      go_wp2_with fail
      go_roundw
      case rel => exact ⟨j + 1, by omega, by go_num, ⟨vn, by rw [HST.out]; have := VN.out; unfold txt at this ⊢; simpa only [List.append_assoc] using this⟩, DN.out⟩
      case measure => simp [intOf]; omega
    · have hj2 : j = nn := by omega
      have i2 : ¬ (j : Int) < (nn : Int) := by omega
      have hall : (names.take j) = names := List.take_of_length_le (by have := HNN.out; omega)
      have V9 : Hid (Wr wb.heap.size wr 106 g vj ([82, op] ++ [code] ++ Uv.uv id ++ Uv.uv (Uv.zig off).toNat ++ Uv.uv (Uv.zig num).toNat ++ [if more = true then 1 else 0] ++ Uv.uv nn ++ names.flatMap txt)) := Lib.hid (by have := VJ.out; rwa [hall] at this)
      clear hall hlt hj hj2 VJ
      obtain ⟨x0, x1, x2, x3, x4, x5, x6, x7, xl⟩ : _ ∧ _ ∧ _ ∧ _ ∧ _ ∧ _ ∧ _ ∧ _ ∧ _ := (fun q : PG _ gr gl _ vr (.slice AN nn cn) (.slice AL nr cl) => ⟨q.c0, q.c1, q.c2, q.c3, q.c4, q.c5, q.c6, q.c7, q.cl⟩) (HP.out.below DJ.out h1 h2)
      simp only at x0 x1 x2 x3 x4 x5
      go_wp2_with fail
      refine (uvarint_w wb.heap.size g vj ([82, op] ++ [code] ++ Uv.uv id ++ Uv.uv (Uv.zig off).toNat ++ Uv.uv (Uv.zig num).toNat ++ [if more = true then 1 else 0] ++ Uv.uv nn ++ names.flatMap txt) nr _ V9.out (by omega) (by have := LID.out; have := LZ1.out; have := LZ2.out; have := LN.out; have := LR.out; have := LNS.out; have := HT.out; simp only [List.length_append, List.length_cons, List.length_nil]; omega) DJ.out.size).mono ?_
      intro e w10 hw
      obtain ⟨v10, rfl, h, b⟩ := hw.to' V9.out
      have V10 : Hid (Wr wb.heap.size w10 106 g v10 ([82, op] ++ [code] ++ Uv.uv id ++ Uv.uv (Uv.zig off).toNat ++ Uv.uv (Uv.zig num).toNat ++ [if more = true then 1 else 0] ++ Uv.uv nn ++ names.flatMap txt ++ Uv.uv nr ++ (recs.take 0).flatMap encs)) := Lib.hid (by simpa using h)
      have D10 := Lib.hid (DJ.out.trans b)
      clear hw h b V9 DJ
      clear x0 x1 x2 x3 x4 x5 x6 x7 xl
      obtain ⟨x0, x1, x2, x3, x4, x5, x6, x7, xl⟩ : _ ∧ _ ∧ _ ∧ _ ∧ _ ∧ _ ∧ _ ∧ _ ∧ _ := (fun q : PG _ gr gl _ vr (.slice AN nn cn) (.slice AL nr cl) => ⟨q.c0, q.c1, q.c2, q.c3, q.c4, q.c5, q.c6, q.c7, q.cl⟩) (HP.out.below D10.out h1 h2)
      simp only at x0 x1 x2 x3 x4 x5
      go_wp2_with fail
      clear x0 x1 x2 x3 x4 x5 x6 x7 xl
      go_loopw [63] (fun i wr => ∃ j : Nat, j ≤ nr ∧ i = .int .i64 j ∧ (∃ v', Wr wb.heap.size wr 106 g v' ([82, op] ++ [code] ++ Uv.uv id ++ Uv.uv (Uv.zig off).toNat ++ Uv.uv (Uv.zig num).toNat ++ [if more = true then 1 else 0] ++ Uv.uv nn ++ names.flatMap txt ++ Uv.uv nr ++ (recs.take j).flatMap encs)) ∧ Below wb.heap.size wb wr) (fun i _ => nr - (intOf i).toNat)
      case atStart => exact ⟨0, Nat.zero_le _, rfl, ⟨v10, V10.out⟩, D10.out⟩
      case round =>
        obtain ⟨k, hk, rfl, ⟨vk, hv⟩, hd⟩ := hrel
        have VK := Lib.hid hv
        have DK := Lib.hid hd
        clear hv hd V10 D10
        by_cases hlt2 : k < nr
        · have i3 : (0 : Int) ≤ (k : Int) := by omega
          have i4 : (k : Int) < (nr : Int) := by omega
          obtain ⟨r, hr⟩ : ∃ s, recs[k]? = some s := ⟨_, List.getElem?_eq_getElem (by rw [HNR.out]; exact hlt2)⟩
          obtain ⟨AK, ck, hvk, hrk⟩ := HSL.out.2 k (encs r) (by rw [List.getElem?_map, hr]; rfl)
          obtain ⟨g3, off3, rfl, hg3, hc3⟩ := (HRL.out.below DK.out).val_ hvk
          have HST := Lib.hid (flatT (f := encs) hr)
          have LTK := Lib.hid (flat_take_le (f := encs) recs (k + 1))
          have HRK := Lib.hid (hrk.below DK.out)
          obtain ⟨m, hm⟩ : ∃ m, (encs r).length = m := ⟨_, rfl⟩
          have HMM := Lib.hid hm
          rw [hm] at hc3
          clear hr hvk hrk hm
          go_wp2_with fail
          refine (raw_is wb.heap.size g vk ([82, op] ++ [code] ++ Uv.uv id ++ Uv.uv (Uv.zig off).toNat ++ Uv.uv (Uv.zig num).toNat ++ [if more = true then 1 else 0] ++ Uv.uv nn ++ names.flatMap txt ++ Uv.uv nr ++ (recs.take k).flatMap encs) AK m ck (encs r) _ VK.out HRK.out HMM.out (by have := LID.out; have := LZ1.out; have := LZ2.out; have := LN.out; have := LNS.out; have := LR.out; have h1 := LTK.out; have := HT.out; rw [HST.out, List.length_append, HMM.out] at h1; simp only [List.length_append, List.length_cons, List.length_nil]; omega) DK.out.size).mono ?_
          intro e yn hw
          obtain ⟨vn, rfl, h, bb⟩ := hw.to' VK.out
          have VN := Lib.hid h
          have DN := Lib.hid (DK.out.trans bb)
          clear hw h bb
          go_wp2_with fail
          go_roundw
          case rel => exact ⟨k + 1, by omega, by go_num, ⟨vn, by rw [HST.out]; have := VN.out; simpa only [List.append_assoc] using this⟩, DN.out⟩
          case measure => simp [intOf]; omega
        · have i4 : ¬ (k : Int) < (nr : Int) := by omega
          have hall : (recs.take k) = recs := List.take_of_length_le (by have := HNR.out; omega)
          have VE : Hid (Wr wb.heap.size wr 106 g vk X) := Lib.hid (by rw [HQ.out]; have := VK.out; rwa [hall] at this)
          clear hall hlt2 hk VK
          go_wp2_with fail
          go_end0
          exact ⟨rfl, ⟨vk, VE.out⟩, DK.out⟩
end Go.Proofs.YtljfmcgeiceagaaGreat
