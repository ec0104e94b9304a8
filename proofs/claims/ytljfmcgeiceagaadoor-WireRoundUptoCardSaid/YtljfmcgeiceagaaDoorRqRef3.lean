/- The document's EncodeRequest (printed by gen_rqref3.py). -/
import Derived.Test.YtljfmcgeiceagaaDoorRqRef2
namespace Go.Proofs.YtljfmcgeiceagaaDoor
open Go Go.RowKit
set_option linter.unusedVariables false
set_option linter.unusedSimpArgs false

/-- What a letter writes. -/
def partL (t k v : ByteArray) (o n p s : Nat) (l : Nat) : List Nat :=
  if l = 84 then Uv.uv t.size ++ sb t else if l = 75 then Uv.uv k.size ++ sb k else if l = 86 then Uv.uv v.size ++ sb v else if l = 79 then Uv.uv o else if l = 78 then Uv.uv n else if l = 80 then Uv.uv p else if l = 83 then Uv.uv s else []
theorem partL_len {t k v : ByteArray} {o n p s l : Nat} (h1 : t.size ≤ 24) (h2 : k.size ≤ 64) (h3 : v.size ≤ 1024) (h4 : o < 9223372036854775808) (h5 : n < 9223372036854775808) (h6 : p < 9223372036854775808) (h7 : s < 9223372036854775808) : (partL t k v o n p s l).length ≤ 1036 := by
  have a1 := Uv.uv_len_pow 8 t.size (by omega)
  have a2 := Uv.uv_len_pow 8 k.size (by omega)
  have a3 := Uv.uv_len_pow 8 v.size (by omega)
  have a4 := Uv.uv_len_pow 8 o (by omega)
  have a5 := Uv.uv_len_pow 8 n (by omega)
  have a6 := Uv.uv_len_pow 8 p (by omega)
  have a7 := Uv.uv_len_pow 8 s (by omega)
  unfold partL
  repeat' split
  all_goals ((try simp only [List.length_append, List.length_nil, sb_length]); omega)
theorem flq_len {f : Nat → List Nat} (hf : ∀ l, (f l).length ≤ 1036) : ∀ ls : List Nat, (ls.flatMap f).length ≤ ls.length * 1036 := by
  intro ls
  induction ls with
  | nil => simp
  | cons a r ih =>
    rw [List.flatMap_cons, List.length_append, List.length_cons]
    have := hf a
    omega
theorem flq_step {f : Nat → List Nat} {ls : List Nat} {k c : Nat} (h : ls[k]? = some c) : (ls.take (k + 1)).flatMap f = (ls.take k).flatMap f ++ f c := by
  rw [List.take_add_one, h]
  simp [List.flatMap_append]
theorem enc_letters {op : Nat} (h1 : 1 ≤ op) (h16 : op < 16) (t k v : ByteArray) (o n p s : Nat) :
    (usL (op : Int)).flatMap (partL t k v o n p s) = tf (useB op) 1 t ++ tf (useB op) 2 k ++ tf (useB op) 4 v ++ nf (useB op) 8 o ++ nf (useB op) 16 n ++ nf (useB op) 32 p ++ nf (useB op) 64 s := by
  rcases (show op = 1 ∨ op = 2 ∨ op = 3 ∨ op = 4 ∨ op = 5 ∨ op = 6 ∨ op = 7 ∨ op = 8 ∨ op = 9 ∨ op = 10 ∨ op = 11 ∨ op = 12 ∨ op = 13 ∨ op = 14 ∨ op = 15 by omega) with rfl | rfl | rfl | rfl | rfl | rfl | rfl | rfl | rfl | rfl | rfl | rfl | rfl | rfl | rfl <;> simp [usL, partL, tf, nf, useB, hasb]
theorem usL_letters {op : Int} (h : 1 ≤ op ∧ op < 16) : ∀ c ∈ usL op, c = 84 ∨ c = 75 ∨ c = 86 ∨ c = 79 ∨ c = 78 ∨ c = 80 ∨ c = 83 := by
  intro c hc
  unfold usL at hc
  repeat' split at hc
  all_goals (simp only [List.mem_cons, List.not_mem_nil, or_false] at hc; try omega)
set_option maxHeartbeats 8000000 in
set_option maxRecDepth 100000 in
theorem rencodeq_may (id op : Nat) (t k v : ByteArray) (o n p s : Nat) (w : World) (hm : MayQ ⟨id, op, t, k, v, o, n, p, s⟩) (hk : Rq.Ok ⟨id, op, t, k, v, o, n, p, s⟩) :
    Calls Tryd.prog 10 #[.agg #[.int .u32 (id : Int), .int .i64 (op : Int), .string t, .string k, .string v, .int .i64 (o : Int), .int .i64 (n : Int), .int .i64 (p : Int), .int .i64 (s : Int)]] w (FramePost w (wrap 197 (bdyq ⟨id, op, t, k, v, o, n, p, s⟩), 0)) := by
  have PC := Lib.hid (fun W => rcheckq_is ⟨id, op, t, k, v, o, n, p, s⟩ W)
  rw [chkq_yes hm] at PC
  unfold Rq.V at PC
  simp only at PC
  have PU := Lib.hid (fun W => uses16_is (op : Int) W)
  have hop := hm.op
  simp only at hop
  have e2 := (gdT_le hm.t).1
  have e3 := (gdT_le hm.k).1
  have e4 := (gdT_le hm.v).1
  have hby := bdyq_by hm
  have hlen := bdyq_len hm hk
  obtain ⟨a1, _, _, _, _, a6, a7, a8, a9⟩ := hk
  unfold r64 at a6 a7 a8 a9
  simp only at a1 a6 a7 a8 a9 e2 e3 e4
  have hlet := usL_letters hop
  have hfl := fun ls => flq_len (fun l => partL_len (t := t) (k := k) (v := v) (o := o) (n := n) (p := p) (s := s) (l := l) e2 e3 e4 (by omega) (by omega) (by omega) (by omega)) ls
  have hq : bdyq ⟨id, op, t, k, v, o, n, p, s⟩ = [81, op] ++ Uv.uv id ++ (usL (op : Int)).flatMap (partL t k v o n p s) := by
    rw [enc_letters (by omega) (by omega)]
    simp only [bdyq, Int.toNat_natCast, List.append_assoc]
  have hul := usL_len (op : Int)
  have hus := usS_size (op : Int)
  have hsb := sb_usS (op : Int)
  obtain ⟨U, hU⟩ : ∃ U, U = usS (op : Int) := ⟨_, rfl⟩
  obtain ⟨LL, hLL⟩ : ∃ U, U = usL (op : Int) := ⟨_, rfl⟩
  rw [← hU] at PU hus hsb
  rw [← hLL] at hlet hq hul hus hsb
  obtain ⟨B, hB⟩ : ∃ B, B = bdyq ⟨id, op, t, k, v, o, n, p, s⟩ := ⟨_, rfl⟩
  rw [← hB] at hby hlen hq ⊢
  have HY := Lib.hid hby
  have HL := Lib.hid hlen
  have HQ := Lib.hid hq
  have HFL := Lib.hid hfl
  have HLET := Lib.hid hlet
  have HSB := Lib.hid hsb
  have hU5 : U.size ≤ 5 := by omega
  have HUL : Hid (LL.length = U.size) := Lib.hid hus.symm
  have HF : Hid (frm B = (wrap 197 B, 0)) := Lib.hid (by unfold frm; rw [if_neg (by omega), if_neg (by omega)])
  have hw1 : IntKind.u8.wrap (op : Int) = (op : Int) := by rw [IntKind.wrap_u8]; omega
  have hw3 : IntKind.u64.wrap (id : Int) = (id : Int) := by rw [IntKind.wrap_u64]; omega
  have hw_o : IntKind.u64.wrap (o : Int) = (o : Int) := by rw [IntKind.wrap_u64]; omega
  have hw_n : IntKind.u64.wrap (n : Int) = (n : Int) := by rw [IntKind.wrap_u64]; omega
  have hw_p : IntKind.u64.wrap (p : Int) = (p : Int) := by rw [IntKind.wrap_u64]; omega
  have hw_s : IntKind.u64.wrap (s : Int) = (s : Int) := by rw [IntKind.wrap_u64]; omega
  have L0 : Hid ((Uv.uv id).length ≤ 5) := Lib.hid (Uv.uv_len_pow 4 id (by omega))
  have St : Hid (t.size ≤ 1024) := Lib.hid (by omega)
  have Sk : Hid (k.size ≤ 1024) := Lib.hid (by omega)
  have Sv : Hid (v.size ≤ 1024) := Lib.hid (by omega)
  have So : Hid (o < 18446744073709551616) := Lib.hid (by omega)
  have Sn : Hid (n < 18446744073709551616) := Lib.hid (by omega)
  have Sp : Hid (p < 18446744073709551616) := Lib.hid (by omega)
  have Ss : Hid (s < 18446744073709551616) := Lib.hid (by omega)
  have SI : Hid (id < 18446744073709551616) := Lib.hid (by omega)
  clear hm hop e2 e3 e4 a1 a6 a7 a8 a9 hlet hfl hq hul hus hsb hU hLL hB hby hlen
  have HX0 := Lib.hid (show QBox _ w.heap.size ⟨id, op, t, k, v, o, n, p, s⟩ from heap_alloc_new w _)
  have HB0 := Lib.hid ((Below.refl w.heap.size w).alloc (Nat.le_refl _) (.cells #[.int .u32 (id : Int), .int .i64 (op : Int), .string t, .string k, .string v, .int .i64 (o : Int), .int .i64 (n : Int), .int .i64 (p : Int), .int .i64 (s : Int)] 24))
  go_enter Tryd.func10, Tryd.ntmps10
  go_wp2_with fail
  refine (PC.out _).mono ?_
  rintro e w1 ⟨rfl, hb1⟩
  have HX1 := Lib.hid (HX0.out.below hb1 (by simp))
  have HB1 := Lib.hid (HB0.out.trans (hb1.mono (by simp)))
  have hg : w.heap.size < w1.heap.size := HX1.out.lt
  clear hb1 HX0 HB0 PC
  obtain ⟨x0, x1, x2, x3, x4, x5, x6, x7, x8⟩ := HX1.out.facts
  simp only at x0 x1 x2 x3 x4 x5 x6 x7 x8
  go_wp2_with fail
  refine (PU.out _).mono ?_
  rintro e w1' ⟨rfl, rfl⟩
  go_wp2_with fail
  refine (rnew_is w1).mono ?_
  rintro e w2 ⟨rfl, hw2⟩
  have V1 : Hid (Wr w1.heap.size w2 101 w1.heap.size (.slice none 0 0) []) := Lib.hid (by rw [hw2]; exact rnew_wr w1.heap.size w1 (Nat.le_refl _))
  have D1 : Hid (Below w1.heap.size w1 w2) := Lib.hid (by rw [hw2]; exact (Below.refl _ _).alloc (Nat.le_refl _) _)
  clear hw2 PU x0 x1 x2 x3 x4 x5 x6 x7 x8
  obtain ⟨x0, x1, x2, x3, x4, x5, x6, x7, x8⟩ := (HX1.out.below D1.out hg).facts
  simp only at x0 x1 x2 x3 x4 x5 x6 x7 x8
  go_wp2_with fail
  refine (rbyte_is w1.heap.size w1.heap.size (.slice none 0 0) [] 81 w2 V1.out (by simp) D1.out.size).mono ?_
  intro e y2 hw
  obtain ⟨v2, rfl, h, bb⟩ := hw.to' V1.out
  have V2 := Lib.hid h
  have D2 := Lib.hid (D1.out.trans bb)
  clear hw h bb
  clear x0 x1 x2 x3 x4 x5 x6 x7 x8
  obtain ⟨x0, x1, x2, x3, x4, x5, x6, x7, x8⟩ := (HX1.out.below D2.out hg).facts
  simp only at x0 x1 x2 x3 x4 x5 x6 x7 x8
  go_wp2_with fail
  refine (rbyte_is w1.heap.size w1.heap.size v2 ([] ++ [81]) op _ V2.out (by simp) D2.out.size).mono ?_
  intro e y3 hw
  obtain ⟨v3, rfl, h, bb⟩ := hw.to' V2.out
  have V3 := Lib.hid h
  have D3 := Lib.hid (D2.out.trans bb)
  clear hw h bb
  clear x0 x1 x2 x3 x4 x5 x6 x7 x8
  obtain ⟨x0, x1, x2, x3, x4, x5, x6, x7, x8⟩ := (HX1.out.below D3.out hg).facts
  simp only at x0 x1 x2 x3 x4 x5 x6 x7 x8
  go_wp2_with fail
  refine (ruvarint_w w1.heap.size w1.heap.size v3 ([] ++ [81] ++ [op]) id _ V3.out SI.out (by simp) D3.out.size).mono ?_
  intro e y4 hw
  obtain ⟨v4, rfl, h, bb⟩ := hw.to' V3.out
  have V4 := Lib.hid h
  have D4 := Lib.hid (D3.out.trans bb)
  clear hw h bb
  clear x0 x1 x2 x3 x4 x5 x6 x7 x8
  have V4c : Hid (Wr w1.heap.size y4 101 w1.heap.size v4 ([81, op] ++ Uv.uv id ++ (LL.take 0).flatMap (partL t k v o n p s))) := Lib.hid (by have := V4.out; simpa using this)
  clear V1 V2 V3 V4 D1 D2 D3
  go_wp2_with fail
  go_loopw [7] (fun i wr => ∃ j : Nat, j ≤ U.size ∧ i = .int .i64 j ∧ (∃ v', Wr w1.heap.size wr 101 w1.heap.size v' ([81, op] ++ Uv.uv id ++ (LL.take j).flatMap (partL t k v o n p s))) ∧ Below w1.heap.size w1 wr) (fun i _ => U.size - (intOf i).toNat)
  case atStart => exact ⟨0, Nat.zero_le _, rfl, ⟨v4, V4c.out⟩, D4.out⟩
  case round =>
    obtain ⟨j, hj, rfl, ⟨vj, hv⟩, hd⟩ := hrel
    have VJ := Lib.hid hv
    have DJ := Lib.hid hd
    clear hv hd V4c D4
    by_cases hlt : j < U.size
    · have i1 : (0 : Int) ≤ (j : Int) := by omega
      have i2 : (j : Int) < (U.size : Int) := by omega
      have hget := sb_get U j hlt
      rw [HSB.out] at hget
      have HST := Lib.hid (flq_step (f := partL t k v o n p s) hget)
      have LJ : Hid (((LL.take j).flatMap (partL t k v o n p s)).length ≤ 6000) := Lib.hid (by have := HFL.out (LL.take j); rw [List.length_take] at this; omega)
      have hcs := HLET.out _ (List.mem_of_getElem? hget)
      clear hget
      obtain ⟨x0, x1, x2, x3, x4, x5, x6, x7, x8⟩ := (HX1.out.below DJ.out hg).facts
      simp only at x0 x1 x2 x3 x4 x5 x6 x7 x8
      rcases hcs with hc | hc | hc | hc | hc | hc | hc
      · have e84 : ((U[j].toNat : Int) == 84) = true := by rw [hc]; rfl
        have HPL : Hid (partL t k v o n p s U[j].toNat = Uv.uv t.size ++ sb t) := Lib.hid (by rw [hc]; rfl)
        clear hc
        go_wp2_with fail
        refine (rtext_w w1.heap.size w1.heap.size vj ([81, op] ++ Uv.uv id ++ (LL.take j).flatMap (partL t k v o n p s)) t _ VJ.out (by have := L0.out; have := LJ.out; have := St.out; simp only [List.length_append, List.length_cons, List.length_nil]; omega) DJ.out.size).mono ?_
        intro e yn hw
        obtain ⟨vn, rfl, h, bb⟩ := hw.to' VJ.out
        have VN := Lib.hid h
        have DN := Lib.hid (DJ.out.trans bb)
        clear hw h bb
        go_wp2_with fail
        go_roundw
        case rel => exact ⟨j + 1, by omega, by go_num, ⟨vn, by rw [HST.out, HPL.out]; have := VN.out; simpa only [List.append_assoc] using this⟩, DN.out⟩
        case measure => simp [intOf]; omega
      · have e84 : ((U[j].toNat : Int) == 84) = false := by rw [hc]; rfl
        have e75 : ((U[j].toNat : Int) == 75) = true := by rw [hc]; rfl
        have HPL : Hid (partL t k v o n p s U[j].toNat = Uv.uv k.size ++ sb k) := Lib.hid (by rw [hc]; rfl)
        clear hc
        go_wp2_with fail
        refine (rtext_w w1.heap.size w1.heap.size vj ([81, op] ++ Uv.uv id ++ (LL.take j).flatMap (partL t k v o n p s)) k _ VJ.out (by have := L0.out; have := LJ.out; have := Sk.out; simp only [List.length_append, List.length_cons, List.length_nil]; omega) DJ.out.size).mono ?_
        intro e yn hw
        obtain ⟨vn, rfl, h, bb⟩ := hw.to' VJ.out
        have VN := Lib.hid h
        have DN := Lib.hid (DJ.out.trans bb)
        clear hw h bb
        go_wp2_with fail
        go_roundw
        case rel => exact ⟨j + 1, by omega, by go_num, ⟨vn, by rw [HST.out, HPL.out]; have := VN.out; simpa only [List.append_assoc] using this⟩, DN.out⟩
        case measure => simp [intOf]; omega
      · have e84 : ((U[j].toNat : Int) == 84) = false := by rw [hc]; rfl
        have e75 : ((U[j].toNat : Int) == 75) = false := by rw [hc]; rfl
        have e86 : ((U[j].toNat : Int) == 86) = true := by rw [hc]; rfl
        have HPL : Hid (partL t k v o n p s U[j].toNat = Uv.uv v.size ++ sb v) := Lib.hid (by rw [hc]; rfl)
        clear hc
        go_wp2_with fail
        refine (rtext_w w1.heap.size w1.heap.size vj ([81, op] ++ Uv.uv id ++ (LL.take j).flatMap (partL t k v o n p s)) v _ VJ.out (by have := L0.out; have := LJ.out; have := Sv.out; simp only [List.length_append, List.length_cons, List.length_nil]; omega) DJ.out.size).mono ?_
        intro e yn hw
        obtain ⟨vn, rfl, h, bb⟩ := hw.to' VJ.out
        have VN := Lib.hid h
        have DN := Lib.hid (DJ.out.trans bb)
        clear hw h bb
        go_wp2_with fail
        go_roundw
        case rel => exact ⟨j + 1, by omega, by go_num, ⟨vn, by rw [HST.out, HPL.out]; have := VN.out; simpa only [List.append_assoc] using this⟩, DN.out⟩
        case measure => simp [intOf]; omega
      · have e84 : ((U[j].toNat : Int) == 84) = false := by rw [hc]; rfl
        have e75 : ((U[j].toNat : Int) == 75) = false := by rw [hc]; rfl
        have e86 : ((U[j].toNat : Int) == 86) = false := by rw [hc]; rfl
        have e79 : ((U[j].toNat : Int) == 79) = true := by rw [hc]; rfl
        have HPL : Hid (partL t k v o n p s U[j].toNat = Uv.uv o) := Lib.hid (by rw [hc]; rfl)
        clear hc
        go_wp2_with fail
        refine (ruvarint_w w1.heap.size w1.heap.size vj ([81, op] ++ Uv.uv id ++ (LL.take j).flatMap (partL t k v o n p s)) o _ VJ.out So.out (by have := L0.out; have := LJ.out; have := So.out; simp only [List.length_append, List.length_cons, List.length_nil]; omega) DJ.out.size).mono ?_
        intro e yn hw
        obtain ⟨vn, rfl, h, bb⟩ := hw.to' VJ.out
        have VN := Lib.hid h
        have DN := Lib.hid (DJ.out.trans bb)
        clear hw h bb
        go_wp2_with fail
        go_roundw
        case rel => exact ⟨j + 1, by omega, by go_num, ⟨vn, by rw [HST.out, HPL.out]; have := VN.out; simpa only [List.append_assoc] using this⟩, DN.out⟩
        case measure => simp [intOf]; omega
      · have e84 : ((U[j].toNat : Int) == 84) = false := by rw [hc]; rfl
        have e75 : ((U[j].toNat : Int) == 75) = false := by rw [hc]; rfl
        have e86 : ((U[j].toNat : Int) == 86) = false := by rw [hc]; rfl
        have e79 : ((U[j].toNat : Int) == 79) = false := by rw [hc]; rfl
        have e78 : ((U[j].toNat : Int) == 78) = true := by rw [hc]; rfl
        have HPL : Hid (partL t k v o n p s U[j].toNat = Uv.uv n) := Lib.hid (by rw [hc]; rfl)
        clear hc
        go_wp2_with fail
        refine (ruvarint_w w1.heap.size w1.heap.size vj ([81, op] ++ Uv.uv id ++ (LL.take j).flatMap (partL t k v o n p s)) n _ VJ.out Sn.out (by have := L0.out; have := LJ.out; have := Sn.out; simp only [List.length_append, List.length_cons, List.length_nil]; omega) DJ.out.size).mono ?_
        intro e yn hw
        obtain ⟨vn, rfl, h, bb⟩ := hw.to' VJ.out
        have VN := Lib.hid h
        have DN := Lib.hid (DJ.out.trans bb)
        clear hw h bb
        go_wp2_with fail
        go_roundw
        case rel => exact ⟨j + 1, by omega, by go_num, ⟨vn, by rw [HST.out, HPL.out]; have := VN.out; simpa only [List.append_assoc] using this⟩, DN.out⟩
        case measure => simp [intOf]; omega
      · have e84 : ((U[j].toNat : Int) == 84) = false := by rw [hc]; rfl
        have e75 : ((U[j].toNat : Int) == 75) = false := by rw [hc]; rfl
        have e86 : ((U[j].toNat : Int) == 86) = false := by rw [hc]; rfl
        have e79 : ((U[j].toNat : Int) == 79) = false := by rw [hc]; rfl
        have e78 : ((U[j].toNat : Int) == 78) = false := by rw [hc]; rfl
        have e80 : ((U[j].toNat : Int) == 80) = true := by rw [hc]; rfl
        have HPL : Hid (partL t k v o n p s U[j].toNat = Uv.uv p) := Lib.hid (by rw [hc]; rfl)
        clear hc
        go_wp2_with fail
        refine (ruvarint_w w1.heap.size w1.heap.size vj ([81, op] ++ Uv.uv id ++ (LL.take j).flatMap (partL t k v o n p s)) p _ VJ.out Sp.out (by have := L0.out; have := LJ.out; have := Sp.out; simp only [List.length_append, List.length_cons, List.length_nil]; omega) DJ.out.size).mono ?_
        intro e yn hw
        obtain ⟨vn, rfl, h, bb⟩ := hw.to' VJ.out
        have VN := Lib.hid h
        have DN := Lib.hid (DJ.out.trans bb)
        clear hw h bb
        go_wp2_with fail
        go_roundw
        case rel => exact ⟨j + 1, by omega, by go_num, ⟨vn, by rw [HST.out, HPL.out]; have := VN.out; simpa only [List.append_assoc] using this⟩, DN.out⟩
        case measure => simp [intOf]; omega
      · have e84 : ((U[j].toNat : Int) == 84) = false := by rw [hc]; rfl
        have e75 : ((U[j].toNat : Int) == 75) = false := by rw [hc]; rfl
        have e86 : ((U[j].toNat : Int) == 86) = false := by rw [hc]; rfl
        have e79 : ((U[j].toNat : Int) == 79) = false := by rw [hc]; rfl
        have e78 : ((U[j].toNat : Int) == 78) = false := by rw [hc]; rfl
        have e80 : ((U[j].toNat : Int) == 80) = false := by rw [hc]; rfl
        have e83 : ((U[j].toNat : Int) == 83) = true := by rw [hc]; rfl
        have HPL : Hid (partL t k v o n p s U[j].toNat = Uv.uv s) := Lib.hid (by rw [hc]; rfl)
        clear hc
        go_wp2_with fail
        refine (ruvarint_w w1.heap.size w1.heap.size vj ([81, op] ++ Uv.uv id ++ (LL.take j).flatMap (partL t k v o n p s)) s _ VJ.out Ss.out (by have := L0.out; have := LJ.out; have := Ss.out; simp only [List.length_append, List.length_cons, List.length_nil]; omega) DJ.out.size).mono ?_
        intro e yn hw
        obtain ⟨vn, rfl, h, bb⟩ := hw.to' VJ.out
        have VN := Lib.hid h
        have DN := Lib.hid (DJ.out.trans bb)
        clear hw h bb
        go_wp2_with fail
        go_roundw
        case rel => exact ⟨j + 1, by omega, by go_num, ⟨vn, by rw [HST.out, HPL.out]; have := VN.out; simpa only [List.append_assoc] using this⟩, DN.out⟩
        case measure => simp [intOf]; omega
    · have hj2 : j = U.size := by omega
      have i2 : ¬ (j : Int) < (U.size : Int) := by omega
      have hall : (LL.take j) = LL := List.take_of_length_le (by have := HUL.out; omega)
      have VE : Hid (Wr w1.heap.size wr 101 w1.heap.size vj B) := Lib.hid (by rw [HQ.out]; have := VJ.out; rwa [hall] at this)
      clear hall hlt hj hj2 VJ HLET HFL
      go_wp2_with fail
      refine (rbytes_w w1.heap.size w1.heap.size vj _ wr VE.out (by have := HL.out; omega)).mono ?_
      rintro e w3 ⟨A3, c3, rfl, ho3, hb3⟩
      have HO3 := Lib.hid ho3
      have B3 := Lib.hid (DJ.out.trans (hb3.mono DJ.out.size))
      clear ho3 hb3
      have PF := rframe_is A3 B.length c3 B w3 (rd_own HO3.out) rfl HY.out (by have := HL.out; omega)
      rw [HF.out] at PF
      have PFF := Lib.hid PF
      clear PF
      go_wp2_with fail
      refine PFF.out.mono ?_
      rintro e w4 ⟨A4, c4, rfl, ho4, hb4⟩
      have HO4 := Lib.hid ho4
      have B4 := Lib.hid (HB1.out.trans ((B3.out.trans (hb4.mono B3.out.size)).mono (Nat.le_of_lt hg)))
      have hs : w.heap.size ≤ w3.heap.size := Nat.le_trans (Nat.le_of_lt hg) B3.out.size
      clear ho4 hb4 PFF
      go_wp2_with fail
      go_ret2
      exact ⟨A4, c4, rfl, own_lower HO4.out hs, B4.out⟩
set_option maxRecDepth 100000 in
theorem rencodeq_is (x : Rq) (w : World) (hk : x.Ok) :
    Calls Tryd.prog 10 #[x.V] w (FramePost w (renq x)) := by
  by_cases hm : MayQ x
  · have HQ : Hid (renq x = (wrap 197 (bdyq x), 0)) := Lib.hid (if_pos (okq_may.2 hm))
    obtain ⟨id, op, t, k, v, o, n, p, s⟩ := x
    have hop := hm.op
    obtain ⟨op, rfl⟩ : ∃ m : Nat, op = (m : Int) := ⟨op.toNat, by simp only at hop; omega⟩
    obtain ⟨o, rfl⟩ : ∃ m : Nat, o = (m : Int) := ⟨o.toNat, by have := (gdN_le hm.o).1; simp only at this; omega⟩
    obtain ⟨n, rfl⟩ : ∃ m : Nat, n = (m : Int) := ⟨n.toNat, by have := (gdN_le hm.n).1; simp only at this; omega⟩
    obtain ⟨p, rfl⟩ : ∃ m : Nat, p = (m : Int) := ⟨p.toNat, by have := (gdN_le hm.p).1; simp only at this; omega⟩
    obtain ⟨s, rfl⟩ : ∃ m : Nat, s = (m : Int) := ⟨s.toNat, by have := (gdN_le hm.s).1; simp only at this; omega⟩
    rw [HQ.out]
    exact rencodeq_may id op t k v o n p s w hm hk
  · have PC := Lib.hid (fun W => rcheckq_is x W)
    have HQ : Hid (renq x = ([], 161)) := Lib.hid (if_neg (fun e => hm (okq_may.1 e)))
    rw [chkq_no hm] at PC
    rw [HQ.out]
    obtain ⟨id, op, t, k, v, o, n, p, s⟩ := x
    unfold Rq.V at PC ⊢
    simp only at PC ⊢
    clear hm hk HQ
    have HB0 := Lib.hid ((Below.refl w.heap.size w).alloc (Nat.le_refl _) (.cells #[.int .u32 (id : Int), .int .i64 op, .string t, .string k, .string v, .int .i64 o, .int .i64 n, .int .i64 p, .int .i64 s] 24))
    go_enter Tryd.func10, Tryd.ntmps10
    go_wp2_with fail
    refine (PC.out _).mono ?_
    rintro e w1 ⟨rfl, hb1⟩
    have HB1 := Lib.hid (HB0.out.trans (hb1.mono (by simp)))
    clear hb1
    go_wp2_with fail
    go_ret2
    exact ⟨none, 0, rfl, World.ownsRow_nil _ _ _ _, HB1.out⟩
end Go.Proofs.YtljfmcgeiceagaaDoor
