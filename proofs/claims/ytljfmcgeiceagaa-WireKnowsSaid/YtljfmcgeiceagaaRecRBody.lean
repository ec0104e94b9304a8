/- The body of a record: the document (printed by gen_rcbody.py). -/
import Derived.Test.YtljfmcgeiceagaaRecBody
namespace Go.Proofs.Ytljfmcgeiceagaa
open Go Go.RowKit
set_option linter.unusedVariables false
set_option linter.unusedSimpArgs false

set_option maxHeartbeats 2000000 in
set_option maxRecDepth 100000 in
theorem rrecbody_2ftt (x : Rc) (w : World) (hm : May x) (kk : x.k = 2) (c2 : (shrt (sb x.val)).2 = false) (hp : 0 < x.p) (c4 : (enc (sb x.val)).2 = 0) : Calls Try.prog 82 #[x.v] w fun e w' => Got8 w w' e (bdy x) := by
  obtain ⟨k, o, t, p, s, key, val⟩ := x
  obtain ⟨m1, m2, m3, m4, m5, m6, m7, m8, m9⟩ := hm
  simp only at m1 m2 m3 m4 m5 m6 m7 m8 m9
  obtain ⟨o, rfl⟩ : ∃ n : Nat, o = (n : Int) := ⟨o.toNat, by omega⟩
  obtain ⟨t, rfl⟩ : ∃ n : Nat, t = (n : Int) := ⟨t.toNat, by omega⟩
  obtain ⟨p, rfl⟩ : ∃ n : Nat, p = (n : Int) := ⟨p.toNat, by omega⟩
  obtain ⟨s, rfl⟩ : ∃ n : Nat, s = (n : Int) := ⟨s.toNat, by omega⟩
  obtain ⟨q, hq⟩ : ∃ q, shrt (sb val) = q := ⟨_, rfl⟩
  obtain ⟨ys, sm⟩ := q
  have hyl : ys.length ≤ 1024 := by have h := shrt_len (sb val); rw [hq, sb_length] at h; simp only at h; omega
  have hsm : k = 2 → sm = false := fun h => by
    have h0 := m9 h
    cases sm with
    | false => rfl
    | true =>
      have h1 := hq
      unfold shrt at h1
      rw [sb_length, h0] at h1
      rw [if_neg (by omega)] at h1
      simp at h1
  have HQ := Lib.hid hq
  have HBD : Hid (∀ F N, flg ⟨k, o, t, p, s, key, val⟩ = F → nums ⟨k, o, t, p, s, key, val⟩ = N → bdy ⟨k, o, t, p, s, key, val⟩ = [F] ++ Uv.uv o ++ Uv.uv t ++ N ++ Uv.uv key.size ++ sb key ++ ys) := Lib.hid (fun F N h1 h2 => by unfold bdy; rw [h1, h2]; simp only [hq, Int.toNat_natCast])
  have hlo := Uv.uv_len_64 o (by omega)
  have hlt := Uv.uv_len_64 t (by omega)
  have hlp := Uv.uv_len_64 p (by omega)
  have hls := Uv.uv_len_64 s (by omega)
  have hlk := Uv.uv_len_64 key.size (by omega)
  unfold Rc.v
  simp only
  simp only at kk c2 hp c4
  rw [hq] at c2
  simp only at c2
  subst c2
  obtain ⟨eb, hE⟩ : ∃ q, enc (sb val) = q := ⟨_, rfl⟩
  obtain ⟨es, ez⟩ := eb
  have hsh : (if ez = 0 ∧ es.length < val.size then (es, true) else (sb val, false)) = (ys, false) := by
    rw [← hq]
    unfold shrt
    rw [hE, sb_length]
  have HE := Lib.hid hE
  clear hq hE
  have hez : ez = 0 := by have h := HE.out; rw [h] at c4; exact c4
  clear c4
  have PE := Lib.hid (fun A c W (hr : Rd W A (b8 (sb val))) (hc : val.size ≤ c) => rencode_is A val.size c (sb val) W hr (sb_length val) (sb_by val) (by omega))
  subst kk
  have HD := Lib.hid (HBD.out 5 (Uv.uv p ++ Uv.uv s) (by unfold flg; simp only [HQ.out]; have hp1 : 0 < p := (by omega); simp [hp1]) (by unfold nums; simp only [Int.toNat_natCast]; rw [if_pos hp]))
  have he : ¬ (ez = 0 ∧ es.length < val.size) := by
    intro h
    rw [if_pos h] at hsh
    simp at hsh
  rw [if_neg he] at hsh
  injection hsh with hy _
  have HY := Lib.hid hy
  clear hy
  have he3 : ¬ (es.length : Int) < (val.size : Int) := by omega
  subst hez
  clear he
  clear HBD HQ m9 hsm m1 m6
  go_enter Try.func82, Try.ntmps82
  go_wp2_with (refine wpList_bytes _ rfl (.tmp 9) 9 25 5 rfl Try.underlying9 Try.underlying25 Try.underlying5 val rfl ?_; intro c0 w0 zs hrow hcm hbel hzl; have HR0 := Lib.hid hrow; have HB0 := Lib.hid hbel; clear hrow hzl hbel)
  have hr0 := HR0.out
  rw [World.size_alloc] at hr0
  have R0 := Lib.hid (rd_row8 hr0)
  have hz0 : w.heap.size + 2 ≤ w0.heap.size := by have := hr0.lt; omega
  have hb0 := HB0.out
  rw [World.size_alloc] at hb0
  clear hr0 HR0 HB0
  have BX0 := Lib.hid ((RBox.new w ⟨2, o, t, p, s, key, val⟩).below hb0 (by simp))
  refine (PE.out _ c0 w0 R0.out hcm).mono ?_
  rw [HE.out]
  rintro e w1 ⟨A1, c1, rfl, ho1, hb1⟩
  simp only at ho1 ⊢
  have R1 := Lib.hid (R0.out.below hb1)
  have BX1 := Lib.hid (BX0.out.below hb1 (by omega))
  have T1 := Lib.hid ((((Below.refl w.heap.size w).alloc (Nat.le_refl _) (.cells #[.int .i64 2, .int .i64 o, .int .i64 t, .int .i64 p, .int .i64 s, .string key, .string val] 62)).trans (hb0.mono (by simp))).trans (hb1.mono (by omega)))
  have hz1 : w.heap.size + 1 ≤ w1.heap.size := by have := hb1.size; omega
  clear ho1 hb1 hb0
  have R1' : Hid (Rd w1 (some ⟨w.heap.size + 1, 0, none⟩) (b8 ys)) := Lib.hid (by rw [← HY.out]; simpa using R1.out)
  obtain ⟨x0, x1, x2, x3, x4, x5, x6⟩ := (BX1.out).facts
  simp only at x0 x1 x2 x3 x4 x5 x6
  go_wp2_with fail
  refine (rnew_is w1).mono ?_
  rintro e w2 ⟨rfl, hw2⟩
  have V2 : Hid (Wr w1.heap.size w2 106 w1.heap.size (.slice none 0 0) []) := Lib.hid (by rw [hw2]; exact rnew_wr w1.heap.size w1 (Nat.le_refl _))
  have D2 : Hid (Below w1.heap.size w1 w2) := Lib.hid (by rw [hw2]; exact (Below.refl _ _).alloc (Nat.le_refl _) _)
  have hl2 : ([] : List Nat).length ≤ 0 := Nat.le_refl _
  clear hw2
  clear x0 x1 x2 x3 x4 x5 x6
  obtain ⟨x0, x1, x2, x3, x4, x5, x6⟩ := (BX1.out.below D2.out (by omega)).facts
  simp only at x0 x1 x2 x3 x4 x5 x6
  go_wp2_with fail
  refine (rbyte_is w1.heap.size w1.heap.size (.slice none 0 0) [] 5 w2 V2.out  (by omega) D2.out.size).mono ?_
  intro e w3 hw
  obtain ⟨v3, rfl, h, b⟩ := hw.to' V2.out
  have V3 := Lib.hid h
  have D3 := Lib.hid (D2.out.trans b)
  obtain ⟨X3, hX⟩ : ∃ X, X = [] ++ [5] := ⟨_, rfl⟩
  have hl3 : X3.length ≤ 1 := by rw [hX]; simp only [List.length_append, List.length_cons, List.length_nil, sb_length]; omega
  have HX3 := Lib.hid hX
  rw [← hX] at V3
  clear hw h b hX
  clear x0 x1 x2 x3 x4 x5 x6
  obtain ⟨x0, x1, x2, x3, x4, x5, x6⟩ := (BX1.out.below D3.out (by omega)).facts
  simp only at x0 x1 x2 x3 x4 x5 x6
  go_wp2_with fail
  refine (ruvarint_w w1.heap.size w1.heap.size v3 X3 o w3 V3.out (by omega) (by omega) D3.out.size).mono ?_
  intro e w4 hw
  obtain ⟨v4, rfl, h, b⟩ := hw.to' V3.out
  have V4 := Lib.hid h
  have D4 := Lib.hid (D3.out.trans b)
  obtain ⟨X4, hX⟩ : ∃ X, X = X3 ++ Uv.uv o := ⟨_, rfl⟩
  have hl4 : X4.length ≤ 11 := by rw [hX]; simp only [List.length_append, List.length_cons, List.length_nil, sb_length]; omega
  have HX4 := Lib.hid hX
  rw [← hX] at V4
  clear hw h b hX
  clear x0 x1 x2 x3 x4 x5 x6
  obtain ⟨x0, x1, x2, x3, x4, x5, x6⟩ := (BX1.out.below D4.out (by omega)).facts
  simp only at x0 x1 x2 x3 x4 x5 x6
  go_wp2_with fail
  refine (ruvarint_w w1.heap.size w1.heap.size v4 X4 t w4 V4.out (by omega) (by omega) D4.out.size).mono ?_
  intro e w5 hw
  obtain ⟨v5, rfl, h, b⟩ := hw.to' V4.out
  have V5 := Lib.hid h
  have D5 := Lib.hid (D4.out.trans b)
  obtain ⟨X5, hX⟩ : ∃ X, X = X4 ++ Uv.uv t := ⟨_, rfl⟩
  have hl5 : X5.length ≤ 21 := by rw [hX]; simp only [List.length_append, List.length_cons, List.length_nil, sb_length]; omega
  have HX5 := Lib.hid hX
  rw [← hX] at V5
  clear hw h b hX
  clear x0 x1 x2 x3 x4 x5 x6
  obtain ⟨x0, x1, x2, x3, x4, x5, x6⟩ := (BX1.out.below D5.out (by omega)).facts
  simp only at x0 x1 x2 x3 x4 x5 x6
  go_wp2_with fail
  refine (ruvarint_w w1.heap.size w1.heap.size v5 X5 p w5 V5.out (by omega) (by omega) D5.out.size).mono ?_
  intro e w6 hw
  obtain ⟨v6, rfl, h, b⟩ := hw.to' V5.out
  have V6 := Lib.hid h
  have D6 := Lib.hid (D5.out.trans b)
  obtain ⟨X6, hX⟩ : ∃ X, X = X5 ++ Uv.uv p := ⟨_, rfl⟩
  have hl6 : X6.length ≤ 31 := by rw [hX]; simp only [List.length_append, List.length_cons, List.length_nil, sb_length]; omega
  have HX6 := Lib.hid hX
  rw [← hX] at V6
  clear hw h b hX
  clear x0 x1 x2 x3 x4 x5 x6
  obtain ⟨x0, x1, x2, x3, x4, x5, x6⟩ := (BX1.out.below D6.out (by omega)).facts
  simp only at x0 x1 x2 x3 x4 x5 x6
  go_wp2_with fail
  refine (ruvarint_w w1.heap.size w1.heap.size v6 X6 s w6 V6.out (by omega) (by omega) D6.out.size).mono ?_
  intro e w7 hw
  obtain ⟨v7, rfl, h, b⟩ := hw.to' V6.out
  have V7 := Lib.hid h
  have D7 := Lib.hid (D6.out.trans b)
  obtain ⟨X7, hX⟩ : ∃ X, X = X6 ++ Uv.uv s := ⟨_, rfl⟩
  have hl7 : X7.length ≤ 41 := by rw [hX]; simp only [List.length_append, List.length_cons, List.length_nil, sb_length]; omega
  have HX7 := Lib.hid hX
  rw [← hX] at V7
  clear hw h b hX
  clear x0 x1 x2 x3 x4 x5 x6
  obtain ⟨x0, x1, x2, x3, x4, x5, x6⟩ := (BX1.out.below D7.out (by omega)).facts
  simp only at x0 x1 x2 x3 x4 x5 x6
  go_wp2_with fail
  refine (rtext_w w1.heap.size w1.heap.size v7 X7 key w7 V7.out  (by omega) D7.out.size).mono ?_
  intro e w8 hw
  obtain ⟨v8, rfl, h, b⟩ := hw.to' V7.out
  have V8 := Lib.hid h
  have D8 := Lib.hid (D7.out.trans b)
  obtain ⟨X8, hX⟩ : ∃ X, X = X7 ++ (Uv.uv key.size ++ sb key) := ⟨_, rfl⟩
  have hl8 : X8.length ≤ 115 := by rw [hX]; simp only [List.length_append, List.length_cons, List.length_nil, sb_length]; omega
  have HX8 := Lib.hid hX
  rw [List.append_assoc, ← hX] at V8
  clear hw h b hX
  clear x0 x1 x2 x3 x4 x5 x6
  obtain ⟨x0, x1, x2, x3, x4, x5, x6⟩ := (BX1.out.below D8.out (by omega)).facts
  simp only at x0 x1 x2 x3 x4 x5 x6
  go_wp2_with fail
  refine (rraw_is w1.heap.size w1.heap.size v8 X8 (some ⟨w.heap.size + 1, 0, none⟩) val.size c0 ys w8 V8.out (R1'.out.below D8.out) (by rw [← HY.out, sb_length]) (by omega) D8.out.size).mono ?_
  intro e w9 hw
  obtain ⟨v9, rfl, h, b⟩ := hw.to' V8.out
  have V9 := Lib.hid h
  have D9 := Lib.hid (D8.out.trans b)
  obtain ⟨X9, hX⟩ : ∃ X, X = X8 ++ ys := ⟨_, rfl⟩
  have hl9 : X9.length ≤ 1139 := by rw [hX]; simp only [List.length_append]; omega
  have HX9 := Lib.hid hX
  rw [← hX] at V9
  clear hw h b hX
  go_wp2_with fail
  refine (rbytes_w w1.heap.size w1.heap.size v9 X9 w9 V9.out (by omega)).mono ?_
  rintro e wz ⟨Az, cz, rfl, hoz, hbz⟩
  have OZ := Lib.hid hoz
  have BZ := Lib.hid hbz
  clear hoz hbz
  go_wp2_with fail
  go_ret
  exact got8_of (HD.out.trans (by rw [HX9.out, HX8.out, HX7.out, HX6.out, HX5.out, HX4.out, HX3.out]; simp only [List.nil_append, List.append_assoc, List.append_nil])) OZ.out (T1.out.trans (D9.out.mono (by omega))) BZ.out
set_option maxHeartbeats 2000000 in
set_option maxRecDepth 100000 in
theorem rrecbody_2ftf (x : Rc) (w : World) (hm : May x) (kk : x.k = 2) (c2 : (shrt (sb x.val)).2 = false) (hp : 0 < x.p) (c4 : ¬ (enc (sb x.val)).2 = 0) : Calls Try.prog 82 #[x.v] w fun e w' => Got8 w w' e (bdy x) := by
  obtain ⟨k, o, t, p, s, key, val⟩ := x
  obtain ⟨m1, m2, m3, m4, m5, m6, m7, m8, m9⟩ := hm
  simp only at m1 m2 m3 m4 m5 m6 m7 m8 m9
  obtain ⟨o, rfl⟩ : ∃ n : Nat, o = (n : Int) := ⟨o.toNat, by omega⟩
  obtain ⟨t, rfl⟩ : ∃ n : Nat, t = (n : Int) := ⟨t.toNat, by omega⟩
  obtain ⟨p, rfl⟩ : ∃ n : Nat, p = (n : Int) := ⟨p.toNat, by omega⟩
  obtain ⟨s, rfl⟩ : ∃ n : Nat, s = (n : Int) := ⟨s.toNat, by omega⟩
  obtain ⟨q, hq⟩ : ∃ q, shrt (sb val) = q := ⟨_, rfl⟩
  obtain ⟨ys, sm⟩ := q
  have hyl : ys.length ≤ 1024 := by have h := shrt_len (sb val); rw [hq, sb_length] at h; simp only at h; omega
  have hsm : k = 2 → sm = false := fun h => by
    have h0 := m9 h
    cases sm with
    | false => rfl
    | true =>
      have h1 := hq
      unfold shrt at h1
      rw [sb_length, h0] at h1
      rw [if_neg (by omega)] at h1
      simp at h1
  have HQ := Lib.hid hq
  have HBD : Hid (∀ F N, flg ⟨k, o, t, p, s, key, val⟩ = F → nums ⟨k, o, t, p, s, key, val⟩ = N → bdy ⟨k, o, t, p, s, key, val⟩ = [F] ++ Uv.uv o ++ Uv.uv t ++ N ++ Uv.uv key.size ++ sb key ++ ys) := Lib.hid (fun F N h1 h2 => by unfold bdy; rw [h1, h2]; simp only [hq, Int.toNat_natCast])
  have hlo := Uv.uv_len_64 o (by omega)
  have hlt := Uv.uv_len_64 t (by omega)
  have hlp := Uv.uv_len_64 p (by omega)
  have hls := Uv.uv_len_64 s (by omega)
  have hlk := Uv.uv_len_64 key.size (by omega)
  unfold Rc.v
  simp only
  simp only at kk c2 hp c4
  rw [hq] at c2
  simp only at c2
  subst c2
  obtain ⟨eb, hE⟩ : ∃ q, enc (sb val) = q := ⟨_, rfl⟩
  obtain ⟨es, ez⟩ := eb
  have hsh : (if ez = 0 ∧ es.length < val.size then (es, true) else (sb val, false)) = (ys, false) := by
    rw [← hq]
    unfold shrt
    rw [hE, sb_length]
  have HE := Lib.hid hE
  clear hq hE
  have hez : ¬ ez = 0 := by have h := HE.out; rw [h] at c4; exact c4
  clear c4
  have PE := Lib.hid (fun A c W (hr : Rd W A (b8 (sb val))) (hc : val.size ≤ c) => rencode_is A val.size c (sb val) W hr (sb_length val) (sb_by val) (by omega))
  subst kk
  have HD := Lib.hid (HBD.out 5 (Uv.uv p ++ Uv.uv s) (by unfold flg; simp only [HQ.out]; have hp1 : 0 < p := (by omega); simp [hp1]) (by unfold nums; simp only [Int.toNat_natCast]; rw [if_pos hp]))
  have he : ¬ (ez = 0 ∧ es.length < val.size) := by
    intro h
    rw [if_pos h] at hsh
    simp at hsh
  rw [if_neg he] at hsh
  injection hsh with hy _
  have HY := Lib.hid hy
  clear hy
  have he3 : (ez == 0) = false := by rw [beq_eq_false_iff_ne]; exact hez
  clear he
  clear HBD HQ m9 hsm m1 m6
  go_enter Try.func82, Try.ntmps82
  go_wp2_with (refine wpList_bytes _ rfl (.tmp 9) 9 25 5 rfl Try.underlying9 Try.underlying25 Try.underlying5 val rfl ?_; intro c0 w0 zs hrow hcm hbel hzl; have HR0 := Lib.hid hrow; have HB0 := Lib.hid hbel; clear hrow hzl hbel)
  have hr0 := HR0.out
  rw [World.size_alloc] at hr0
  have R0 := Lib.hid (rd_row8 hr0)
  have hz0 : w.heap.size + 2 ≤ w0.heap.size := by have := hr0.lt; omega
  have hb0 := HB0.out
  rw [World.size_alloc] at hb0
  clear hr0 HR0 HB0
  have BX0 := Lib.hid ((RBox.new w ⟨2, o, t, p, s, key, val⟩).below hb0 (by simp))
  refine (PE.out _ c0 w0 R0.out hcm).mono ?_
  rw [HE.out]
  rintro e w1 ⟨A1, c1, rfl, ho1, hb1⟩
  simp only at ho1 ⊢
  have R1 := Lib.hid (R0.out.below hb1)
  have BX1 := Lib.hid (BX0.out.below hb1 (by omega))
  have T1 := Lib.hid ((((Below.refl w.heap.size w).alloc (Nat.le_refl _) (.cells #[.int .i64 2, .int .i64 o, .int .i64 t, .int .i64 p, .int .i64 s, .string key, .string val] 62)).trans (hb0.mono (by simp))).trans (hb1.mono (by omega)))
  have hz1 : w.heap.size + 1 ≤ w1.heap.size := by have := hb1.size; omega
  clear ho1 hb1 hb0
  have R1' : Hid (Rd w1 (some ⟨w.heap.size + 1, 0, none⟩) (b8 ys)) := Lib.hid (by rw [← HY.out]; simpa using R1.out)
  obtain ⟨x0, x1, x2, x3, x4, x5, x6⟩ := (BX1.out).facts
  simp only at x0 x1 x2 x3 x4 x5 x6
  go_wp2_with fail
  refine (rnew_is w1).mono ?_
  rintro e w2 ⟨rfl, hw2⟩
  have V2 : Hid (Wr w1.heap.size w2 106 w1.heap.size (.slice none 0 0) []) := Lib.hid (by rw [hw2]; exact rnew_wr w1.heap.size w1 (Nat.le_refl _))
  have D2 : Hid (Below w1.heap.size w1 w2) := Lib.hid (by rw [hw2]; exact (Below.refl _ _).alloc (Nat.le_refl _) _)
  have hl2 : ([] : List Nat).length ≤ 0 := Nat.le_refl _
  clear hw2
  clear x0 x1 x2 x3 x4 x5 x6
  obtain ⟨x0, x1, x2, x3, x4, x5, x6⟩ := (BX1.out.below D2.out (by omega)).facts
  simp only at x0 x1 x2 x3 x4 x5 x6
  go_wp2_with fail
  refine (rbyte_is w1.heap.size w1.heap.size (.slice none 0 0) [] 5 w2 V2.out  (by omega) D2.out.size).mono ?_
  intro e w3 hw
  obtain ⟨v3, rfl, h, b⟩ := hw.to' V2.out
  have V3 := Lib.hid h
  have D3 := Lib.hid (D2.out.trans b)
  obtain ⟨X3, hX⟩ : ∃ X, X = [] ++ [5] := ⟨_, rfl⟩
  have hl3 : X3.length ≤ 1 := by rw [hX]; simp only [List.length_append, List.length_cons, List.length_nil, sb_length]; omega
  have HX3 := Lib.hid hX
  rw [← hX] at V3
  clear hw h b hX
  clear x0 x1 x2 x3 x4 x5 x6
  obtain ⟨x0, x1, x2, x3, x4, x5, x6⟩ := (BX1.out.below D3.out (by omega)).facts
  simp only at x0 x1 x2 x3 x4 x5 x6
  go_wp2_with fail
  refine (ruvarint_w w1.heap.size w1.heap.size v3 X3 o w3 V3.out (by omega) (by omega) D3.out.size).mono ?_
  intro e w4 hw
  obtain ⟨v4, rfl, h, b⟩ := hw.to' V3.out
  have V4 := Lib.hid h
  have D4 := Lib.hid (D3.out.trans b)
  obtain ⟨X4, hX⟩ : ∃ X, X = X3 ++ Uv.uv o := ⟨_, rfl⟩
  have hl4 : X4.length ≤ 11 := by rw [hX]; simp only [List.length_append, List.length_cons, List.length_nil, sb_length]; omega
  have HX4 := Lib.hid hX
  rw [← hX] at V4
  clear hw h b hX
  clear x0 x1 x2 x3 x4 x5 x6
  obtain ⟨x0, x1, x2, x3, x4, x5, x6⟩ := (BX1.out.below D4.out (by omega)).facts
  simp only at x0 x1 x2 x3 x4 x5 x6
  go_wp2_with fail
  refine (ruvarint_w w1.heap.size w1.heap.size v4 X4 t w4 V4.out (by omega) (by omega) D4.out.size).mono ?_
  intro e w5 hw
  obtain ⟨v5, rfl, h, b⟩ := hw.to' V4.out
  have V5 := Lib.hid h
  have D5 := Lib.hid (D4.out.trans b)
  obtain ⟨X5, hX⟩ : ∃ X, X = X4 ++ Uv.uv t := ⟨_, rfl⟩
  have hl5 : X5.length ≤ 21 := by rw [hX]; simp only [List.length_append, List.length_cons, List.length_nil, sb_length]; omega
  have HX5 := Lib.hid hX
  rw [← hX] at V5
  clear hw h b hX
  clear x0 x1 x2 x3 x4 x5 x6
  obtain ⟨x0, x1, x2, x3, x4, x5, x6⟩ := (BX1.out.below D5.out (by omega)).facts
  simp only at x0 x1 x2 x3 x4 x5 x6
  go_wp2_with fail
  refine (ruvarint_w w1.heap.size w1.heap.size v5 X5 p w5 V5.out (by omega) (by omega) D5.out.size).mono ?_
  intro e w6 hw
  obtain ⟨v6, rfl, h, b⟩ := hw.to' V5.out
  have V6 := Lib.hid h
  have D6 := Lib.hid (D5.out.trans b)
  obtain ⟨X6, hX⟩ : ∃ X, X = X5 ++ Uv.uv p := ⟨_, rfl⟩
  have hl6 : X6.length ≤ 31 := by rw [hX]; simp only [List.length_append, List.length_cons, List.length_nil, sb_length]; omega
  have HX6 := Lib.hid hX
  rw [← hX] at V6
  clear hw h b hX
  clear x0 x1 x2 x3 x4 x5 x6
  obtain ⟨x0, x1, x2, x3, x4, x5, x6⟩ := (BX1.out.below D6.out (by omega)).facts
  simp only at x0 x1 x2 x3 x4 x5 x6
  go_wp2_with fail
  refine (ruvarint_w w1.heap.size w1.heap.size v6 X6 s w6 V6.out (by omega) (by omega) D6.out.size).mono ?_
  intro e w7 hw
  obtain ⟨v7, rfl, h, b⟩ := hw.to' V6.out
  have V7 := Lib.hid h
  have D7 := Lib.hid (D6.out.trans b)
  obtain ⟨X7, hX⟩ : ∃ X, X = X6 ++ Uv.uv s := ⟨_, rfl⟩
  have hl7 : X7.length ≤ 41 := by rw [hX]; simp only [List.length_append, List.length_cons, List.length_nil, sb_length]; omega
  have HX7 := Lib.hid hX
  rw [← hX] at V7
  clear hw h b hX
  clear x0 x1 x2 x3 x4 x5 x6
  obtain ⟨x0, x1, x2, x3, x4, x5, x6⟩ := (BX1.out.below D7.out (by omega)).facts
  simp only at x0 x1 x2 x3 x4 x5 x6
  go_wp2_with fail
  refine (rtext_w w1.heap.size w1.heap.size v7 X7 key w7 V7.out  (by omega) D7.out.size).mono ?_
  intro e w8 hw
  obtain ⟨v8, rfl, h, b⟩ := hw.to' V7.out
  have V8 := Lib.hid h
  have D8 := Lib.hid (D7.out.trans b)
  obtain ⟨X8, hX⟩ : ∃ X, X = X7 ++ (Uv.uv key.size ++ sb key) := ⟨_, rfl⟩
  have hl8 : X8.length ≤ 115 := by rw [hX]; simp only [List.length_append, List.length_cons, List.length_nil, sb_length]; omega
  have HX8 := Lib.hid hX
  rw [List.append_assoc, ← hX] at V8
  clear hw h b hX
  clear x0 x1 x2 x3 x4 x5 x6
  obtain ⟨x0, x1, x2, x3, x4, x5, x6⟩ := (BX1.out.below D8.out (by omega)).facts
  simp only at x0 x1 x2 x3 x4 x5 x6
  go_wp2_with fail
  refine (rraw_is w1.heap.size w1.heap.size v8 X8 (some ⟨w.heap.size + 1, 0, none⟩) val.size c0 ys w8 V8.out (R1'.out.below D8.out) (by rw [← HY.out, sb_length]) (by omega) D8.out.size).mono ?_
  intro e w9 hw
  obtain ⟨v9, rfl, h, b⟩ := hw.to' V8.out
  have V9 := Lib.hid h
  have D9 := Lib.hid (D8.out.trans b)
  obtain ⟨X9, hX⟩ : ∃ X, X = X8 ++ ys := ⟨_, rfl⟩
  have hl9 : X9.length ≤ 1139 := by rw [hX]; simp only [List.length_append]; omega
  have HX9 := Lib.hid hX
  rw [← hX] at V9
  clear hw h b hX
  go_wp2_with fail
  refine (rbytes_w w1.heap.size w1.heap.size v9 X9 w9 V9.out (by omega)).mono ?_
  rintro e wz ⟨Az, cz, rfl, hoz, hbz⟩
  have OZ := Lib.hid hoz
  have BZ := Lib.hid hbz
  clear hoz hbz
  go_wp2_with fail
  go_ret
  exact got8_of (HD.out.trans (by rw [HX9.out, HX8.out, HX7.out, HX6.out, HX5.out, HX4.out, HX3.out]; simp only [List.nil_append, List.append_assoc, List.append_nil])) OZ.out (T1.out.trans (D9.out.mono (by omega))) BZ.out
set_option maxHeartbeats 2000000 in
set_option maxRecDepth 100000 in
theorem rrecbody_2fft (x : Rc) (w : World) (hm : May x) (kk : x.k = 2) (c2 : (shrt (sb x.val)).2 = false) (hp : ¬ 0 < x.p) (c4 : (enc (sb x.val)).2 = 0) : Calls Try.prog 82 #[x.v] w fun e w' => Got8 w w' e (bdy x) := by
  obtain ⟨k, o, t, p, s, key, val⟩ := x
  obtain ⟨m1, m2, m3, m4, m5, m6, m7, m8, m9⟩ := hm
  simp only at m1 m2 m3 m4 m5 m6 m7 m8 m9
  obtain ⟨o, rfl⟩ : ∃ n : Nat, o = (n : Int) := ⟨o.toNat, by omega⟩
  obtain ⟨t, rfl⟩ : ∃ n : Nat, t = (n : Int) := ⟨t.toNat, by omega⟩
  obtain ⟨p, rfl⟩ : ∃ n : Nat, p = (n : Int) := ⟨p.toNat, by omega⟩
  obtain ⟨s, rfl⟩ : ∃ n : Nat, s = (n : Int) := ⟨s.toNat, by omega⟩
  obtain ⟨q, hq⟩ : ∃ q, shrt (sb val) = q := ⟨_, rfl⟩
  obtain ⟨ys, sm⟩ := q
  have hyl : ys.length ≤ 1024 := by have h := shrt_len (sb val); rw [hq, sb_length] at h; simp only at h; omega
  have hsm : k = 2 → sm = false := fun h => by
    have h0 := m9 h
    cases sm with
    | false => rfl
    | true =>
      have h1 := hq
      unfold shrt at h1
      rw [sb_length, h0] at h1
      rw [if_neg (by omega)] at h1
      simp at h1
  have HQ := Lib.hid hq
  have HBD : Hid (∀ F N, flg ⟨k, o, t, p, s, key, val⟩ = F → nums ⟨k, o, t, p, s, key, val⟩ = N → bdy ⟨k, o, t, p, s, key, val⟩ = [F] ++ Uv.uv o ++ Uv.uv t ++ N ++ Uv.uv key.size ++ sb key ++ ys) := Lib.hid (fun F N h1 h2 => by unfold bdy; rw [h1, h2]; simp only [hq, Int.toNat_natCast])
  have hlo := Uv.uv_len_64 o (by omega)
  have hlt := Uv.uv_len_64 t (by omega)
  have hlp := Uv.uv_len_64 p (by omega)
  have hls := Uv.uv_len_64 s (by omega)
  have hlk := Uv.uv_len_64 key.size (by omega)
  unfold Rc.v
  simp only
  simp only at kk c2 hp c4
  rw [hq] at c2
  simp only at c2
  subst c2
  obtain ⟨eb, hE⟩ : ∃ q, enc (sb val) = q := ⟨_, rfl⟩
  obtain ⟨es, ez⟩ := eb
  have hsh : (if ez = 0 ∧ es.length < val.size then (es, true) else (sb val, false)) = (ys, false) := by
    rw [← hq]
    unfold shrt
    rw [hE, sb_length]
  have HE := Lib.hid hE
  clear hq hE
  have hez : ez = 0 := by have h := HE.out; rw [h] at c4; exact c4
  clear c4
  have PE := Lib.hid (fun A c W (hr : Rd W A (b8 (sb val))) (hc : val.size ≤ c) => rencode_is A val.size c (sb val) W hr (sb_length val) (sb_by val) (by omega))
  subst kk
  have HD := Lib.hid (HBD.out 1 [] (by unfold flg; simp only [HQ.out]; have hp1 : p = 0 := (by omega); simp [hp1]) (by unfold nums; simp only [Int.toNat_natCast]; rw [if_neg hp]))
  have he : ¬ (ez = 0 ∧ es.length < val.size) := by
    intro h
    rw [if_pos h] at hsh
    simp at hsh
  rw [if_neg he] at hsh
  injection hsh with hy _
  have HY := Lib.hid hy
  clear hy
  have he3 : ¬ (es.length : Int) < (val.size : Int) := by omega
  subst hez
  clear he
  clear HBD HQ m9 hsm m1 m6
  go_enter Try.func82, Try.ntmps82
  go_wp2_with (refine wpList_bytes _ rfl (.tmp 9) 9 25 5 rfl Try.underlying9 Try.underlying25 Try.underlying5 val rfl ?_; intro c0 w0 zs hrow hcm hbel hzl; have HR0 := Lib.hid hrow; have HB0 := Lib.hid hbel; clear hrow hzl hbel)
  have hr0 := HR0.out
  rw [World.size_alloc] at hr0
  have R0 := Lib.hid (rd_row8 hr0)
  have hz0 : w.heap.size + 2 ≤ w0.heap.size := by have := hr0.lt; omega
  have hb0 := HB0.out
  rw [World.size_alloc] at hb0
  clear hr0 HR0 HB0
  have BX0 := Lib.hid ((RBox.new w ⟨2, o, t, p, s, key, val⟩).below hb0 (by simp))
  refine (PE.out _ c0 w0 R0.out hcm).mono ?_
  rw [HE.out]
  rintro e w1 ⟨A1, c1, rfl, ho1, hb1⟩
  simp only at ho1 ⊢
  have R1 := Lib.hid (R0.out.below hb1)
  have BX1 := Lib.hid (BX0.out.below hb1 (by omega))
  have T1 := Lib.hid ((((Below.refl w.heap.size w).alloc (Nat.le_refl _) (.cells #[.int .i64 2, .int .i64 o, .int .i64 t, .int .i64 p, .int .i64 s, .string key, .string val] 62)).trans (hb0.mono (by simp))).trans (hb1.mono (by omega)))
  have hz1 : w.heap.size + 1 ≤ w1.heap.size := by have := hb1.size; omega
  clear ho1 hb1 hb0
  have R1' : Hid (Rd w1 (some ⟨w.heap.size + 1, 0, none⟩) (b8 ys)) := Lib.hid (by rw [← HY.out]; simpa using R1.out)
  obtain ⟨x0, x1, x2, x3, x4, x5, x6⟩ := (BX1.out).facts
  simp only at x0 x1 x2 x3 x4 x5 x6
  go_wp2_with fail
  refine (rnew_is w1).mono ?_
  rintro e w2 ⟨rfl, hw2⟩
  have V2 : Hid (Wr w1.heap.size w2 106 w1.heap.size (.slice none 0 0) []) := Lib.hid (by rw [hw2]; exact rnew_wr w1.heap.size w1 (Nat.le_refl _))
  have D2 : Hid (Below w1.heap.size w1 w2) := Lib.hid (by rw [hw2]; exact (Below.refl _ _).alloc (Nat.le_refl _) _)
  have hl2 : ([] : List Nat).length ≤ 0 := Nat.le_refl _
  clear hw2
  clear x0 x1 x2 x3 x4 x5 x6
  obtain ⟨x0, x1, x2, x3, x4, x5, x6⟩ := (BX1.out.below D2.out (by omega)).facts
  simp only at x0 x1 x2 x3 x4 x5 x6
  go_wp2_with fail
  refine (rbyte_is w1.heap.size w1.heap.size (.slice none 0 0) [] 1 w2 V2.out  (by omega) D2.out.size).mono ?_
  intro e w3 hw
  obtain ⟨v3, rfl, h, b⟩ := hw.to' V2.out
  have V3 := Lib.hid h
  have D3 := Lib.hid (D2.out.trans b)
  obtain ⟨X3, hX⟩ : ∃ X, X = [] ++ [1] := ⟨_, rfl⟩
  have hl3 : X3.length ≤ 1 := by rw [hX]; simp only [List.length_append, List.length_cons, List.length_nil, sb_length]; omega
  have HX3 := Lib.hid hX
  rw [← hX] at V3
  clear hw h b hX
  clear x0 x1 x2 x3 x4 x5 x6
  obtain ⟨x0, x1, x2, x3, x4, x5, x6⟩ := (BX1.out.below D3.out (by omega)).facts
  simp only at x0 x1 x2 x3 x4 x5 x6
  go_wp2_with fail
  refine (ruvarint_w w1.heap.size w1.heap.size v3 X3 o w3 V3.out (by omega) (by omega) D3.out.size).mono ?_
  intro e w4 hw
  obtain ⟨v4, rfl, h, b⟩ := hw.to' V3.out
  have V4 := Lib.hid h
  have D4 := Lib.hid (D3.out.trans b)
  obtain ⟨X4, hX⟩ : ∃ X, X = X3 ++ Uv.uv o := ⟨_, rfl⟩
  have hl4 : X4.length ≤ 11 := by rw [hX]; simp only [List.length_append, List.length_cons, List.length_nil, sb_length]; omega
  have HX4 := Lib.hid hX
  rw [← hX] at V4
  clear hw h b hX
  clear x0 x1 x2 x3 x4 x5 x6
  obtain ⟨x0, x1, x2, x3, x4, x5, x6⟩ := (BX1.out.below D4.out (by omega)).facts
  simp only at x0 x1 x2 x3 x4 x5 x6
  go_wp2_with fail
  refine (ruvarint_w w1.heap.size w1.heap.size v4 X4 t w4 V4.out (by omega) (by omega) D4.out.size).mono ?_
  intro e w5 hw
  obtain ⟨v5, rfl, h, b⟩ := hw.to' V4.out
  have V5 := Lib.hid h
  have D5 := Lib.hid (D4.out.trans b)
  obtain ⟨X5, hX⟩ : ∃ X, X = X4 ++ Uv.uv t := ⟨_, rfl⟩
  have hl5 : X5.length ≤ 21 := by rw [hX]; simp only [List.length_append, List.length_cons, List.length_nil, sb_length]; omega
  have HX5 := Lib.hid hX
  rw [← hX] at V5
  clear hw h b hX
  clear x0 x1 x2 x3 x4 x5 x6
  obtain ⟨x0, x1, x2, x3, x4, x5, x6⟩ := (BX1.out.below D5.out (by omega)).facts
  simp only at x0 x1 x2 x3 x4 x5 x6
  go_wp2_with fail
  refine (rtext_w w1.heap.size w1.heap.size v5 X5 key w5 V5.out  (by omega) D5.out.size).mono ?_
  intro e w6 hw
  obtain ⟨v6, rfl, h, b⟩ := hw.to' V5.out
  have V6 := Lib.hid h
  have D6 := Lib.hid (D5.out.trans b)
  obtain ⟨X6, hX⟩ : ∃ X, X = X5 ++ (Uv.uv key.size ++ sb key) := ⟨_, rfl⟩
  have hl6 : X6.length ≤ 95 := by rw [hX]; simp only [List.length_append, List.length_cons, List.length_nil, sb_length]; omega
  have HX6 := Lib.hid hX
  rw [List.append_assoc, ← hX] at V6
  clear hw h b hX
  clear x0 x1 x2 x3 x4 x5 x6
  obtain ⟨x0, x1, x2, x3, x4, x5, x6⟩ := (BX1.out.below D6.out (by omega)).facts
  simp only at x0 x1 x2 x3 x4 x5 x6
  go_wp2_with fail
  refine (rraw_is w1.heap.size w1.heap.size v6 X6 (some ⟨w.heap.size + 1, 0, none⟩) val.size c0 ys w6 V6.out (R1'.out.below D6.out) (by rw [← HY.out, sb_length]) (by omega) D6.out.size).mono ?_
  intro e w7 hw
  obtain ⟨v7, rfl, h, b⟩ := hw.to' V6.out
  have V7 := Lib.hid h
  have D7 := Lib.hid (D6.out.trans b)
  obtain ⟨X7, hX⟩ : ∃ X, X = X6 ++ ys := ⟨_, rfl⟩
  have hl7 : X7.length ≤ 1119 := by rw [hX]; simp only [List.length_append]; omega
  have HX7 := Lib.hid hX
  rw [← hX] at V7
  clear hw h b hX
  go_wp2_with fail
  refine (rbytes_w w1.heap.size w1.heap.size v7 X7 w7 V7.out (by omega)).mono ?_
  rintro e wz ⟨Az, cz, rfl, hoz, hbz⟩
  have OZ := Lib.hid hoz
  have BZ := Lib.hid hbz
  clear hoz hbz
  go_wp2_with fail
  go_ret
  exact got8_of (HD.out.trans (by rw [HX7.out, HX6.out, HX5.out, HX4.out, HX3.out]; simp only [List.nil_append, List.append_assoc, List.append_nil])) OZ.out (T1.out.trans (D7.out.mono (by omega))) BZ.out
set_option maxHeartbeats 2000000 in
set_option maxRecDepth 100000 in
theorem rrecbody_2fff (x : Rc) (w : World) (hm : May x) (kk : x.k = 2) (c2 : (shrt (sb x.val)).2 = false) (hp : ¬ 0 < x.p) (c4 : ¬ (enc (sb x.val)).2 = 0) : Calls Try.prog 82 #[x.v] w fun e w' => Got8 w w' e (bdy x) := by
  obtain ⟨k, o, t, p, s, key, val⟩ := x
  obtain ⟨m1, m2, m3, m4, m5, m6, m7, m8, m9⟩ := hm
  simp only at m1 m2 m3 m4 m5 m6 m7 m8 m9
  obtain ⟨o, rfl⟩ : ∃ n : Nat, o = (n : Int) := ⟨o.toNat, by omega⟩
  obtain ⟨t, rfl⟩ : ∃ n : Nat, t = (n : Int) := ⟨t.toNat, by omega⟩
  obtain ⟨p, rfl⟩ : ∃ n : Nat, p = (n : Int) := ⟨p.toNat, by omega⟩
  obtain ⟨s, rfl⟩ : ∃ n : Nat, s = (n : Int) := ⟨s.toNat, by omega⟩
  obtain ⟨q, hq⟩ : ∃ q, shrt (sb val) = q := ⟨_, rfl⟩
  obtain ⟨ys, sm⟩ := q
  have hyl : ys.length ≤ 1024 := by have h := shrt_len (sb val); rw [hq, sb_length] at h; simp only at h; omega
  have hsm : k = 2 → sm = false := fun h => by
    have h0 := m9 h
    cases sm with
    | false => rfl
    | true =>
      have h1 := hq
      unfold shrt at h1
      rw [sb_length, h0] at h1
      rw [if_neg (by omega)] at h1
      simp at h1
  have HQ := Lib.hid hq
  have HBD : Hid (∀ F N, flg ⟨k, o, t, p, s, key, val⟩ = F → nums ⟨k, o, t, p, s, key, val⟩ = N → bdy ⟨k, o, t, p, s, key, val⟩ = [F] ++ Uv.uv o ++ Uv.uv t ++ N ++ Uv.uv key.size ++ sb key ++ ys) := Lib.hid (fun F N h1 h2 => by unfold bdy; rw [h1, h2]; simp only [hq, Int.toNat_natCast])
  have hlo := Uv.uv_len_64 o (by omega)
  have hlt := Uv.uv_len_64 t (by omega)
  have hlp := Uv.uv_len_64 p (by omega)
  have hls := Uv.uv_len_64 s (by omega)
  have hlk := Uv.uv_len_64 key.size (by omega)
  unfold Rc.v
  simp only
  simp only at kk c2 hp c4
  rw [hq] at c2
  simp only at c2
  subst c2
  obtain ⟨eb, hE⟩ : ∃ q, enc (sb val) = q := ⟨_, rfl⟩
  obtain ⟨es, ez⟩ := eb
  have hsh : (if ez = 0 ∧ es.length < val.size then (es, true) else (sb val, false)) = (ys, false) := by
    rw [← hq]
    unfold shrt
    rw [hE, sb_length]
  have HE := Lib.hid hE
  clear hq hE
  have hez : ¬ ez = 0 := by have h := HE.out; rw [h] at c4; exact c4
  clear c4
  have PE := Lib.hid (fun A c W (hr : Rd W A (b8 (sb val))) (hc : val.size ≤ c) => rencode_is A val.size c (sb val) W hr (sb_length val) (sb_by val) (by omega))
  subst kk
  have HD := Lib.hid (HBD.out 1 [] (by unfold flg; simp only [HQ.out]; have hp1 : p = 0 := (by omega); simp [hp1]) (by unfold nums; simp only [Int.toNat_natCast]; rw [if_neg hp]))
  have he : ¬ (ez = 0 ∧ es.length < val.size) := by
    intro h
    rw [if_pos h] at hsh
    simp at hsh
  rw [if_neg he] at hsh
  injection hsh with hy _
  have HY := Lib.hid hy
  clear hy
  have he3 : (ez == 0) = false := by rw [beq_eq_false_iff_ne]; exact hez
  clear he
  clear HBD HQ m9 hsm m1 m6
  go_enter Try.func82, Try.ntmps82
  go_wp2_with (refine wpList_bytes _ rfl (.tmp 9) 9 25 5 rfl Try.underlying9 Try.underlying25 Try.underlying5 val rfl ?_; intro c0 w0 zs hrow hcm hbel hzl; have HR0 := Lib.hid hrow; have HB0 := Lib.hid hbel; clear hrow hzl hbel)
  have hr0 := HR0.out
  rw [World.size_alloc] at hr0
  have R0 := Lib.hid (rd_row8 hr0)
  have hz0 : w.heap.size + 2 ≤ w0.heap.size := by have := hr0.lt; omega
  have hb0 := HB0.out
  rw [World.size_alloc] at hb0
  clear hr0 HR0 HB0
  have BX0 := Lib.hid ((RBox.new w ⟨2, o, t, p, s, key, val⟩).below hb0 (by simp))
  refine (PE.out _ c0 w0 R0.out hcm).mono ?_
  rw [HE.out]
  rintro e w1 ⟨A1, c1, rfl, ho1, hb1⟩
  simp only at ho1 ⊢
  have R1 := Lib.hid (R0.out.below hb1)
  have BX1 := Lib.hid (BX0.out.below hb1 (by omega))
  have T1 := Lib.hid ((((Below.refl w.heap.size w).alloc (Nat.le_refl _) (.cells #[.int .i64 2, .int .i64 o, .int .i64 t, .int .i64 p, .int .i64 s, .string key, .string val] 62)).trans (hb0.mono (by simp))).trans (hb1.mono (by omega)))
  have hz1 : w.heap.size + 1 ≤ w1.heap.size := by have := hb1.size; omega
  clear ho1 hb1 hb0
  have R1' : Hid (Rd w1 (some ⟨w.heap.size + 1, 0, none⟩) (b8 ys)) := Lib.hid (by rw [← HY.out]; simpa using R1.out)
  obtain ⟨x0, x1, x2, x3, x4, x5, x6⟩ := (BX1.out).facts
  simp only at x0 x1 x2 x3 x4 x5 x6
  go_wp2_with fail
  refine (rnew_is w1).mono ?_
  rintro e w2 ⟨rfl, hw2⟩
  have V2 : Hid (Wr w1.heap.size w2 106 w1.heap.size (.slice none 0 0) []) := Lib.hid (by rw [hw2]; exact rnew_wr w1.heap.size w1 (Nat.le_refl _))
  have D2 : Hid (Below w1.heap.size w1 w2) := Lib.hid (by rw [hw2]; exact (Below.refl _ _).alloc (Nat.le_refl _) _)
  have hl2 : ([] : List Nat).length ≤ 0 := Nat.le_refl _
  clear hw2
  clear x0 x1 x2 x3 x4 x5 x6
  obtain ⟨x0, x1, x2, x3, x4, x5, x6⟩ := (BX1.out.below D2.out (by omega)).facts
  simp only at x0 x1 x2 x3 x4 x5 x6
  go_wp2_with fail
  refine (rbyte_is w1.heap.size w1.heap.size (.slice none 0 0) [] 1 w2 V2.out  (by omega) D2.out.size).mono ?_
  intro e w3 hw
  obtain ⟨v3, rfl, h, b⟩ := hw.to' V2.out
  have V3 := Lib.hid h
  have D3 := Lib.hid (D2.out.trans b)
  obtain ⟨X3, hX⟩ : ∃ X, X = [] ++ [1] := ⟨_, rfl⟩
  have hl3 : X3.length ≤ 1 := by rw [hX]; simp only [List.length_append, List.length_cons, List.length_nil, sb_length]; omega
  have HX3 := Lib.hid hX
  rw [← hX] at V3
  clear hw h b hX
  clear x0 x1 x2 x3 x4 x5 x6
  obtain ⟨x0, x1, x2, x3, x4, x5, x6⟩ := (BX1.out.below D3.out (by omega)).facts
  simp only at x0 x1 x2 x3 x4 x5 x6
  go_wp2_with fail
  refine (ruvarint_w w1.heap.size w1.heap.size v3 X3 o w3 V3.out (by omega) (by omega) D3.out.size).mono ?_
  intro e w4 hw
  obtain ⟨v4, rfl, h, b⟩ := hw.to' V3.out
  have V4 := Lib.hid h
  have D4 := Lib.hid (D3.out.trans b)
  obtain ⟨X4, hX⟩ : ∃ X, X = X3 ++ Uv.uv o := ⟨_, rfl⟩
  have hl4 : X4.length ≤ 11 := by rw [hX]; simp only [List.length_append, List.length_cons, List.length_nil, sb_length]; omega
  have HX4 := Lib.hid hX
  rw [← hX] at V4
  clear hw h b hX
  clear x0 x1 x2 x3 x4 x5 x6
  obtain ⟨x0, x1, x2, x3, x4, x5, x6⟩ := (BX1.out.below D4.out (by omega)).facts
  simp only at x0 x1 x2 x3 x4 x5 x6
  go_wp2_with fail
  refine (ruvarint_w w1.heap.size w1.heap.size v4 X4 t w4 V4.out (by omega) (by omega) D4.out.size).mono ?_
  intro e w5 hw
  obtain ⟨v5, rfl, h, b⟩ := hw.to' V4.out
  have V5 := Lib.hid h
  have D5 := Lib.hid (D4.out.trans b)
  obtain ⟨X5, hX⟩ : ∃ X, X = X4 ++ Uv.uv t := ⟨_, rfl⟩
  have hl5 : X5.length ≤ 21 := by rw [hX]; simp only [List.length_append, List.length_cons, List.length_nil, sb_length]; omega
  have HX5 := Lib.hid hX
  rw [← hX] at V5
  clear hw h b hX
  clear x0 x1 x2 x3 x4 x5 x6
  obtain ⟨x0, x1, x2, x3, x4, x5, x6⟩ := (BX1.out.below D5.out (by omega)).facts
  simp only at x0 x1 x2 x3 x4 x5 x6
  go_wp2_with fail
  refine (rtext_w w1.heap.size w1.heap.size v5 X5 key w5 V5.out  (by omega) D5.out.size).mono ?_
  intro e w6 hw
  obtain ⟨v6, rfl, h, b⟩ := hw.to' V5.out
  have V6 := Lib.hid h
  have D6 := Lib.hid (D5.out.trans b)
  obtain ⟨X6, hX⟩ : ∃ X, X = X5 ++ (Uv.uv key.size ++ sb key) := ⟨_, rfl⟩
  have hl6 : X6.length ≤ 95 := by rw [hX]; simp only [List.length_append, List.length_cons, List.length_nil, sb_length]; omega
  have HX6 := Lib.hid hX
  rw [List.append_assoc, ← hX] at V6
  clear hw h b hX
  clear x0 x1 x2 x3 x4 x5 x6
  obtain ⟨x0, x1, x2, x3, x4, x5, x6⟩ := (BX1.out.below D6.out (by omega)).facts
  simp only at x0 x1 x2 x3 x4 x5 x6
  go_wp2_with fail
  refine (rraw_is w1.heap.size w1.heap.size v6 X6 (some ⟨w.heap.size + 1, 0, none⟩) val.size c0 ys w6 V6.out (R1'.out.below D6.out) (by rw [← HY.out, sb_length]) (by omega) D6.out.size).mono ?_
  intro e w7 hw
  obtain ⟨v7, rfl, h, b⟩ := hw.to' V6.out
  have V7 := Lib.hid h
  have D7 := Lib.hid (D6.out.trans b)
  obtain ⟨X7, hX⟩ : ∃ X, X = X6 ++ ys := ⟨_, rfl⟩
  have hl7 : X7.length ≤ 1119 := by rw [hX]; simp only [List.length_append]; omega
  have HX7 := Lib.hid hX
  rw [← hX] at V7
  clear hw h b hX
  go_wp2_with fail
  refine (rbytes_w w1.heap.size w1.heap.size v7 X7 w7 V7.out (by omega)).mono ?_
  rintro e wz ⟨Az, cz, rfl, hoz, hbz⟩
  have OZ := Lib.hid hoz
  have BZ := Lib.hid hbz
  clear hoz hbz
  go_wp2_with fail
  go_ret
  exact got8_of (HD.out.trans (by rw [HX7.out, HX6.out, HX5.out, HX4.out, HX3.out]; simp only [List.nil_append, List.append_assoc, List.append_nil])) OZ.out (T1.out.trans (D7.out.mono (by omega))) BZ.out
set_option maxHeartbeats 2000000 in
set_option maxRecDepth 100000 in
theorem rrecbody_1ftt (x : Rc) (w : World) (hm : May x) (kk : ¬ x.k = 2) (c2 : (shrt (sb x.val)).2 = false) (hp : 0 < x.p) (c4 : (enc (sb x.val)).2 = 0) : Calls Try.prog 82 #[x.v] w fun e w' => Got8 w w' e (bdy x) := by
  obtain ⟨k, o, t, p, s, key, val⟩ := x
  obtain ⟨m1, m2, m3, m4, m5, m6, m7, m8, m9⟩ := hm
  simp only at m1 m2 m3 m4 m5 m6 m7 m8 m9
  obtain ⟨o, rfl⟩ : ∃ n : Nat, o = (n : Int) := ⟨o.toNat, by omega⟩
  obtain ⟨t, rfl⟩ : ∃ n : Nat, t = (n : Int) := ⟨t.toNat, by omega⟩
  obtain ⟨p, rfl⟩ : ∃ n : Nat, p = (n : Int) := ⟨p.toNat, by omega⟩
  obtain ⟨s, rfl⟩ : ∃ n : Nat, s = (n : Int) := ⟨s.toNat, by omega⟩
  obtain ⟨q, hq⟩ : ∃ q, shrt (sb val) = q := ⟨_, rfl⟩
  obtain ⟨ys, sm⟩ := q
  have hyl : ys.length ≤ 1024 := by have h := shrt_len (sb val); rw [hq, sb_length] at h; simp only at h; omega
  have hsm : k = 2 → sm = false := fun h => by
    have h0 := m9 h
    cases sm with
    | false => rfl
    | true =>
      have h1 := hq
      unfold shrt at h1
      rw [sb_length, h0] at h1
      rw [if_neg (by omega)] at h1
      simp at h1
  have HQ := Lib.hid hq
  have HBD : Hid (∀ F N, flg ⟨k, o, t, p, s, key, val⟩ = F → nums ⟨k, o, t, p, s, key, val⟩ = N → bdy ⟨k, o, t, p, s, key, val⟩ = [F] ++ Uv.uv o ++ Uv.uv t ++ N ++ Uv.uv key.size ++ sb key ++ ys) := Lib.hid (fun F N h1 h2 => by unfold bdy; rw [h1, h2]; simp only [hq, Int.toNat_natCast])
  have hlo := Uv.uv_len_64 o (by omega)
  have hlt := Uv.uv_len_64 t (by omega)
  have hlp := Uv.uv_len_64 p (by omega)
  have hls := Uv.uv_len_64 s (by omega)
  have hlk := Uv.uv_len_64 key.size (by omega)
  unfold Rc.v
  simp only
  simp only at kk c2 hp c4
  rw [hq] at c2
  simp only at c2
  subst c2
  obtain ⟨eb, hE⟩ : ∃ q, enc (sb val) = q := ⟨_, rfl⟩
  obtain ⟨es, ez⟩ := eb
  have hsh : (if ez = 0 ∧ es.length < val.size then (es, true) else (sb val, false)) = (ys, false) := by
    rw [← hq]
    unfold shrt
    rw [hE, sb_length]
  have HE := Lib.hid hE
  clear hq hE
  have hez : ez = 0 := by have h := HE.out; rw [h] at c4; exact c4
  clear c4
  have PE := Lib.hid (fun A c W (hr : Rd W A (b8 (sb val))) (hc : val.size ≤ c) => rencode_is A val.size c (sb val) W hr (sb_length val) (sb_by val) (by omega))
  have k1 : (k == 2) = false := by rw [beq_eq_false_iff_ne]; exact kk
  have HD := Lib.hid (HBD.out 4 (Uv.uv p ++ Uv.uv s) (by unfold flg; simp only [HQ.out]; have hp1 : 0 < p := (by omega); simp [hp1, kk]) (by unfold nums; simp only [Int.toNat_natCast]; rw [if_pos hp]))
  have he : ¬ (ez = 0 ∧ es.length < val.size) := by
    intro h
    rw [if_pos h] at hsh
    simp at hsh
  rw [if_neg he] at hsh
  injection hsh with hy _
  have HY := Lib.hid hy
  clear hy
  have he3 : ¬ (es.length : Int) < (val.size : Int) := by omega
  subst hez
  clear he
  clear HBD HQ m9 hsm m1 m6
  go_enter Try.func82, Try.ntmps82
  go_wp2_with (refine wpList_bytes _ rfl (.tmp 9) 9 25 5 rfl Try.underlying9 Try.underlying25 Try.underlying5 val rfl ?_; intro c0 w0 zs hrow hcm hbel hzl; have HR0 := Lib.hid hrow; have HB0 := Lib.hid hbel; clear hrow hzl hbel)
  have hr0 := HR0.out
  rw [World.size_alloc] at hr0
  have R0 := Lib.hid (rd_row8 hr0)
  have hz0 : w.heap.size + 2 ≤ w0.heap.size := by have := hr0.lt; omega
  have hb0 := HB0.out
  rw [World.size_alloc] at hb0
  clear hr0 HR0 HB0
  have BX0 := Lib.hid ((RBox.new w ⟨k, o, t, p, s, key, val⟩).below hb0 (by simp))
  refine (PE.out _ c0 w0 R0.out hcm).mono ?_
  rw [HE.out]
  rintro e w1 ⟨A1, c1, rfl, ho1, hb1⟩
  simp only at ho1 ⊢
  have R1 := Lib.hid (R0.out.below hb1)
  have BX1 := Lib.hid (BX0.out.below hb1 (by omega))
  have T1 := Lib.hid ((((Below.refl w.heap.size w).alloc (Nat.le_refl _) (.cells #[.int .i64 k, .int .i64 o, .int .i64 t, .int .i64 p, .int .i64 s, .string key, .string val] 62)).trans (hb0.mono (by simp))).trans (hb1.mono (by omega)))
  have hz1 : w.heap.size + 1 ≤ w1.heap.size := by have := hb1.size; omega
  clear ho1 hb1 hb0
  have R1' : Hid (Rd w1 (some ⟨w.heap.size + 1, 0, none⟩) (b8 ys)) := Lib.hid (by rw [← HY.out]; simpa using R1.out)
  obtain ⟨x0, x1, x2, x3, x4, x5, x6⟩ := (BX1.out).facts
  simp only at x0 x1 x2 x3 x4 x5 x6
  go_wp2_with fail
  refine (rnew_is w1).mono ?_
  rintro e w2 ⟨rfl, hw2⟩
  have V2 : Hid (Wr w1.heap.size w2 106 w1.heap.size (.slice none 0 0) []) := Lib.hid (by rw [hw2]; exact rnew_wr w1.heap.size w1 (Nat.le_refl _))
  have D2 : Hid (Below w1.heap.size w1 w2) := Lib.hid (by rw [hw2]; exact (Below.refl _ _).alloc (Nat.le_refl _) _)
  have hl2 : ([] : List Nat).length ≤ 0 := Nat.le_refl _
  clear hw2
  clear x0 x1 x2 x3 x4 x5 x6
  obtain ⟨x0, x1, x2, x3, x4, x5, x6⟩ := (BX1.out.below D2.out (by omega)).facts
  simp only at x0 x1 x2 x3 x4 x5 x6
  go_wp2_with fail
  refine (rbyte_is w1.heap.size w1.heap.size (.slice none 0 0) [] 4 w2 V2.out  (by omega) D2.out.size).mono ?_
  intro e w3 hw
  obtain ⟨v3, rfl, h, b⟩ := hw.to' V2.out
  have V3 := Lib.hid h
  have D3 := Lib.hid (D2.out.trans b)
  obtain ⟨X3, hX⟩ : ∃ X, X = [] ++ [4] := ⟨_, rfl⟩
  have hl3 : X3.length ≤ 1 := by rw [hX]; simp only [List.length_append, List.length_cons, List.length_nil, sb_length]; omega
  have HX3 := Lib.hid hX
  rw [← hX] at V3
  clear hw h b hX
  clear x0 x1 x2 x3 x4 x5 x6
  obtain ⟨x0, x1, x2, x3, x4, x5, x6⟩ := (BX1.out.below D3.out (by omega)).facts
  simp only at x0 x1 x2 x3 x4 x5 x6
  go_wp2_with fail
  refine (ruvarint_w w1.heap.size w1.heap.size v3 X3 o w3 V3.out (by omega) (by omega) D3.out.size).mono ?_
  intro e w4 hw
  obtain ⟨v4, rfl, h, b⟩ := hw.to' V3.out
  have V4 := Lib.hid h
  have D4 := Lib.hid (D3.out.trans b)
  obtain ⟨X4, hX⟩ : ∃ X, X = X3 ++ Uv.uv o := ⟨_, rfl⟩
  have hl4 : X4.length ≤ 11 := by rw [hX]; simp only [List.length_append, List.length_cons, List.length_nil, sb_length]; omega
  have HX4 := Lib.hid hX
  rw [← hX] at V4
  clear hw h b hX
  clear x0 x1 x2 x3 x4 x5 x6
  obtain ⟨x0, x1, x2, x3, x4, x5, x6⟩ := (BX1.out.below D4.out (by omega)).facts
  simp only at x0 x1 x2 x3 x4 x5 x6
  go_wp2_with fail
  refine (ruvarint_w w1.heap.size w1.heap.size v4 X4 t w4 V4.out (by omega) (by omega) D4.out.size).mono ?_
  intro e w5 hw
  obtain ⟨v5, rfl, h, b⟩ := hw.to' V4.out
  have V5 := Lib.hid h
  have D5 := Lib.hid (D4.out.trans b)
  obtain ⟨X5, hX⟩ : ∃ X, X = X4 ++ Uv.uv t := ⟨_, rfl⟩
  have hl5 : X5.length ≤ 21 := by rw [hX]; simp only [List.length_append, List.length_cons, List.length_nil, sb_length]; omega
  have HX5 := Lib.hid hX
  rw [← hX] at V5
  clear hw h b hX
  clear x0 x1 x2 x3 x4 x5 x6
  obtain ⟨x0, x1, x2, x3, x4, x5, x6⟩ := (BX1.out.below D5.out (by omega)).facts
  simp only at x0 x1 x2 x3 x4 x5 x6
  go_wp2_with fail
  refine (ruvarint_w w1.heap.size w1.heap.size v5 X5 p w5 V5.out (by omega) (by omega) D5.out.size).mono ?_
  intro e w6 hw
  obtain ⟨v6, rfl, h, b⟩ := hw.to' V5.out
  have V6 := Lib.hid h
  have D6 := Lib.hid (D5.out.trans b)
  obtain ⟨X6, hX⟩ : ∃ X, X = X5 ++ Uv.uv p := ⟨_, rfl⟩
  have hl6 : X6.length ≤ 31 := by rw [hX]; simp only [List.length_append, List.length_cons, List.length_nil, sb_length]; omega
  have HX6 := Lib.hid hX
  rw [← hX] at V6
  clear hw h b hX
  clear x0 x1 x2 x3 x4 x5 x6
  obtain ⟨x0, x1, x2, x3, x4, x5, x6⟩ := (BX1.out.below D6.out (by omega)).facts
  simp only at x0 x1 x2 x3 x4 x5 x6
  go_wp2_with fail
  refine (ruvarint_w w1.heap.size w1.heap.size v6 X6 s w6 V6.out (by omega) (by omega) D6.out.size).mono ?_
  intro e w7 hw
  obtain ⟨v7, rfl, h, b⟩ := hw.to' V6.out
  have V7 := Lib.hid h
  have D7 := Lib.hid (D6.out.trans b)
  obtain ⟨X7, hX⟩ : ∃ X, X = X6 ++ Uv.uv s := ⟨_, rfl⟩
  have hl7 : X7.length ≤ 41 := by rw [hX]; simp only [List.length_append, List.length_cons, List.length_nil, sb_length]; omega
  have HX7 := Lib.hid hX
  rw [← hX] at V7
  clear hw h b hX
  clear x0 x1 x2 x3 x4 x5 x6
  obtain ⟨x0, x1, x2, x3, x4, x5, x6⟩ := (BX1.out.below D7.out (by omega)).facts
  simp only at x0 x1 x2 x3 x4 x5 x6
  go_wp2_with fail
  refine (rtext_w w1.heap.size w1.heap.size v7 X7 key w7 V7.out  (by omega) D7.out.size).mono ?_
  intro e w8 hw
  obtain ⟨v8, rfl, h, b⟩ := hw.to' V7.out
  have V8 := Lib.hid h
  have D8 := Lib.hid (D7.out.trans b)
  obtain ⟨X8, hX⟩ : ∃ X, X = X7 ++ (Uv.uv key.size ++ sb key) := ⟨_, rfl⟩
  have hl8 : X8.length ≤ 115 := by rw [hX]; simp only [List.length_append, List.length_cons, List.length_nil, sb_length]; omega
  have HX8 := Lib.hid hX
  rw [List.append_assoc, ← hX] at V8
  clear hw h b hX
  clear x0 x1 x2 x3 x4 x5 x6
  obtain ⟨x0, x1, x2, x3, x4, x5, x6⟩ := (BX1.out.below D8.out (by omega)).facts
  simp only at x0 x1 x2 x3 x4 x5 x6
  go_wp2_with fail
  refine (rraw_is w1.heap.size w1.heap.size v8 X8 (some ⟨w.heap.size + 1, 0, none⟩) val.size c0 ys w8 V8.out (R1'.out.below D8.out) (by rw [← HY.out, sb_length]) (by omega) D8.out.size).mono ?_
  intro e w9 hw
  obtain ⟨v9, rfl, h, b⟩ := hw.to' V8.out
  have V9 := Lib.hid h
  have D9 := Lib.hid (D8.out.trans b)
  obtain ⟨X9, hX⟩ : ∃ X, X = X8 ++ ys := ⟨_, rfl⟩
  have hl9 : X9.length ≤ 1139 := by rw [hX]; simp only [List.length_append]; omega
  have HX9 := Lib.hid hX
  rw [← hX] at V9
  clear hw h b hX
  go_wp2_with fail
  refine (rbytes_w w1.heap.size w1.heap.size v9 X9 w9 V9.out (by omega)).mono ?_
  rintro e wz ⟨Az, cz, rfl, hoz, hbz⟩
  have OZ := Lib.hid hoz
  have BZ := Lib.hid hbz
  clear hoz hbz
  go_wp2_with fail
  go_ret
  exact got8_of (HD.out.trans (by rw [HX9.out, HX8.out, HX7.out, HX6.out, HX5.out, HX4.out, HX3.out]; simp only [List.nil_append, List.append_assoc, List.append_nil])) OZ.out (T1.out.trans (D9.out.mono (by omega))) BZ.out
set_option maxHeartbeats 2000000 in
set_option maxRecDepth 100000 in
theorem rrecbody_1ftf (x : Rc) (w : World) (hm : May x) (kk : ¬ x.k = 2) (c2 : (shrt (sb x.val)).2 = false) (hp : 0 < x.p) (c4 : ¬ (enc (sb x.val)).2 = 0) : Calls Try.prog 82 #[x.v] w fun e w' => Got8 w w' e (bdy x) := by
  obtain ⟨k, o, t, p, s, key, val⟩ := x
  obtain ⟨m1, m2, m3, m4, m5, m6, m7, m8, m9⟩ := hm
  simp only at m1 m2 m3 m4 m5 m6 m7 m8 m9
  obtain ⟨o, rfl⟩ : ∃ n : Nat, o = (n : Int) := ⟨o.toNat, by omega⟩
  obtain ⟨t, rfl⟩ : ∃ n : Nat, t = (n : Int) := ⟨t.toNat, by omega⟩
  obtain ⟨p, rfl⟩ : ∃ n : Nat, p = (n : Int) := ⟨p.toNat, by omega⟩
  obtain ⟨s, rfl⟩ : ∃ n : Nat, s = (n : Int) := ⟨s.toNat, by omega⟩
  obtain ⟨q, hq⟩ : ∃ q, shrt (sb val) = q := ⟨_, rfl⟩
  obtain ⟨ys, sm⟩ := q
  have hyl : ys.length ≤ 1024 := by have h := shrt_len (sb val); rw [hq, sb_length] at h; simp only at h; omega
  have hsm : k = 2 → sm = false := fun h => by
    have h0 := m9 h
    cases sm with
    | false => rfl
    | true =>
      have h1 := hq
      unfold shrt at h1
      rw [sb_length, h0] at h1
      rw [if_neg (by omega)] at h1
      simp at h1
  have HQ := Lib.hid hq
  have HBD : Hid (∀ F N, flg ⟨k, o, t, p, s, key, val⟩ = F → nums ⟨k, o, t, p, s, key, val⟩ = N → bdy ⟨k, o, t, p, s, key, val⟩ = [F] ++ Uv.uv o ++ Uv.uv t ++ N ++ Uv.uv key.size ++ sb key ++ ys) := Lib.hid (fun F N h1 h2 => by unfold bdy; rw [h1, h2]; simp only [hq, Int.toNat_natCast])
  have hlo := Uv.uv_len_64 o (by omega)
  have hlt := Uv.uv_len_64 t (by omega)
  have hlp := Uv.uv_len_64 p (by omega)
  have hls := Uv.uv_len_64 s (by omega)
  have hlk := Uv.uv_len_64 key.size (by omega)
  unfold Rc.v
  simp only
  simp only at kk c2 hp c4
  rw [hq] at c2
  simp only at c2
  subst c2
  obtain ⟨eb, hE⟩ : ∃ q, enc (sb val) = q := ⟨_, rfl⟩
  obtain ⟨es, ez⟩ := eb
  have hsh : (if ez = 0 ∧ es.length < val.size then (es, true) else (sb val, false)) = (ys, false) := by
    rw [← hq]
    unfold shrt
    rw [hE, sb_length]
  have HE := Lib.hid hE
  clear hq hE
  have hez : ¬ ez = 0 := by have h := HE.out; rw [h] at c4; exact c4
  clear c4
  have PE := Lib.hid (fun A c W (hr : Rd W A (b8 (sb val))) (hc : val.size ≤ c) => rencode_is A val.size c (sb val) W hr (sb_length val) (sb_by val) (by omega))
  have k1 : (k == 2) = false := by rw [beq_eq_false_iff_ne]; exact kk
  have HD := Lib.hid (HBD.out 4 (Uv.uv p ++ Uv.uv s) (by unfold flg; simp only [HQ.out]; have hp1 : 0 < p := (by omega); simp [hp1, kk]) (by unfold nums; simp only [Int.toNat_natCast]; rw [if_pos hp]))
  have he : ¬ (ez = 0 ∧ es.length < val.size) := by
    intro h
    rw [if_pos h] at hsh
    simp at hsh
  rw [if_neg he] at hsh
  injection hsh with hy _
  have HY := Lib.hid hy
  clear hy
  have he3 : (ez == 0) = false := by rw [beq_eq_false_iff_ne]; exact hez
  clear he
  clear HBD HQ m9 hsm m1 m6
  go_enter Try.func82, Try.ntmps82
  go_wp2_with (refine wpList_bytes _ rfl (.tmp 9) 9 25 5 rfl Try.underlying9 Try.underlying25 Try.underlying5 val rfl ?_; intro c0 w0 zs hrow hcm hbel hzl; have HR0 := Lib.hid hrow; have HB0 := Lib.hid hbel; clear hrow hzl hbel)
  have hr0 := HR0.out
  rw [World.size_alloc] at hr0
  have R0 := Lib.hid (rd_row8 hr0)
  have hz0 : w.heap.size + 2 ≤ w0.heap.size := by have := hr0.lt; omega
  have hb0 := HB0.out
  rw [World.size_alloc] at hb0
  clear hr0 HR0 HB0
  have BX0 := Lib.hid ((RBox.new w ⟨k, o, t, p, s, key, val⟩).below hb0 (by simp))
  refine (PE.out _ c0 w0 R0.out hcm).mono ?_
  rw [HE.out]
  rintro e w1 ⟨A1, c1, rfl, ho1, hb1⟩
  simp only at ho1 ⊢
  have R1 := Lib.hid (R0.out.below hb1)
  have BX1 := Lib.hid (BX0.out.below hb1 (by omega))
  have T1 := Lib.hid ((((Below.refl w.heap.size w).alloc (Nat.le_refl _) (.cells #[.int .i64 k, .int .i64 o, .int .i64 t, .int .i64 p, .int .i64 s, .string key, .string val] 62)).trans (hb0.mono (by simp))).trans (hb1.mono (by omega)))
  have hz1 : w.heap.size + 1 ≤ w1.heap.size := by have := hb1.size; omega
  clear ho1 hb1 hb0
  have R1' : Hid (Rd w1 (some ⟨w.heap.size + 1, 0, none⟩) (b8 ys)) := Lib.hid (by rw [← HY.out]; simpa using R1.out)
  obtain ⟨x0, x1, x2, x3, x4, x5, x6⟩ := (BX1.out).facts
  simp only at x0 x1 x2 x3 x4 x5 x6
  go_wp2_with fail
  refine (rnew_is w1).mono ?_
  rintro e w2 ⟨rfl, hw2⟩
  have V2 : Hid (Wr w1.heap.size w2 106 w1.heap.size (.slice none 0 0) []) := Lib.hid (by rw [hw2]; exact rnew_wr w1.heap.size w1 (Nat.le_refl _))
  have D2 : Hid (Below w1.heap.size w1 w2) := Lib.hid (by rw [hw2]; exact (Below.refl _ _).alloc (Nat.le_refl _) _)
  have hl2 : ([] : List Nat).length ≤ 0 := Nat.le_refl _
  clear hw2
  clear x0 x1 x2 x3 x4 x5 x6
  obtain ⟨x0, x1, x2, x3, x4, x5, x6⟩ := (BX1.out.below D2.out (by omega)).facts
  simp only at x0 x1 x2 x3 x4 x5 x6
  go_wp2_with fail
  refine (rbyte_is w1.heap.size w1.heap.size (.slice none 0 0) [] 4 w2 V2.out  (by omega) D2.out.size).mono ?_
  intro e w3 hw
  obtain ⟨v3, rfl, h, b⟩ := hw.to' V2.out
  have V3 := Lib.hid h
  have D3 := Lib.hid (D2.out.trans b)
  obtain ⟨X3, hX⟩ : ∃ X, X = [] ++ [4] := ⟨_, rfl⟩
  have hl3 : X3.length ≤ 1 := by rw [hX]; simp only [List.length_append, List.length_cons, List.length_nil, sb_length]; omega
  have HX3 := Lib.hid hX
  rw [← hX] at V3
  clear hw h b hX
  clear x0 x1 x2 x3 x4 x5 x6
  obtain ⟨x0, x1, x2, x3, x4, x5, x6⟩ := (BX1.out.below D3.out (by omega)).facts
  simp only at x0 x1 x2 x3 x4 x5 x6
  go_wp2_with fail
  refine (ruvarint_w w1.heap.size w1.heap.size v3 X3 o w3 V3.out (by omega) (by omega) D3.out.size).mono ?_
  intro e w4 hw
  obtain ⟨v4, rfl, h, b⟩ := hw.to' V3.out
  have V4 := Lib.hid h
  have D4 := Lib.hid (D3.out.trans b)
  obtain ⟨X4, hX⟩ : ∃ X, X = X3 ++ Uv.uv o := ⟨_, rfl⟩
  have hl4 : X4.length ≤ 11 := by rw [hX]; simp only [List.length_append, List.length_cons, List.length_nil, sb_length]; omega
  have HX4 := Lib.hid hX
  rw [← hX] at V4
  clear hw h b hX
  clear x0 x1 x2 x3 x4 x5 x6
  obtain ⟨x0, x1, x2, x3, x4, x5, x6⟩ := (BX1.out.below D4.out (by omega)).facts
  simp only at x0 x1 x2 x3 x4 x5 x6
  go_wp2_with fail
  refine (ruvarint_w w1.heap.size w1.heap.size v4 X4 t w4 V4.out (by omega) (by omega) D4.out.size).mono ?_
  intro e w5 hw
  obtain ⟨v5, rfl, h, b⟩ := hw.to' V4.out
  have V5 := Lib.hid h
  have D5 := Lib.hid (D4.out.trans b)
  obtain ⟨X5, hX⟩ : ∃ X, X = X4 ++ Uv.uv t := ⟨_, rfl⟩
  have hl5 : X5.length ≤ 21 := by rw [hX]; simp only [List.length_append, List.length_cons, List.length_nil, sb_length]; omega
  have HX5 := Lib.hid hX
  rw [← hX] at V5
  clear hw h b hX
  clear x0 x1 x2 x3 x4 x5 x6
  obtain ⟨x0, x1, x2, x3, x4, x5, x6⟩ := (BX1.out.below D5.out (by omega)).facts
  simp only at x0 x1 x2 x3 x4 x5 x6
  go_wp2_with fail
  refine (ruvarint_w w1.heap.size w1.heap.size v5 X5 p w5 V5.out (by omega) (by omega) D5.out.size).mono ?_
  intro e w6 hw
  obtain ⟨v6, rfl, h, b⟩ := hw.to' V5.out
  have V6 := Lib.hid h
  have D6 := Lib.hid (D5.out.trans b)
  obtain ⟨X6, hX⟩ : ∃ X, X = X5 ++ Uv.uv p := ⟨_, rfl⟩
  have hl6 : X6.length ≤ 31 := by rw [hX]; simp only [List.length_append, List.length_cons, List.length_nil, sb_length]; omega
  have HX6 := Lib.hid hX
  rw [← hX] at V6
  clear hw h b hX
  clear x0 x1 x2 x3 x4 x5 x6
  obtain ⟨x0, x1, x2, x3, x4, x5, x6⟩ := (BX1.out.below D6.out (by omega)).facts
  simp only at x0 x1 x2 x3 x4 x5 x6
  go_wp2_with fail
  refine (ruvarint_w w1.heap.size w1.heap.size v6 X6 s w6 V6.out (by omega) (by omega) D6.out.size).mono ?_
  intro e w7 hw
  obtain ⟨v7, rfl, h, b⟩ := hw.to' V6.out
  have V7 := Lib.hid h
  have D7 := Lib.hid (D6.out.trans b)
  obtain ⟨X7, hX⟩ : ∃ X, X = X6 ++ Uv.uv s := ⟨_, rfl⟩
  have hl7 : X7.length ≤ 41 := by rw [hX]; simp only [List.length_append, List.length_cons, List.length_nil, sb_length]; omega
  have HX7 := Lib.hid hX
  rw [← hX] at V7
  clear hw h b hX
  clear x0 x1 x2 x3 x4 x5 x6
  obtain ⟨x0, x1, x2, x3, x4, x5, x6⟩ := (BX1.out.below D7.out (by omega)).facts
  simp only at x0 x1 x2 x3 x4 x5 x6
  go_wp2_with fail
  refine (rtext_w w1.heap.size w1.heap.size v7 X7 key w7 V7.out  (by omega) D7.out.size).mono ?_
  intro e w8 hw
  obtain ⟨v8, rfl, h, b⟩ := hw.to' V7.out
  have V8 := Lib.hid h
  have D8 := Lib.hid (D7.out.trans b)
  obtain ⟨X8, hX⟩ : ∃ X, X = X7 ++ (Uv.uv key.size ++ sb key) := ⟨_, rfl⟩
  have hl8 : X8.length ≤ 115 := by rw [hX]; simp only [List.length_append, List.length_cons, List.length_nil, sb_length]; omega
  have HX8 := Lib.hid hX
  rw [List.append_assoc, ← hX] at V8
  clear hw h b hX
  clear x0 x1 x2 x3 x4 x5 x6
  obtain ⟨x0, x1, x2, x3, x4, x5, x6⟩ := (BX1.out.below D8.out (by omega)).facts
  simp only at x0 x1 x2 x3 x4 x5 x6
  go_wp2_with fail
  refine (rraw_is w1.heap.size w1.heap.size v8 X8 (some ⟨w.heap.size + 1, 0, none⟩) val.size c0 ys w8 V8.out (R1'.out.below D8.out) (by rw [← HY.out, sb_length]) (by omega) D8.out.size).mono ?_
  intro e w9 hw
  obtain ⟨v9, rfl, h, b⟩ := hw.to' V8.out
  have V9 := Lib.hid h
  have D9 := Lib.hid (D8.out.trans b)
  obtain ⟨X9, hX⟩ : ∃ X, X = X8 ++ ys := ⟨_, rfl⟩
  have hl9 : X9.length ≤ 1139 := by rw [hX]; simp only [List.length_append]; omega
  have HX9 := Lib.hid hX
  rw [← hX] at V9
  clear hw h b hX
  go_wp2_with fail
  refine (rbytes_w w1.heap.size w1.heap.size v9 X9 w9 V9.out (by omega)).mono ?_
  rintro e wz ⟨Az, cz, rfl, hoz, hbz⟩
  have OZ := Lib.hid hoz
  have BZ := Lib.hid hbz
  clear hoz hbz
  go_wp2_with fail
  go_ret
  exact got8_of (HD.out.trans (by rw [HX9.out, HX8.out, HX7.out, HX6.out, HX5.out, HX4.out, HX3.out]; simp only [List.nil_append, List.append_assoc, List.append_nil])) OZ.out (T1.out.trans (D9.out.mono (by omega))) BZ.out
set_option maxHeartbeats 2000000 in
set_option maxRecDepth 100000 in
theorem rrecbody_1fft (x : Rc) (w : World) (hm : May x) (kk : ¬ x.k = 2) (c2 : (shrt (sb x.val)).2 = false) (hp : ¬ 0 < x.p) (c4 : (enc (sb x.val)).2 = 0) : Calls Try.prog 82 #[x.v] w fun e w' => Got8 w w' e (bdy x) := by
  obtain ⟨k, o, t, p, s, key, val⟩ := x
  obtain ⟨m1, m2, m3, m4, m5, m6, m7, m8, m9⟩ := hm
  simp only at m1 m2 m3 m4 m5 m6 m7 m8 m9
  obtain ⟨o, rfl⟩ : ∃ n : Nat, o = (n : Int) := ⟨o.toNat, by omega⟩
  obtain ⟨t, rfl⟩ : ∃ n : Nat, t = (n : Int) := ⟨t.toNat, by omega⟩
  obtain ⟨p, rfl⟩ : ∃ n : Nat, p = (n : Int) := ⟨p.toNat, by omega⟩
  obtain ⟨s, rfl⟩ : ∃ n : Nat, s = (n : Int) := ⟨s.toNat, by omega⟩
  obtain ⟨q, hq⟩ : ∃ q, shrt (sb val) = q := ⟨_, rfl⟩
  obtain ⟨ys, sm⟩ := q
  have hyl : ys.length ≤ 1024 := by have h := shrt_len (sb val); rw [hq, sb_length] at h; simp only at h; omega
  have hsm : k = 2 → sm = false := fun h => by
    have h0 := m9 h
    cases sm with
    | false => rfl
    | true =>
      have h1 := hq
      unfold shrt at h1
      rw [sb_length, h0] at h1
      rw [if_neg (by omega)] at h1
      simp at h1
  have HQ := Lib.hid hq
  have HBD : Hid (∀ F N, flg ⟨k, o, t, p, s, key, val⟩ = F → nums ⟨k, o, t, p, s, key, val⟩ = N → bdy ⟨k, o, t, p, s, key, val⟩ = [F] ++ Uv.uv o ++ Uv.uv t ++ N ++ Uv.uv key.size ++ sb key ++ ys) := Lib.hid (fun F N h1 h2 => by unfold bdy; rw [h1, h2]; simp only [hq, Int.toNat_natCast])
  have hlo := Uv.uv_len_64 o (by omega)
  have hlt := Uv.uv_len_64 t (by omega)
  have hlp := Uv.uv_len_64 p (by omega)
  have hls := Uv.uv_len_64 s (by omega)
  have hlk := Uv.uv_len_64 key.size (by omega)
  unfold Rc.v
  simp only
  simp only at kk c2 hp c4
  rw [hq] at c2
  simp only at c2
  subst c2
  obtain ⟨eb, hE⟩ : ∃ q, enc (sb val) = q := ⟨_, rfl⟩
  obtain ⟨es, ez⟩ := eb
  have hsh : (if ez = 0 ∧ es.length < val.size then (es, true) else (sb val, false)) = (ys, false) := by
    rw [← hq]
    unfold shrt
    rw [hE, sb_length]
  have HE := Lib.hid hE
  clear hq hE
  have hez : ez = 0 := by have h := HE.out; rw [h] at c4; exact c4
  clear c4
  have PE := Lib.hid (fun A c W (hr : Rd W A (b8 (sb val))) (hc : val.size ≤ c) => rencode_is A val.size c (sb val) W hr (sb_length val) (sb_by val) (by omega))
  have k1 : (k == 2) = false := by rw [beq_eq_false_iff_ne]; exact kk
  have HD := Lib.hid (HBD.out 0 [] (by unfold flg; simp only [HQ.out]; have hp1 : p = 0 := (by omega); simp [hp1, kk]) (by unfold nums; simp only [Int.toNat_natCast]; rw [if_neg hp]))
  have he : ¬ (ez = 0 ∧ es.length < val.size) := by
    intro h
    rw [if_pos h] at hsh
    simp at hsh
  rw [if_neg he] at hsh
  injection hsh with hy _
  have HY := Lib.hid hy
  clear hy
  have he3 : ¬ (es.length : Int) < (val.size : Int) := by omega
  subst hez
  clear he
  clear HBD HQ m9 hsm m1 m6
  go_enter Try.func82, Try.ntmps82
  go_wp2_with (refine wpList_bytes _ rfl (.tmp 9) 9 25 5 rfl Try.underlying9 Try.underlying25 Try.underlying5 val rfl ?_; intro c0 w0 zs hrow hcm hbel hzl; have HR0 := Lib.hid hrow; have HB0 := Lib.hid hbel; clear hrow hzl hbel)
  have hr0 := HR0.out
  rw [World.size_alloc] at hr0
  have R0 := Lib.hid (rd_row8 hr0)
  have hz0 : w.heap.size + 2 ≤ w0.heap.size := by have := hr0.lt; omega
  have hb0 := HB0.out
  rw [World.size_alloc] at hb0
  clear hr0 HR0 HB0
  have BX0 := Lib.hid ((RBox.new w ⟨k, o, t, p, s, key, val⟩).below hb0 (by simp))
  refine (PE.out _ c0 w0 R0.out hcm).mono ?_
  rw [HE.out]
  rintro e w1 ⟨A1, c1, rfl, ho1, hb1⟩
  simp only at ho1 ⊢
  have R1 := Lib.hid (R0.out.below hb1)
  have BX1 := Lib.hid (BX0.out.below hb1 (by omega))
  have T1 := Lib.hid ((((Below.refl w.heap.size w).alloc (Nat.le_refl _) (.cells #[.int .i64 k, .int .i64 o, .int .i64 t, .int .i64 p, .int .i64 s, .string key, .string val] 62)).trans (hb0.mono (by simp))).trans (hb1.mono (by omega)))
  have hz1 : w.heap.size + 1 ≤ w1.heap.size := by have := hb1.size; omega
  clear ho1 hb1 hb0
  have R1' : Hid (Rd w1 (some ⟨w.heap.size + 1, 0, none⟩) (b8 ys)) := Lib.hid (by rw [← HY.out]; simpa using R1.out)
  obtain ⟨x0, x1, x2, x3, x4, x5, x6⟩ := (BX1.out).facts
  simp only at x0 x1 x2 x3 x4 x5 x6
  go_wp2_with fail
  refine (rnew_is w1).mono ?_
  rintro e w2 ⟨rfl, hw2⟩
  have V2 : Hid (Wr w1.heap.size w2 106 w1.heap.size (.slice none 0 0) []) := Lib.hid (by rw [hw2]; exact rnew_wr w1.heap.size w1 (Nat.le_refl _))
  have D2 : Hid (Below w1.heap.size w1 w2) := Lib.hid (by rw [hw2]; exact (Below.refl _ _).alloc (Nat.le_refl _) _)
  have hl2 : ([] : List Nat).length ≤ 0 := Nat.le_refl _
  clear hw2
  clear x0 x1 x2 x3 x4 x5 x6
  obtain ⟨x0, x1, x2, x3, x4, x5, x6⟩ := (BX1.out.below D2.out (by omega)).facts
  simp only at x0 x1 x2 x3 x4 x5 x6
  go_wp2_with fail
  refine (rbyte_is w1.heap.size w1.heap.size (.slice none 0 0) [] 0 w2 V2.out  (by omega) D2.out.size).mono ?_
  intro e w3 hw
  obtain ⟨v3, rfl, h, b⟩ := hw.to' V2.out
  have V3 := Lib.hid h
  have D3 := Lib.hid (D2.out.trans b)
  obtain ⟨X3, hX⟩ : ∃ X, X = [] ++ [0] := ⟨_, rfl⟩
  have hl3 : X3.length ≤ 1 := by rw [hX]; simp only [List.length_append, List.length_cons, List.length_nil, sb_length]; omega
  have HX3 := Lib.hid hX
  rw [← hX] at V3
  clear hw h b hX
  clear x0 x1 x2 x3 x4 x5 x6
  obtain ⟨x0, x1, x2, x3, x4, x5, x6⟩ := (BX1.out.below D3.out (by omega)).facts
  simp only at x0 x1 x2 x3 x4 x5 x6
  go_wp2_with fail
  refine (ruvarint_w w1.heap.size w1.heap.size v3 X3 o w3 V3.out (by omega) (by omega) D3.out.size).mono ?_
  intro e w4 hw
  obtain ⟨v4, rfl, h, b⟩ := hw.to' V3.out
  have V4 := Lib.hid h
  have D4 := Lib.hid (D3.out.trans b)
  obtain ⟨X4, hX⟩ : ∃ X, X = X3 ++ Uv.uv o := ⟨_, rfl⟩
  have hl4 : X4.length ≤ 11 := by rw [hX]; simp only [List.length_append, List.length_cons, List.length_nil, sb_length]; omega
  have HX4 := Lib.hid hX
  rw [← hX] at V4
  clear hw h b hX
  clear x0 x1 x2 x3 x4 x5 x6
  obtain ⟨x0, x1, x2, x3, x4, x5, x6⟩ := (BX1.out.below D4.out (by omega)).facts
  simp only at x0 x1 x2 x3 x4 x5 x6
  go_wp2_with fail
  refine (ruvarint_w w1.heap.size w1.heap.size v4 X4 t w4 V4.out (by omega) (by omega) D4.out.size).mono ?_
  intro e w5 hw
  obtain ⟨v5, rfl, h, b⟩ := hw.to' V4.out
  have V5 := Lib.hid h
  have D5 := Lib.hid (D4.out.trans b)
  obtain ⟨X5, hX⟩ : ∃ X, X = X4 ++ Uv.uv t := ⟨_, rfl⟩
  have hl5 : X5.length ≤ 21 := by rw [hX]; simp only [List.length_append, List.length_cons, List.length_nil, sb_length]; omega
  have HX5 := Lib.hid hX
  rw [← hX] at V5
  clear hw h b hX
  clear x0 x1 x2 x3 x4 x5 x6
  obtain ⟨x0, x1, x2, x3, x4, x5, x6⟩ := (BX1.out.below D5.out (by omega)).facts
  simp only at x0 x1 x2 x3 x4 x5 x6
  go_wp2_with fail
  refine (rtext_w w1.heap.size w1.heap.size v5 X5 key w5 V5.out  (by omega) D5.out.size).mono ?_
  intro e w6 hw
  obtain ⟨v6, rfl, h, b⟩ := hw.to' V5.out
  have V6 := Lib.hid h
  have D6 := Lib.hid (D5.out.trans b)
  obtain ⟨X6, hX⟩ : ∃ X, X = X5 ++ (Uv.uv key.size ++ sb key) := ⟨_, rfl⟩
  have hl6 : X6.length ≤ 95 := by rw [hX]; simp only [List.length_append, List.length_cons, List.length_nil, sb_length]; omega
  have HX6 := Lib.hid hX
  rw [List.append_assoc, ← hX] at V6
  clear hw h b hX
  clear x0 x1 x2 x3 x4 x5 x6
  obtain ⟨x0, x1, x2, x3, x4, x5, x6⟩ := (BX1.out.below D6.out (by omega)).facts
  simp only at x0 x1 x2 x3 x4 x5 x6
  go_wp2_with fail
  refine (rraw_is w1.heap.size w1.heap.size v6 X6 (some ⟨w.heap.size + 1, 0, none⟩) val.size c0 ys w6 V6.out (R1'.out.below D6.out) (by rw [← HY.out, sb_length]) (by omega) D6.out.size).mono ?_
  intro e w7 hw
  obtain ⟨v7, rfl, h, b⟩ := hw.to' V6.out
  have V7 := Lib.hid h
  have D7 := Lib.hid (D6.out.trans b)
  obtain ⟨X7, hX⟩ : ∃ X, X = X6 ++ ys := ⟨_, rfl⟩
  have hl7 : X7.length ≤ 1119 := by rw [hX]; simp only [List.length_append]; omega
  have HX7 := Lib.hid hX
  rw [← hX] at V7
  clear hw h b hX
  go_wp2_with fail
  refine (rbytes_w w1.heap.size w1.heap.size v7 X7 w7 V7.out (by omega)).mono ?_
  rintro e wz ⟨Az, cz, rfl, hoz, hbz⟩
  have OZ := Lib.hid hoz
  have BZ := Lib.hid hbz
  clear hoz hbz
  go_wp2_with fail
  go_ret
  exact got8_of (HD.out.trans (by rw [HX7.out, HX6.out, HX5.out, HX4.out, HX3.out]; simp only [List.nil_append, List.append_assoc, List.append_nil])) OZ.out (T1.out.trans (D7.out.mono (by omega))) BZ.out
set_option maxHeartbeats 2000000 in
set_option maxRecDepth 100000 in
theorem rrecbody_1fff (x : Rc) (w : World) (hm : May x) (kk : ¬ x.k = 2) (c2 : (shrt (sb x.val)).2 = false) (hp : ¬ 0 < x.p) (c4 : ¬ (enc (sb x.val)).2 = 0) : Calls Try.prog 82 #[x.v] w fun e w' => Got8 w w' e (bdy x) := by
  obtain ⟨k, o, t, p, s, key, val⟩ := x
  obtain ⟨m1, m2, m3, m4, m5, m6, m7, m8, m9⟩ := hm
  simp only at m1 m2 m3 m4 m5 m6 m7 m8 m9
  obtain ⟨o, rfl⟩ : ∃ n : Nat, o = (n : Int) := ⟨o.toNat, by omega⟩
  obtain ⟨t, rfl⟩ : ∃ n : Nat, t = (n : Int) := ⟨t.toNat, by omega⟩
  obtain ⟨p, rfl⟩ : ∃ n : Nat, p = (n : Int) := ⟨p.toNat, by omega⟩
  obtain ⟨s, rfl⟩ : ∃ n : Nat, s = (n : Int) := ⟨s.toNat, by omega⟩
  obtain ⟨q, hq⟩ : ∃ q, shrt (sb val) = q := ⟨_, rfl⟩
  obtain ⟨ys, sm⟩ := q
  have hyl : ys.length ≤ 1024 := by have h := shrt_len (sb val); rw [hq, sb_length] at h; simp only at h; omega
  have hsm : k = 2 → sm = false := fun h => by
    have h0 := m9 h
    cases sm with
    | false => rfl
    | true =>
      have h1 := hq
      unfold shrt at h1
      rw [sb_length, h0] at h1
      rw [if_neg (by omega)] at h1
      simp at h1
  have HQ := Lib.hid hq
  have HBD : Hid (∀ F N, flg ⟨k, o, t, p, s, key, val⟩ = F → nums ⟨k, o, t, p, s, key, val⟩ = N → bdy ⟨k, o, t, p, s, key, val⟩ = [F] ++ Uv.uv o ++ Uv.uv t ++ N ++ Uv.uv key.size ++ sb key ++ ys) := Lib.hid (fun F N h1 h2 => by unfold bdy; rw [h1, h2]; simp only [hq, Int.toNat_natCast])
  have hlo := Uv.uv_len_64 o (by omega)
  have hlt := Uv.uv_len_64 t (by omega)
  have hlp := Uv.uv_len_64 p (by omega)
  have hls := Uv.uv_len_64 s (by omega)
  have hlk := Uv.uv_len_64 key.size (by omega)
  unfold Rc.v
  simp only
  simp only at kk c2 hp c4
  rw [hq] at c2
  simp only at c2
  subst c2
  obtain ⟨eb, hE⟩ : ∃ q, enc (sb val) = q := ⟨_, rfl⟩
  obtain ⟨es, ez⟩ := eb
  have hsh : (if ez = 0 ∧ es.length < val.size then (es, true) else (sb val, false)) = (ys, false) := by
    rw [← hq]
    unfold shrt
    rw [hE, sb_length]
  have HE := Lib.hid hE
  clear hq hE
  have hez : ¬ ez = 0 := by have h := HE.out; rw [h] at c4; exact c4
  clear c4
  have PE := Lib.hid (fun A c W (hr : Rd W A (b8 (sb val))) (hc : val.size ≤ c) => rencode_is A val.size c (sb val) W hr (sb_length val) (sb_by val) (by omega))
  have k1 : (k == 2) = false := by rw [beq_eq_false_iff_ne]; exact kk
  have HD := Lib.hid (HBD.out 0 [] (by unfold flg; simp only [HQ.out]; have hp1 : p = 0 := (by omega); simp [hp1, kk]) (by unfold nums; simp only [Int.toNat_natCast]; rw [if_neg hp]))
  have he : ¬ (ez = 0 ∧ es.length < val.size) := by
    intro h
    rw [if_pos h] at hsh
    simp at hsh
  rw [if_neg he] at hsh
  injection hsh with hy _
  have HY := Lib.hid hy
  clear hy
  have he3 : (ez == 0) = false := by rw [beq_eq_false_iff_ne]; exact hez
  clear he
  clear HBD HQ m9 hsm m1 m6
  go_enter Try.func82, Try.ntmps82
  go_wp2_with (refine wpList_bytes _ rfl (.tmp 9) 9 25 5 rfl Try.underlying9 Try.underlying25 Try.underlying5 val rfl ?_; intro c0 w0 zs hrow hcm hbel hzl; have HR0 := Lib.hid hrow; have HB0 := Lib.hid hbel; clear hrow hzl hbel)
  have hr0 := HR0.out
  rw [World.size_alloc] at hr0
  have R0 := Lib.hid (rd_row8 hr0)
  have hz0 : w.heap.size + 2 ≤ w0.heap.size := by have := hr0.lt; omega
  have hb0 := HB0.out
  rw [World.size_alloc] at hb0
  clear hr0 HR0 HB0
  have BX0 := Lib.hid ((RBox.new w ⟨k, o, t, p, s, key, val⟩).below hb0 (by simp))
  refine (PE.out _ c0 w0 R0.out hcm).mono ?_
  rw [HE.out]
  rintro e w1 ⟨A1, c1, rfl, ho1, hb1⟩
  simp only at ho1 ⊢
  have R1 := Lib.hid (R0.out.below hb1)
  have BX1 := Lib.hid (BX0.out.below hb1 (by omega))
  have T1 := Lib.hid ((((Below.refl w.heap.size w).alloc (Nat.le_refl _) (.cells #[.int .i64 k, .int .i64 o, .int .i64 t, .int .i64 p, .int .i64 s, .string key, .string val] 62)).trans (hb0.mono (by simp))).trans (hb1.mono (by omega)))
  have hz1 : w.heap.size + 1 ≤ w1.heap.size := by have := hb1.size; omega
  clear ho1 hb1 hb0
  have R1' : Hid (Rd w1 (some ⟨w.heap.size + 1, 0, none⟩) (b8 ys)) := Lib.hid (by rw [← HY.out]; simpa using R1.out)
  obtain ⟨x0, x1, x2, x3, x4, x5, x6⟩ := (BX1.out).facts
  simp only at x0 x1 x2 x3 x4 x5 x6
  go_wp2_with fail
  refine (rnew_is w1).mono ?_
  rintro e w2 ⟨rfl, hw2⟩
  have V2 : Hid (Wr w1.heap.size w2 106 w1.heap.size (.slice none 0 0) []) := Lib.hid (by rw [hw2]; exact rnew_wr w1.heap.size w1 (Nat.le_refl _))
  have D2 : Hid (Below w1.heap.size w1 w2) := Lib.hid (by rw [hw2]; exact (Below.refl _ _).alloc (Nat.le_refl _) _)
  have hl2 : ([] : List Nat).length ≤ 0 := Nat.le_refl _
  clear hw2
  clear x0 x1 x2 x3 x4 x5 x6
  obtain ⟨x0, x1, x2, x3, x4, x5, x6⟩ := (BX1.out.below D2.out (by omega)).facts
  simp only at x0 x1 x2 x3 x4 x5 x6
  go_wp2_with fail
  refine (rbyte_is w1.heap.size w1.heap.size (.slice none 0 0) [] 0 w2 V2.out  (by omega) D2.out.size).mono ?_
  intro e w3 hw
  obtain ⟨v3, rfl, h, b⟩ := hw.to' V2.out
  have V3 := Lib.hid h
  have D3 := Lib.hid (D2.out.trans b)
  obtain ⟨X3, hX⟩ : ∃ X, X = [] ++ [0] := ⟨_, rfl⟩
  have hl3 : X3.length ≤ 1 := by rw [hX]; simp only [List.length_append, List.length_cons, List.length_nil, sb_length]; omega
  have HX3 := Lib.hid hX
  rw [← hX] at V3
  clear hw h b hX
  clear x0 x1 x2 x3 x4 x5 x6
  obtain ⟨x0, x1, x2, x3, x4, x5, x6⟩ := (BX1.out.below D3.out (by omega)).facts
  simp only at x0 x1 x2 x3 x4 x5 x6
  go_wp2_with fail
  refine (ruvarint_w w1.heap.size w1.heap.size v3 X3 o w3 V3.out (by omega) (by omega) D3.out.size).mono ?_
  intro e w4 hw
  obtain ⟨v4, rfl, h, b⟩ := hw.to' V3.out
  have V4 := Lib.hid h
  have D4 := Lib.hid (D3.out.trans b)
  obtain ⟨X4, hX⟩ : ∃ X, X = X3 ++ Uv.uv o := ⟨_, rfl⟩
  have hl4 : X4.length ≤ 11 := by rw [hX]; simp only [List.length_append, List.length_cons, List.length_nil, sb_length]; omega
  have HX4 := Lib.hid hX
  rw [← hX] at V4
  clear hw h b hX
  clear x0 x1 x2 x3 x4 x5 x6
  obtain ⟨x0, x1, x2, x3, x4, x5, x6⟩ := (BX1.out.below D4.out (by omega)).facts
  simp only at x0 x1 x2 x3 x4 x5 x6
  go_wp2_with fail
  refine (ruvarint_w w1.heap.size w1.heap.size v4 X4 t w4 V4.out (by omega) (by omega) D4.out.size).mono ?_
  intro e w5 hw
  obtain ⟨v5, rfl, h, b⟩ := hw.to' V4.out
  have V5 := Lib.hid h
  have D5 := Lib.hid (D4.out.trans b)
  obtain ⟨X5, hX⟩ : ∃ X, X = X4 ++ Uv.uv t := ⟨_, rfl⟩
  have hl5 : X5.length ≤ 21 := by rw [hX]; simp only [List.length_append, List.length_cons, List.length_nil, sb_length]; omega
  have HX5 := Lib.hid hX
  rw [← hX] at V5
  clear hw h b hX
  clear x0 x1 x2 x3 x4 x5 x6
  obtain ⟨x0, x1, x2, x3, x4, x5, x6⟩ := (BX1.out.below D5.out (by omega)).facts
  simp only at x0 x1 x2 x3 x4 x5 x6
  go_wp2_with fail
  refine (rtext_w w1.heap.size w1.heap.size v5 X5 key w5 V5.out  (by omega) D5.out.size).mono ?_
  intro e w6 hw
  obtain ⟨v6, rfl, h, b⟩ := hw.to' V5.out
  have V6 := Lib.hid h
  have D6 := Lib.hid (D5.out.trans b)
  obtain ⟨X6, hX⟩ : ∃ X, X = X5 ++ (Uv.uv key.size ++ sb key) := ⟨_, rfl⟩
  have hl6 : X6.length ≤ 95 := by rw [hX]; simp only [List.length_append, List.length_cons, List.length_nil, sb_length]; omega
  have HX6 := Lib.hid hX
  rw [List.append_assoc, ← hX] at V6
  clear hw h b hX
  clear x0 x1 x2 x3 x4 x5 x6
  obtain ⟨x0, x1, x2, x3, x4, x5, x6⟩ := (BX1.out.below D6.out (by omega)).facts
  simp only at x0 x1 x2 x3 x4 x5 x6
  go_wp2_with fail
  refine (rraw_is w1.heap.size w1.heap.size v6 X6 (some ⟨w.heap.size + 1, 0, none⟩) val.size c0 ys w6 V6.out (R1'.out.below D6.out) (by rw [← HY.out, sb_length]) (by omega) D6.out.size).mono ?_
  intro e w7 hw
  obtain ⟨v7, rfl, h, b⟩ := hw.to' V6.out
  have V7 := Lib.hid h
  have D7 := Lib.hid (D6.out.trans b)
  obtain ⟨X7, hX⟩ : ∃ X, X = X6 ++ ys := ⟨_, rfl⟩
  have hl7 : X7.length ≤ 1119 := by rw [hX]; simp only [List.length_append]; omega
  have HX7 := Lib.hid hX
  rw [← hX] at V7
  clear hw h b hX
  go_wp2_with fail
  refine (rbytes_w w1.heap.size w1.heap.size v7 X7 w7 V7.out (by omega)).mono ?_
  rintro e wz ⟨Az, cz, rfl, hoz, hbz⟩
  have OZ := Lib.hid hoz
  have BZ := Lib.hid hbz
  clear hoz hbz
  go_wp2_with fail
  go_ret
  exact got8_of (HD.out.trans (by rw [HX7.out, HX6.out, HX5.out, HX4.out, HX3.out]; simp only [List.nil_append, List.append_assoc, List.append_nil])) OZ.out (T1.out.trans (D7.out.mono (by omega))) BZ.out
set_option maxHeartbeats 2000000 in
set_option maxRecDepth 100000 in
theorem rrecbody_1tt (x : Rc) (w : World) (hm : May x) (kk : ¬ x.k = 2) (c2 : (shrt (sb x.val)).2 = true) (hp : 0 < x.p) : Calls Try.prog 82 #[x.v] w fun e w' => Got8 w w' e (bdy x) := by
  obtain ⟨k, o, t, p, s, key, val⟩ := x
  obtain ⟨m1, m2, m3, m4, m5, m6, m7, m8, m9⟩ := hm
  simp only at m1 m2 m3 m4 m5 m6 m7 m8 m9
  obtain ⟨o, rfl⟩ : ∃ n : Nat, o = (n : Int) := ⟨o.toNat, by omega⟩
  obtain ⟨t, rfl⟩ : ∃ n : Nat, t = (n : Int) := ⟨t.toNat, by omega⟩
  obtain ⟨p, rfl⟩ : ∃ n : Nat, p = (n : Int) := ⟨p.toNat, by omega⟩
  obtain ⟨s, rfl⟩ : ∃ n : Nat, s = (n : Int) := ⟨s.toNat, by omega⟩
  obtain ⟨q, hq⟩ : ∃ q, shrt (sb val) = q := ⟨_, rfl⟩
  obtain ⟨ys, sm⟩ := q
  have hyl : ys.length ≤ 1024 := by have h := shrt_len (sb val); rw [hq, sb_length] at h; simp only at h; omega
  have hsm : k = 2 → sm = false := fun h => by
    have h0 := m9 h
    cases sm with
    | false => rfl
    | true =>
      have h1 := hq
      unfold shrt at h1
      rw [sb_length, h0] at h1
      rw [if_neg (by omega)] at h1
      simp at h1
  have HQ := Lib.hid hq
  have HBD : Hid (∀ F N, flg ⟨k, o, t, p, s, key, val⟩ = F → nums ⟨k, o, t, p, s, key, val⟩ = N → bdy ⟨k, o, t, p, s, key, val⟩ = [F] ++ Uv.uv o ++ Uv.uv t ++ N ++ Uv.uv key.size ++ sb key ++ ys) := Lib.hid (fun F N h1 h2 => by unfold bdy; rw [h1, h2]; simp only [hq, Int.toNat_natCast])
  have hlo := Uv.uv_len_64 o (by omega)
  have hlt := Uv.uv_len_64 t (by omega)
  have hlp := Uv.uv_len_64 p (by omega)
  have hls := Uv.uv_len_64 s (by omega)
  have hlk := Uv.uv_len_64 key.size (by omega)
  unfold Rc.v
  simp only
  simp only at kk c2 hp
  rw [hq] at c2
  simp only at c2
  subst c2
  obtain ⟨eb, hE⟩ : ∃ q, enc (sb val) = q := ⟨_, rfl⟩
  obtain ⟨es, ez⟩ := eb
  have hsh : (if ez = 0 ∧ es.length < val.size then (es, true) else (sb val, false)) = (ys, true) := by
    rw [← hq]
    unfold shrt
    rw [hE, sb_length]
  have HE := Lib.hid hE
  clear hq hE
  have PE := Lib.hid (fun A c W (hr : Rd W A (b8 (sb val))) (hc : val.size ≤ c) => rencode_is A val.size c (sb val) W hr (sb_length val) (sb_by val) (by omega))
  have k1 : (k == 2) = false := by rw [beq_eq_false_iff_ne]; exact kk
  have HD := Lib.hid (HBD.out 6 (Uv.uv p ++ Uv.uv s) (by unfold flg; simp only [HQ.out]; have hp1 : 0 < p := (by omega); simp [hp1, kk]) (by unfold nums; simp only [Int.toNat_natCast]; rw [if_pos hp]))
  have he : ez = 0 ∧ es.length < val.size := by
    apply Classical.byContradiction
    intro h
    rw [if_neg h] at hsh
    simp at hsh
  rw [if_pos he] at hsh
  injection hsh with hy _
  subst hy
  obtain ⟨ys, hys⟩ : ∃ ys, ys = es := ⟨_, rfl⟩
  subst hys
  obtain ⟨rfl, he2⟩ := he
  have he3 : (ys.length : Int) < (val.size : Int) := by omega
  clear HBD HQ m9 hsm m1 m6
  go_enter Try.func82, Try.ntmps82
  go_wp2_with (refine wpList_bytes _ rfl (.tmp 9) 9 25 5 rfl Try.underlying9 Try.underlying25 Try.underlying5 val rfl ?_; intro c0 w0 zs hrow hcm hbel hzl; have HR0 := Lib.hid hrow; have HB0 := Lib.hid hbel; clear hrow hzl hbel)
  have hr0 := HR0.out
  rw [World.size_alloc] at hr0
  have R0 := Lib.hid (rd_row8 hr0)
  have hz0 : w.heap.size + 2 ≤ w0.heap.size := by have := hr0.lt; omega
  have hb0 := HB0.out
  rw [World.size_alloc] at hb0
  clear hr0 HR0 HB0
  have BX0 := Lib.hid ((RBox.new w ⟨k, o, t, p, s, key, val⟩).below hb0 (by simp))
  refine (PE.out _ c0 w0 R0.out hcm).mono ?_
  rw [HE.out]
  rintro e w1 ⟨A1, c1, rfl, ho1, hb1⟩
  simp only at ho1 ⊢
  have R1 := Lib.hid (rd_own ho1)
  have BX1 := Lib.hid (BX0.out.below hb1 (by omega))
  have T1 := Lib.hid ((((Below.refl w.heap.size w).alloc (Nat.le_refl _) (.cells #[.int .i64 k, .int .i64 o, .int .i64 t, .int .i64 p, .int .i64 s, .string key, .string val] 62)).trans (hb0.mono (by simp))).trans (hb1.mono (by omega)))
  have hz1 : w.heap.size + 1 ≤ w1.heap.size := by have := hb1.size; omega
  clear ho1 hb1 hb0
  have R1' := R1
  obtain ⟨x0, x1, x2, x3, x4, x5, x6⟩ := (BX1.out).facts
  simp only at x0 x1 x2 x3 x4 x5 x6
  go_wp2_with fail
  refine (rnew_is w1).mono ?_
  rintro e w2 ⟨rfl, hw2⟩
  have V2 : Hid (Wr w1.heap.size w2 106 w1.heap.size (.slice none 0 0) []) := Lib.hid (by rw [hw2]; exact rnew_wr w1.heap.size w1 (Nat.le_refl _))
  have D2 : Hid (Below w1.heap.size w1 w2) := Lib.hid (by rw [hw2]; exact (Below.refl _ _).alloc (Nat.le_refl _) _)
  have hl2 : ([] : List Nat).length ≤ 0 := Nat.le_refl _
  clear hw2
  clear x0 x1 x2 x3 x4 x5 x6
  obtain ⟨x0, x1, x2, x3, x4, x5, x6⟩ := (BX1.out.below D2.out (by omega)).facts
  simp only at x0 x1 x2 x3 x4 x5 x6
  go_wp2_with fail
  refine (rbyte_is w1.heap.size w1.heap.size (.slice none 0 0) [] 6 w2 V2.out  (by omega) D2.out.size).mono ?_
  intro e w3 hw
  obtain ⟨v3, rfl, h, b⟩ := hw.to' V2.out
  have V3 := Lib.hid h
  have D3 := Lib.hid (D2.out.trans b)
  obtain ⟨X3, hX⟩ : ∃ X, X = [] ++ [6] := ⟨_, rfl⟩
  have hl3 : X3.length ≤ 1 := by rw [hX]; simp only [List.length_append, List.length_cons, List.length_nil, sb_length]; omega
  have HX3 := Lib.hid hX
  rw [← hX] at V3
  clear hw h b hX
  clear x0 x1 x2 x3 x4 x5 x6
  obtain ⟨x0, x1, x2, x3, x4, x5, x6⟩ := (BX1.out.below D3.out (by omega)).facts
  simp only at x0 x1 x2 x3 x4 x5 x6
  go_wp2_with fail
  refine (ruvarint_w w1.heap.size w1.heap.size v3 X3 o w3 V3.out (by omega) (by omega) D3.out.size).mono ?_
  intro e w4 hw
  obtain ⟨v4, rfl, h, b⟩ := hw.to' V3.out
  have V4 := Lib.hid h
  have D4 := Lib.hid (D3.out.trans b)
  obtain ⟨X4, hX⟩ : ∃ X, X = X3 ++ Uv.uv o := ⟨_, rfl⟩
  have hl4 : X4.length ≤ 11 := by rw [hX]; simp only [List.length_append, List.length_cons, List.length_nil, sb_length]; omega
  have HX4 := Lib.hid hX
  rw [← hX] at V4
  clear hw h b hX
  clear x0 x1 x2 x3 x4 x5 x6
  obtain ⟨x0, x1, x2, x3, x4, x5, x6⟩ := (BX1.out.below D4.out (by omega)).facts
  simp only at x0 x1 x2 x3 x4 x5 x6
  go_wp2_with fail
  refine (ruvarint_w w1.heap.size w1.heap.size v4 X4 t w4 V4.out (by omega) (by omega) D4.out.size).mono ?_
  intro e w5 hw
  obtain ⟨v5, rfl, h, b⟩ := hw.to' V4.out
  have V5 := Lib.hid h
  have D5 := Lib.hid (D4.out.trans b)
  obtain ⟨X5, hX⟩ : ∃ X, X = X4 ++ Uv.uv t := ⟨_, rfl⟩
  have hl5 : X5.length ≤ 21 := by rw [hX]; simp only [List.length_append, List.length_cons, List.length_nil, sb_length]; omega
  have HX5 := Lib.hid hX
  rw [← hX] at V5
  clear hw h b hX
  clear x0 x1 x2 x3 x4 x5 x6
  obtain ⟨x0, x1, x2, x3, x4, x5, x6⟩ := (BX1.out.below D5.out (by omega)).facts
  simp only at x0 x1 x2 x3 x4 x5 x6
  go_wp2_with fail
  refine (ruvarint_w w1.heap.size w1.heap.size v5 X5 p w5 V5.out (by omega) (by omega) D5.out.size).mono ?_
  intro e w6 hw
  obtain ⟨v6, rfl, h, b⟩ := hw.to' V5.out
  have V6 := Lib.hid h
  have D6 := Lib.hid (D5.out.trans b)
  obtain ⟨X6, hX⟩ : ∃ X, X = X5 ++ Uv.uv p := ⟨_, rfl⟩
  have hl6 : X6.length ≤ 31 := by rw [hX]; simp only [List.length_append, List.length_cons, List.length_nil, sb_length]; omega
  have HX6 := Lib.hid hX
  rw [← hX] at V6
  clear hw h b hX
  clear x0 x1 x2 x3 x4 x5 x6
  obtain ⟨x0, x1, x2, x3, x4, x5, x6⟩ := (BX1.out.below D6.out (by omega)).facts
  simp only at x0 x1 x2 x3 x4 x5 x6
  go_wp2_with fail
  refine (ruvarint_w w1.heap.size w1.heap.size v6 X6 s w6 V6.out (by omega) (by omega) D6.out.size).mono ?_
  intro e w7 hw
  obtain ⟨v7, rfl, h, b⟩ := hw.to' V6.out
  have V7 := Lib.hid h
  have D7 := Lib.hid (D6.out.trans b)
  obtain ⟨X7, hX⟩ : ∃ X, X = X6 ++ Uv.uv s := ⟨_, rfl⟩
  have hl7 : X7.length ≤ 41 := by rw [hX]; simp only [List.length_append, List.length_cons, List.length_nil, sb_length]; omega
  have HX7 := Lib.hid hX
  rw [← hX] at V7
  clear hw h b hX
  clear x0 x1 x2 x3 x4 x5 x6
  obtain ⟨x0, x1, x2, x3, x4, x5, x6⟩ := (BX1.out.below D7.out (by omega)).facts
  simp only at x0 x1 x2 x3 x4 x5 x6
  go_wp2_with fail
  refine (rtext_w w1.heap.size w1.heap.size v7 X7 key w7 V7.out  (by omega) D7.out.size).mono ?_
  intro e w8 hw
  obtain ⟨v8, rfl, h, b⟩ := hw.to' V7.out
  have V8 := Lib.hid h
  have D8 := Lib.hid (D7.out.trans b)
  obtain ⟨X8, hX⟩ : ∃ X, X = X7 ++ (Uv.uv key.size ++ sb key) := ⟨_, rfl⟩
  have hl8 : X8.length ≤ 115 := by rw [hX]; simp only [List.length_append, List.length_cons, List.length_nil, sb_length]; omega
  have HX8 := Lib.hid hX
  rw [List.append_assoc, ← hX] at V8
  clear hw h b hX
  clear x0 x1 x2 x3 x4 x5 x6
  obtain ⟨x0, x1, x2, x3, x4, x5, x6⟩ := (BX1.out.below D8.out (by omega)).facts
  simp only at x0 x1 x2 x3 x4 x5 x6
  go_wp2_with fail
  refine (rraw_is w1.heap.size w1.heap.size v8 X8 A1 ys.length c1 ys w8 V8.out (R1'.out.below D8.out) rfl (by omega) D8.out.size).mono ?_
  intro e w9 hw
  obtain ⟨v9, rfl, h, b⟩ := hw.to' V8.out
  have V9 := Lib.hid h
  have D9 := Lib.hid (D8.out.trans b)
  obtain ⟨X9, hX⟩ : ∃ X, X = X8 ++ ys := ⟨_, rfl⟩
  have hl9 : X9.length ≤ 1139 := by rw [hX]; simp only [List.length_append]; omega
  have HX9 := Lib.hid hX
  rw [← hX] at V9
  clear hw h b hX
  go_wp2_with fail
  refine (rbytes_w w1.heap.size w1.heap.size v9 X9 w9 V9.out (by omega)).mono ?_
  rintro e wz ⟨Az, cz, rfl, hoz, hbz⟩
  have OZ := Lib.hid hoz
  have BZ := Lib.hid hbz
  clear hoz hbz
  go_wp2_with fail
  go_ret
  exact got8_of (HD.out.trans (by rw [HX9.out, HX8.out, HX7.out, HX6.out, HX5.out, HX4.out, HX3.out]; simp only [List.nil_append, List.append_assoc, List.append_nil])) OZ.out (T1.out.trans (D9.out.mono (by omega))) BZ.out
set_option maxHeartbeats 2000000 in
set_option maxRecDepth 100000 in
theorem rrecbody_1tf (x : Rc) (w : World) (hm : May x) (kk : ¬ x.k = 2) (c2 : (shrt (sb x.val)).2 = true) (hp : ¬ 0 < x.p) : Calls Try.prog 82 #[x.v] w fun e w' => Got8 w w' e (bdy x) := by
  obtain ⟨k, o, t, p, s, key, val⟩ := x
  obtain ⟨m1, m2, m3, m4, m5, m6, m7, m8, m9⟩ := hm
  simp only at m1 m2 m3 m4 m5 m6 m7 m8 m9
  obtain ⟨o, rfl⟩ : ∃ n : Nat, o = (n : Int) := ⟨o.toNat, by omega⟩
  obtain ⟨t, rfl⟩ : ∃ n : Nat, t = (n : Int) := ⟨t.toNat, by omega⟩
  obtain ⟨p, rfl⟩ : ∃ n : Nat, p = (n : Int) := ⟨p.toNat, by omega⟩
  obtain ⟨s, rfl⟩ : ∃ n : Nat, s = (n : Int) := ⟨s.toNat, by omega⟩
  obtain ⟨q, hq⟩ : ∃ q, shrt (sb val) = q := ⟨_, rfl⟩
  obtain ⟨ys, sm⟩ := q
  have hyl : ys.length ≤ 1024 := by have h := shrt_len (sb val); rw [hq, sb_length] at h; simp only at h; omega
  have hsm : k = 2 → sm = false := fun h => by
    have h0 := m9 h
    cases sm with
    | false => rfl
    | true =>
      have h1 := hq
      unfold shrt at h1
      rw [sb_length, h0] at h1
      rw [if_neg (by omega)] at h1
      simp at h1
  have HQ := Lib.hid hq
  have HBD : Hid (∀ F N, flg ⟨k, o, t, p, s, key, val⟩ = F → nums ⟨k, o, t, p, s, key, val⟩ = N → bdy ⟨k, o, t, p, s, key, val⟩ = [F] ++ Uv.uv o ++ Uv.uv t ++ N ++ Uv.uv key.size ++ sb key ++ ys) := Lib.hid (fun F N h1 h2 => by unfold bdy; rw [h1, h2]; simp only [hq, Int.toNat_natCast])
  have hlo := Uv.uv_len_64 o (by omega)
  have hlt := Uv.uv_len_64 t (by omega)
  have hlp := Uv.uv_len_64 p (by omega)
  have hls := Uv.uv_len_64 s (by omega)
  have hlk := Uv.uv_len_64 key.size (by omega)
  unfold Rc.v
  simp only
  simp only at kk c2 hp
  rw [hq] at c2
  simp only at c2
  subst c2
  obtain ⟨eb, hE⟩ : ∃ q, enc (sb val) = q := ⟨_, rfl⟩
  obtain ⟨es, ez⟩ := eb
  have hsh : (if ez = 0 ∧ es.length < val.size then (es, true) else (sb val, false)) = (ys, true) := by
    rw [← hq]
    unfold shrt
    rw [hE, sb_length]
  have HE := Lib.hid hE
  clear hq hE
  have PE := Lib.hid (fun A c W (hr : Rd W A (b8 (sb val))) (hc : val.size ≤ c) => rencode_is A val.size c (sb val) W hr (sb_length val) (sb_by val) (by omega))
  have k1 : (k == 2) = false := by rw [beq_eq_false_iff_ne]; exact kk
  have HD := Lib.hid (HBD.out 2 [] (by unfold flg; simp only [HQ.out]; have hp1 : p = 0 := (by omega); simp [hp1, kk]) (by unfold nums; simp only [Int.toNat_natCast]; rw [if_neg hp]))
  have he : ez = 0 ∧ es.length < val.size := by
    apply Classical.byContradiction
    intro h
    rw [if_neg h] at hsh
    simp at hsh
  rw [if_pos he] at hsh
  injection hsh with hy _
  subst hy
  obtain ⟨ys, hys⟩ : ∃ ys, ys = es := ⟨_, rfl⟩
  subst hys
  obtain ⟨rfl, he2⟩ := he
  have he3 : (ys.length : Int) < (val.size : Int) := by omega
  clear HBD HQ m9 hsm m1 m6
  go_enter Try.func82, Try.ntmps82
  go_wp2_with (refine wpList_bytes _ rfl (.tmp 9) 9 25 5 rfl Try.underlying9 Try.underlying25 Try.underlying5 val rfl ?_; intro c0 w0 zs hrow hcm hbel hzl; have HR0 := Lib.hid hrow; have HB0 := Lib.hid hbel; clear hrow hzl hbel)
  have hr0 := HR0.out
  rw [World.size_alloc] at hr0
  have R0 := Lib.hid (rd_row8 hr0)
  have hz0 : w.heap.size + 2 ≤ w0.heap.size := by have := hr0.lt; omega
  have hb0 := HB0.out
  rw [World.size_alloc] at hb0
  clear hr0 HR0 HB0
  have BX0 := Lib.hid ((RBox.new w ⟨k, o, t, p, s, key, val⟩).below hb0 (by simp))
  refine (PE.out _ c0 w0 R0.out hcm).mono ?_
  rw [HE.out]
  rintro e w1 ⟨A1, c1, rfl, ho1, hb1⟩
  simp only at ho1 ⊢
  have R1 := Lib.hid (rd_own ho1)
  have BX1 := Lib.hid (BX0.out.below hb1 (by omega))
  have T1 := Lib.hid ((((Below.refl w.heap.size w).alloc (Nat.le_refl _) (.cells #[.int .i64 k, .int .i64 o, .int .i64 t, .int .i64 p, .int .i64 s, .string key, .string val] 62)).trans (hb0.mono (by simp))).trans (hb1.mono (by omega)))
  have hz1 : w.heap.size + 1 ≤ w1.heap.size := by have := hb1.size; omega
  clear ho1 hb1 hb0
  have R1' := R1
  obtain ⟨x0, x1, x2, x3, x4, x5, x6⟩ := (BX1.out).facts
  simp only at x0 x1 x2 x3 x4 x5 x6
  go_wp2_with fail
  refine (rnew_is w1).mono ?_
  rintro e w2 ⟨rfl, hw2⟩
  have V2 : Hid (Wr w1.heap.size w2 106 w1.heap.size (.slice none 0 0) []) := Lib.hid (by rw [hw2]; exact rnew_wr w1.heap.size w1 (Nat.le_refl _))
  have D2 : Hid (Below w1.heap.size w1 w2) := Lib.hid (by rw [hw2]; exact (Below.refl _ _).alloc (Nat.le_refl _) _)
  have hl2 : ([] : List Nat).length ≤ 0 := Nat.le_refl _
  clear hw2
  clear x0 x1 x2 x3 x4 x5 x6
  obtain ⟨x0, x1, x2, x3, x4, x5, x6⟩ := (BX1.out.below D2.out (by omega)).facts
  simp only at x0 x1 x2 x3 x4 x5 x6
  go_wp2_with fail
  refine (rbyte_is w1.heap.size w1.heap.size (.slice none 0 0) [] 2 w2 V2.out  (by omega) D2.out.size).mono ?_
  intro e w3 hw
  obtain ⟨v3, rfl, h, b⟩ := hw.to' V2.out
  have V3 := Lib.hid h
  have D3 := Lib.hid (D2.out.trans b)
  obtain ⟨X3, hX⟩ : ∃ X, X = [] ++ [2] := ⟨_, rfl⟩
  have hl3 : X3.length ≤ 1 := by rw [hX]; simp only [List.length_append, List.length_cons, List.length_nil, sb_length]; omega
  have HX3 := Lib.hid hX
  rw [← hX] at V3
  clear hw h b hX
  clear x0 x1 x2 x3 x4 x5 x6
  obtain ⟨x0, x1, x2, x3, x4, x5, x6⟩ := (BX1.out.below D3.out (by omega)).facts
  simp only at x0 x1 x2 x3 x4 x5 x6
  go_wp2_with fail
  refine (ruvarint_w w1.heap.size w1.heap.size v3 X3 o w3 V3.out (by omega) (by omega) D3.out.size).mono ?_
  intro e w4 hw
  obtain ⟨v4, rfl, h, b⟩ := hw.to' V3.out
  have V4 := Lib.hid h
  have D4 := Lib.hid (D3.out.trans b)
  obtain ⟨X4, hX⟩ : ∃ X, X = X3 ++ Uv.uv o := ⟨_, rfl⟩
  have hl4 : X4.length ≤ 11 := by rw [hX]; simp only [List.length_append, List.length_cons, List.length_nil, sb_length]; omega
  have HX4 := Lib.hid hX
  rw [← hX] at V4
  clear hw h b hX
  clear x0 x1 x2 x3 x4 x5 x6
  obtain ⟨x0, x1, x2, x3, x4, x5, x6⟩ := (BX1.out.below D4.out (by omega)).facts
  simp only at x0 x1 x2 x3 x4 x5 x6
  go_wp2_with fail
  refine (ruvarint_w w1.heap.size w1.heap.size v4 X4 t w4 V4.out (by omega) (by omega) D4.out.size).mono ?_
  intro e w5 hw
  obtain ⟨v5, rfl, h, b⟩ := hw.to' V4.out
  have V5 := Lib.hid h
  have D5 := Lib.hid (D4.out.trans b)
  obtain ⟨X5, hX⟩ : ∃ X, X = X4 ++ Uv.uv t := ⟨_, rfl⟩
  have hl5 : X5.length ≤ 21 := by rw [hX]; simp only [List.length_append, List.length_cons, List.length_nil, sb_length]; omega
  have HX5 := Lib.hid hX
  rw [← hX] at V5
  clear hw h b hX
  clear x0 x1 x2 x3 x4 x5 x6
  obtain ⟨x0, x1, x2, x3, x4, x5, x6⟩ := (BX1.out.below D5.out (by omega)).facts
  simp only at x0 x1 x2 x3 x4 x5 x6
  go_wp2_with fail
  refine (rtext_w w1.heap.size w1.heap.size v5 X5 key w5 V5.out  (by omega) D5.out.size).mono ?_
  intro e w6 hw
  obtain ⟨v6, rfl, h, b⟩ := hw.to' V5.out
  have V6 := Lib.hid h
  have D6 := Lib.hid (D5.out.trans b)
  obtain ⟨X6, hX⟩ : ∃ X, X = X5 ++ (Uv.uv key.size ++ sb key) := ⟨_, rfl⟩
  have hl6 : X6.length ≤ 95 := by rw [hX]; simp only [List.length_append, List.length_cons, List.length_nil, sb_length]; omega
  have HX6 := Lib.hid hX
  rw [List.append_assoc, ← hX] at V6
  clear hw h b hX
  clear x0 x1 x2 x3 x4 x5 x6
  obtain ⟨x0, x1, x2, x3, x4, x5, x6⟩ := (BX1.out.below D6.out (by omega)).facts
  simp only at x0 x1 x2 x3 x4 x5 x6
  go_wp2_with fail
  refine (rraw_is w1.heap.size w1.heap.size v6 X6 A1 ys.length c1 ys w6 V6.out (R1'.out.below D6.out) rfl (by omega) D6.out.size).mono ?_
  intro e w7 hw
  obtain ⟨v7, rfl, h, b⟩ := hw.to' V6.out
  have V7 := Lib.hid h
  have D7 := Lib.hid (D6.out.trans b)
  obtain ⟨X7, hX⟩ : ∃ X, X = X6 ++ ys := ⟨_, rfl⟩
  have hl7 : X7.length ≤ 1119 := by rw [hX]; simp only [List.length_append]; omega
  have HX7 := Lib.hid hX
  rw [← hX] at V7
  clear hw h b hX
  go_wp2_with fail
  refine (rbytes_w w1.heap.size w1.heap.size v7 X7 w7 V7.out (by omega)).mono ?_
  rintro e wz ⟨Az, cz, rfl, hoz, hbz⟩
  have OZ := Lib.hid hoz
  have BZ := Lib.hid hbz
  clear hoz hbz
  go_wp2_with fail
  go_ret
  exact got8_of (HD.out.trans (by rw [HX7.out, HX6.out, HX5.out, HX4.out, HX3.out]; simp only [List.nil_append, List.append_assoc, List.append_nil])) OZ.out (T1.out.trans (D7.out.mono (by omega))) BZ.out
theorem rrecbody_is (x : Rc) (w : World) (hm : May x) : Calls Try.prog 82 #[x.v] w fun e w' => Got8 w w' e (bdy x) := by
  have hsm : x.k = 2 → (shrt (sb x.val)).2 = false := fun h => by
    have h0 := hm.tomb h
    unfold shrt
    rw [sb_length, h0, if_neg (by omega)]
  by_cases kk : x.k = 2
  · by_cases hp : 0 < x.p
    · by_cases hez : (enc (sb x.val)).2 = 0
      · exact rrecbody_2ftt x w hm kk (hsm kk) hp hez
      · exact rrecbody_2ftf x w hm kk (hsm kk) hp hez
    · by_cases hez : (enc (sb x.val)).2 = 0
      · exact rrecbody_2fft x w hm kk (hsm kk) hp hez
      · exact rrecbody_2fff x w hm kk (hsm kk) hp hez
  · by_cases c2 : (shrt (sb x.val)).2 = true
    · by_cases hp : 0 < x.p
      · exact rrecbody_1tt x w hm kk c2 hp
      · exact rrecbody_1tf x w hm kk c2 hp
    · have c2 : (shrt (sb x.val)).2 = false := by simpa using c2
      by_cases hp : 0 < x.p
      · by_cases hez : (enc (sb x.val)).2 = 0
        · exact rrecbody_1ftt x w hm kk c2 hp hez
        · exact rrecbody_1ftf x w hm kk c2 hp hez
      · by_cases hez : (enc (sb x.val)).2 = 0
        · exact rrecbody_1fft x w hm kk c2 hp hez
        · exact rrecbody_1fff x w hm kk c2 hp hez
end Go.Proofs.Ytljfmcgeiceagaa
