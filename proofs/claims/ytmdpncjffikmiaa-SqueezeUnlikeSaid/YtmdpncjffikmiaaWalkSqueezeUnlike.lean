/- The walk of SqueezeUnlike (printed by gen_squnl.py). -/
import Derived.Test.YtmdpncjffikmiaaSqHead
namespace Go.Proofs.Ytmdpncjffikmiaa
open Go Go.RowKit
set_option linter.unusedVariables false
set_option linter.unusedSimpArgs false

theorem unl_ne {Y : List Nat} {k t y : Nat} (hy : Y[k]? = some y) (ht : t ≠ y) : Y.set k t ≠ Y := by
  intro h
  have h1 : (Y.set k t)[k]? = Y[k]? := by rw [h]
  rw [List.getElem?_set_self (List.getElem?_eq_some_iff.1 hy).1, hy] at h1
  injection h1 with h1
  exact ht h1
theorem rd_keptL {w0 W W' : World} {A : Option Addr} {xs : List Value} {S : Nat → Prop} (h0 : Rd w0 A xs) (h : Rd W A xs) (hk : KeptS W W' S) (hS : ∀ q, q < w0.heap.size → ¬ S q) : Rd W' A xs := by
  intro hn
  obtain ⟨g, off, e, hg, _⟩ := h0 hn
  exact rd_kept h hk (fun a ha => by rw [e] at ha; injection ha with ha; subst ha; exact hS _ hg) hn
theorem unl_same {bs t Y : List Nat} (h : enc bs = (Y, 0)) {Z : List Nat} (ht : enc t = (Z, 0)) (hz : Z ≠ Y) : t ≠ bs := by
  intro e
  subst e
  rw [h] at ht
  injection ht with ht _
  exact hz ht.symm

theorem tmod_lt (a : Int) {n : Int} (hn : 0 < n) : -n < a.tmod n ∧ a.tmod n < n := by
  have h1 := Int.tmod_lt_of_pos a hn
  rcases Int.le_total 0 a with h | h
  · have := Int.tmod_nonneg n h; omega
  · have h2 := Int.neg_tmod (-a) n
    have h3 := Int.tmod_lt_of_pos (-a) hn
    have h4 := Int.tmod_nonneg n (show 0 ≤ -a by omega)
    rw [Int.neg_neg] at h2
    omega

set_option maxHeartbeats 8000000 in
set_option maxRecDepth 100000 in
theorem squeezeUnlike_walk (A0 : Option Addr) (c0 : Nat) (b0 : List Nat) (a1 : Int) (a2 : Nat) (w : World) (c0l : b0.length ≤ c0) (r0 : Rd w A0 (b8 b0)) (y0 : By b0) (l0 : b0.length ≤ 140737488351232) (w1' : -9223372036854775808 ≤ a1 ∧ a1 ≤ 9223372036854775807) (w2' : a2 < 256) :
    Calls Try.prog 11 #[.slice A0 b0.length c0, .int .i64 a1, .int .u8 (a2 : Int)] w fun e w' => e = .returned (.bool true) ∧ Below w.heap.size w w' := by
  obtain ⟨n, hn⟩ : ∃ n, n = b0.length := ⟨_, rfl⟩
  rw [← hn] at c0l l0 ⊢
  by_cases hlong : 4096 < n
  · obtain ⟨bs, hbs⟩ : ∃ bs, bs = b0.take 4096 := ⟨_, rfl⟩
    have HBL : Hid (bs.length = 4096) := Lib.hid (by rw [hbs, List.length_take]; omega)
    have HBB : Hid (By bs) := Lib.hid (by rw [hbs]; exact y0.take 4096)
    have R0 : Hid (Rd w A0 (b8 bs)) := Lib.hid (by rw [hbs, b8_take]; exact r0.take_ 4096)
    have i1 : (4096 : Int) ≤ (c0 : Int) := by omega
    have HE : Hid (enc bs = (blk 4096 (tokens bs), 0)) := Lib.hid (by rw [enc_short (by rw [HBL.out]; omega), HBL.out])
    have HYB : Hid (By (blk 4096 (tokens bs))) := Lib.hid (by have h := by_blk HBB.out; rw [HBL.out] at h; exact h)
    have hyl : (blk 4096 (tokens bs)).length ≤ 100000000 := by have h := blk_len (t := bs) (by rw [HBL.out]; omega); rw [HBL.out] at h; exact h
    have hyp : 1 ≤ (blk 4096 (tokens bs)).length := by have h := (blk_bnd (t := bs) (by rw [HBL.out]; omega)).2; rw [HBL.out] at h; exact h
    obtain ⟨Y, hY⟩ : ∃ Y, Y = blk 4096 (tokens bs) := ⟨_, rfl⟩
    rw [← hY] at HE HYB hyl hyp
    clear hY
    have hyz : ((Y.length : Int) == 0) = false := by rw [beq_eq_false_iff_ne]; omega
    have hyn : (Y.length : Int) ≠ 0 := by omega
    clear r0 y0 hn hbs
    go_enter Try.func11, Try.ntmps11
    go_wp2_with fail
    refine (encode_is A0 4096 c0 bs w R0.out HBL.out HBB.out (by omega) (by omega)).mono ?_
    rw [HE.out]
    rintro e w1 ⟨A1, c1, rfl, ho1, hb1⟩
    simp only at ho1 ⊢
    have O1 := Lib.hid ho1
    have HH1 := Lib.hid hb1
    have R0_1 := Lib.hid (R0.out.below HH1.out)
    have TB_1 := Lib.hid (HH1.out)
    have hz_1 := TB_1.out.size
    have R1 := Lib.hid (rd_own O1.out)
    clear ho1 hb1
    obtain ⟨g1, rfl, hg1, hg2, _, _⟩ := own_pos O1.out hyp
    have hr1 : -(Y.length : Int) < a1.tmod (Y.length : Int) ∧ a1.tmod (Y.length : Int) < (Y.length : Int) := tmod_lt a1 (by omega)
    obtain ⟨r, hr⟩ : ∃ r, a1.tmod (Y.length : Int) = r := ⟨_, rfl⟩
    rw [hr] at hr1
    obtain ⟨hr2, hr3⟩ := hr1
    by_cases hneg : 0 ≤ r
    · obtain ⟨k, rfl⟩ : ∃ k : Nat, r = (k : Int) := ⟨r.toNat, by omega⟩
      have hkl : k < Y.length := by omega
      obtain ⟨y, hy⟩ : ∃ y, Y[k]? = some y := ⟨_, List.getElem?_eq_getElem hkl⟩
      have hy8 : y < 256 := HYB.out y (List.mem_of_getElem? hy)
      have hcy := World.ownsRow.cellAt O1.out k (by omega)
      rw [b8_get, hy] at hcy
      simp only [Option.map_some] at hcy
      have hf := World.ownsRow.frozenAt O1.out k
      have HYK := Lib.hid hy
      have k0 : (0 : Int) ≤ (k : Int) := by omega
      have k1 : (k : Int) < (Y.length : Int) := by omega
      clear hy
      by_cases hya : y ≠ a2
      · have hye : ((y : Int) == (a2 : Int)) = false := by rw [beq_eq_false_iff_ne]; omega
        obtain ⟨Z, hZ⟩ : ∃ Z, Z = Y.set k a2 := ⟨_, rfl⟩
        have HZL : Hid (Z.length = Y.length) := Lib.hid (by rw [hZ, List.length_set])
        have HZB : Hid (By Z) := Lib.hid (by rw [hZ]; intro b hb; rcases List.mem_or_eq_of_mem_set hb with h | h; { exact HYB.out b h }; { rw [h]; omega })
        have HZN : Hid (Z ≠ Y) := Lib.hid (by rw [hZ]; exact unl_ne HYK.out (by omega))
        have hst := World.ownsRow.stored O1.out k (.int .u8 (a2 : Int))
        rw [show (b8 Y).set k (.int .u8 (a2 : Int)) = b8 Z from by rw [hZ, ← b8_set'']] at hst
        have RZ := Lib.hid (rd_own hst.1)
        have HG2 := Lib.hid (KeptS.of_grown (S := fun q => some g1 = some q) hst.2 (fun q hq => hq))
        have R0_2 : Hid (Rd (w1.setCell ⟨g1, k, none⟩ (.int .u8 (a2 : Int))) A0 (b8 bs)) := Lib.hid (rd_keptL R0.out R0_1.out HG2.out (fun q hq e => by injection e with e; omega))
        have TB_2 : Hid (Below w.heap.size w (w1.setCell ⟨g1, k, none⟩ (.int .u8 (a2 : Int)))) := Lib.hid (TB_1.out.trans (HG2.out.below (fun q hq => by injection hq with hq; omega) hz_1))
        obtain ⟨W2, hW2⟩ : ∃ W2, W2 = w1.setCell ⟨g1, k, none⟩ (.int .u8 (a2 : Int)) := ⟨_, rfl⟩
        have HW2 := Lib.hid hW2
        rw [← hW2] at RZ R0_2 TB_2
        have hz_2 := TB_2.out.size
        clear hst hZ hW2
        rcases dec_cases HZB.out (by rw [HZL.out]; omega) with hdz | ⟨u, hdz, hez, hu4, hub⟩
        · have HD := Lib.hid hdz
          clear hdz
          go_wp2_with fail
          rw [← HW2.out]
          refine (decode_is _ Y.length c1 Z W2 RZ.out HZL.out HZB.out (by omega)).mono ?_
          rw [HD.out]
          rintro e w3 ⟨A3, c3, rfl, ho3, hb3⟩
          simp only at ho3 ⊢
          have O3 := Lib.hid ho3
          have HH3 := Lib.hid hb3
          have R0_3 := Lib.hid (R0_2.out.below HH3.out)
          have TB_3 := Lib.hid (TB_2.out.trans ((HH3.out).mono TB_2.out.size))
          have hz_3 := TB_3.out.size
          have R3 := Lib.hid (rd_own O3.out)
          clear ho3 hb3
          go_wp2_with fail
          refine (head_is w3).mono ?_
          rintro e w4 ⟨rfl, hb4⟩
          have HH4 := Lib.hid hb4
          have R0_4 := Lib.hid (R0_3.out.below HH4.out)
          have TB_4 := Lib.hid (TB_3.out.trans ((HH4.out).mono TB_3.out.size))
          have hz_4 := TB_4.out.size
          clear hb4
          go_wp2_with fail
          go_ret
          exact ⟨rfl, TB_4.out⟩
        · have HD := Lib.hid hdz
          have HNE := Lib.hid (unl_same HE.out hez HZN.out)
          clear hdz hez
          go_wp2_with fail
          rw [← HW2.out]
          refine (decode_is _ Y.length c1 Z W2 RZ.out HZL.out HZB.out (by omega)).mono ?_
          rw [HD.out]
          rintro e w3 ⟨A3, c3, rfl, ho3, hb3⟩
          simp only at ho3 ⊢
          have O3 := Lib.hid ho3
          have HH3 := Lib.hid hb3
          have R0_3 := Lib.hid (R0_2.out.below HH3.out)
          have TB_3 := Lib.hid (TB_2.out.trans ((HH3.out).mono TB_2.out.size))
          have hz_3 := TB_3.out.size
          have R3 := Lib.hid (rd_own O3.out)
          clear ho3 hb3
          go_wp2_with fail
          refine (lsame_no A3 A0 u.length 4096 c3 c0 u bs w3 R3.out R0_3.out rfl HBL.out (by omega) (by omega) HNE.out).mono ?_
          rintro e w4 ⟨rfl, d4, rfl⟩
          have HH4 := Lib.hid (below_drewN (Below.refl w3.heap.size w3) d4)
          obtain ⟨w4, hw4⟩ : ∃ w4 : World, w4 = w3.drewN d4 := ⟨_, rfl⟩
          rw [← hw4] at HH4 ⊢
          clear hw4
          have R0_4 := Lib.hid (R0_3.out.below HH4.out)
          have R3_4 := Lib.hid (R3.out.below HH4.out)
          have TB_4 := Lib.hid (TB_3.out.trans ((HH4.out).mono TB_3.out.size))
          have hz_4 := TB_4.out.size
          go_wp2_with fail
          go_ret
          exact ⟨rfl, TB_4.out⟩
      · have hyq : y = a2 := by omega
        have hye : ((y : Int) == (a2 : Int)) = true := by rw [beq_iff_eq]; omega
        by_cases hb : a2 < 255
        · have hb2 : (a2 : Int) + 1 ≤ 255 := by omega
          obtain ⟨Z, hZ⟩ : ∃ Z, Z = Y.set k (a2 + 1) := ⟨_, rfl⟩
          have HZL : Hid (Z.length = Y.length) := Lib.hid (by rw [hZ, List.length_set])
          have HZB : Hid (By Z) := Lib.hid (by rw [hZ]; intro b hb; rcases List.mem_or_eq_of_mem_set hb with h | h; { exact HYB.out b h }; { rw [h]; omega })
          have HZN : Hid (Z ≠ Y) := Lib.hid (by rw [hZ]; exact unl_ne HYK.out (by omega))
          have hst := World.ownsRow.stored O1.out k (.int .u8 ((a2 : Int) + 1))
          rw [show (b8 Y).set k (.int .u8 ((a2 : Int) + 1)) = b8 Z from by rw [hZ, ← b8_set'']; rfl] at hst
          have RZ := Lib.hid (rd_own hst.1)
          have HG2 := Lib.hid (KeptS.of_grown (S := fun q => some g1 = some q) hst.2 (fun q hq => hq))
          have R0_2 : Hid (Rd (w1.setCell ⟨g1, k, none⟩ (.int .u8 ((a2 : Int) + 1))) A0 (b8 bs)) := Lib.hid (rd_keptL R0.out R0_1.out HG2.out (fun q hq e => by injection e with e; omega))
          have TB_2 : Hid (Below w.heap.size w (w1.setCell ⟨g1, k, none⟩ (.int .u8 ((a2 : Int) + 1)))) := Lib.hid (TB_1.out.trans (HG2.out.below (fun q hq => by injection hq with hq; omega) hz_1))
          obtain ⟨W2, hW2⟩ : ∃ W2, W2 = w1.setCell ⟨g1, k, none⟩ (.int .u8 ((a2 : Int) + 1)) := ⟨_, rfl⟩
          have HW2 := Lib.hid hW2
          rw [← hW2] at RZ R0_2 TB_2
          have hz_2 := TB_2.out.size
          clear hst hZ hW2
          rcases dec_cases HZB.out (by rw [HZL.out]; omega) with hdz | ⟨u, hdz, hez, hu4, hub⟩
          · have HD := Lib.hid hdz
            clear hdz
            go_wp2_with fail
            rw [← HW2.out]
            refine (decode_is _ Y.length c1 Z W2 RZ.out HZL.out HZB.out (by omega)).mono ?_
            rw [HD.out]
            rintro e w3 ⟨A3, c3, rfl, ho3, hb3⟩
            simp only at ho3 ⊢
            have O3 := Lib.hid ho3
            have HH3 := Lib.hid hb3
            have R0_3 := Lib.hid (R0_2.out.below HH3.out)
            have TB_3 := Lib.hid (TB_2.out.trans ((HH3.out).mono TB_2.out.size))
            have hz_3 := TB_3.out.size
            have R3 := Lib.hid (rd_own O3.out)
            clear ho3 hb3
            go_wp2_with fail
            refine (head_is w3).mono ?_
            rintro e w4 ⟨rfl, hb4⟩
            have HH4 := Lib.hid hb4
            have R0_4 := Lib.hid (R0_3.out.below HH4.out)
            have TB_4 := Lib.hid (TB_3.out.trans ((HH4.out).mono TB_3.out.size))
            have hz_4 := TB_4.out.size
            clear hb4
            go_wp2_with fail
            go_ret
            exact ⟨rfl, TB_4.out⟩
          · have HD := Lib.hid hdz
            have HNE := Lib.hid (unl_same HE.out hez HZN.out)
            clear hdz hez
            go_wp2_with fail
            rw [← HW2.out]
            refine (decode_is _ Y.length c1 Z W2 RZ.out HZL.out HZB.out (by omega)).mono ?_
            rw [HD.out]
            rintro e w3 ⟨A3, c3, rfl, ho3, hb3⟩
            simp only at ho3 ⊢
            have O3 := Lib.hid ho3
            have HH3 := Lib.hid hb3
            have R0_3 := Lib.hid (R0_2.out.below HH3.out)
            have TB_3 := Lib.hid (TB_2.out.trans ((HH3.out).mono TB_2.out.size))
            have hz_3 := TB_3.out.size
            have R3 := Lib.hid (rd_own O3.out)
            clear ho3 hb3
            go_wp2_with fail
            refine (lsame_no A3 A0 u.length 4096 c3 c0 u bs w3 R3.out R0_3.out rfl HBL.out (by omega) (by omega) HNE.out).mono ?_
            rintro e w4 ⟨rfl, d4, rfl⟩
            have HH4 := Lib.hid (below_drewN (Below.refl w3.heap.size w3) d4)
            obtain ⟨w4, hw4⟩ : ∃ w4 : World, w4 = w3.drewN d4 := ⟨_, rfl⟩
            rw [← hw4] at HH4 ⊢
            clear hw4
            have R0_4 := Lib.hid (R0_3.out.below HH4.out)
            have R3_4 := Lib.hid (R3.out.below HH4.out)
            have TB_4 := Lib.hid (TB_3.out.trans ((HH4.out).mono TB_3.out.size))
            have hz_4 := TB_4.out.size
            go_wp2_with fail
            go_ret
            exact ⟨rfl, TB_4.out⟩
        · have hb2 : a2 = 255 := by omega
          subst hb2
          obtain ⟨Z, hZ⟩ : ∃ Z, Z = Y.set k 0 := ⟨_, rfl⟩
          have HZL : Hid (Z.length = Y.length) := Lib.hid (by rw [hZ, List.length_set])
          have HZB : Hid (By Z) := Lib.hid (by rw [hZ]; intro b hb; rcases List.mem_or_eq_of_mem_set hb with h | h; { exact HYB.out b h }; { rw [h]; omega })
          have HZN : Hid (Z ≠ Y) := Lib.hid (by rw [hZ]; exact unl_ne HYK.out (by omega))
          have hst := World.ownsRow.stored O1.out k (.int .u8 0)
          rw [show (b8 Y).set k (.int .u8 0) = b8 Z from by rw [hZ, ← b8_set'']; rfl] at hst
          have RZ := Lib.hid (rd_own hst.1)
          have HG2 := Lib.hid (KeptS.of_grown (S := fun q => some g1 = some q) hst.2 (fun q hq => hq))
          have R0_2 : Hid (Rd (w1.setCell ⟨g1, k, none⟩ (.int .u8 0)) A0 (b8 bs)) := Lib.hid (rd_keptL R0.out R0_1.out HG2.out (fun q hq e => by injection e with e; omega))
          have TB_2 : Hid (Below w.heap.size w (w1.setCell ⟨g1, k, none⟩ (.int .u8 0))) := Lib.hid (TB_1.out.trans (HG2.out.below (fun q hq => by injection hq with hq; omega) hz_1))
          obtain ⟨W2, hW2⟩ : ∃ W2, W2 = w1.setCell ⟨g1, k, none⟩ (.int .u8 0) := ⟨_, rfl⟩
          have HW2 := Lib.hid hW2
          rw [← hW2] at RZ R0_2 TB_2
          have hz_2 := TB_2.out.size
          clear hst hZ hW2
          rcases dec_cases HZB.out (by rw [HZL.out]; omega) with hdz | ⟨u, hdz, hez, hu4, hub⟩
          · have HD := Lib.hid hdz
            clear hdz
            go_wp2_with fail
            rw [← HW2.out]
            refine (decode_is _ Y.length c1 Z W2 RZ.out HZL.out HZB.out (by omega)).mono ?_
            rw [HD.out]
            rintro e w3 ⟨A3, c3, rfl, ho3, hb3⟩
            simp only at ho3 ⊢
            have O3 := Lib.hid ho3
            have HH3 := Lib.hid hb3
            have R0_3 := Lib.hid (R0_2.out.below HH3.out)
            have TB_3 := Lib.hid (TB_2.out.trans ((HH3.out).mono TB_2.out.size))
            have hz_3 := TB_3.out.size
            have R3 := Lib.hid (rd_own O3.out)
            clear ho3 hb3
            go_wp2_with fail
            refine (head_is w3).mono ?_
            rintro e w4 ⟨rfl, hb4⟩
            have HH4 := Lib.hid hb4
            have R0_4 := Lib.hid (R0_3.out.below HH4.out)
            have TB_4 := Lib.hid (TB_3.out.trans ((HH4.out).mono TB_3.out.size))
            have hz_4 := TB_4.out.size
            clear hb4
            go_wp2_with fail
            go_ret
            exact ⟨rfl, TB_4.out⟩
          · have HD := Lib.hid hdz
            have HNE := Lib.hid (unl_same HE.out hez HZN.out)
            clear hdz hez
            go_wp2_with fail
            rw [← HW2.out]
            refine (decode_is _ Y.length c1 Z W2 RZ.out HZL.out HZB.out (by omega)).mono ?_
            rw [HD.out]
            rintro e w3 ⟨A3, c3, rfl, ho3, hb3⟩
            simp only at ho3 ⊢
            have O3 := Lib.hid ho3
            have HH3 := Lib.hid hb3
            have R0_3 := Lib.hid (R0_2.out.below HH3.out)
            have TB_3 := Lib.hid (TB_2.out.trans ((HH3.out).mono TB_2.out.size))
            have hz_3 := TB_3.out.size
            have R3 := Lib.hid (rd_own O3.out)
            clear ho3 hb3
            go_wp2_with fail
            refine (lsame_no A3 A0 u.length 4096 c3 c0 u bs w3 R3.out R0_3.out rfl HBL.out (by omega) (by omega) HNE.out).mono ?_
            rintro e w4 ⟨rfl, d4, rfl⟩
            have HH4 := Lib.hid (below_drewN (Below.refl w3.heap.size w3) d4)
            obtain ⟨w4, hw4⟩ : ∃ w4 : World, w4 = w3.drewN d4 := ⟨_, rfl⟩
            rw [← hw4] at HH4 ⊢
            clear hw4
            have R0_4 := Lib.hid (R0_3.out.below HH4.out)
            have R3_4 := Lib.hid (R3.out.below HH4.out)
            have TB_4 := Lib.hid (TB_3.out.trans ((HH4.out).mono TB_3.out.size))
            have hz_4 := TB_4.out.size
            go_wp2_with fail
            go_ret
            exact ⟨rfl, TB_4.out⟩
    · obtain ⟨k, hk⟩ : ∃ k : Nat, (k : Int) = r + (Y.length : Int) := ⟨(r + (Y.length : Int)).toNat, by omega⟩
      have hkl : k < Y.length := by omega
      have hadd : r + (Y.length : Int) = (k : Int) := hk.symm
      clear hk
      obtain ⟨y, hy⟩ : ∃ y, Y[k]? = some y := ⟨_, List.getElem?_eq_getElem hkl⟩
      have hy8 : y < 256 := HYB.out y (List.mem_of_getElem? hy)
      have hcy := World.ownsRow.cellAt O1.out k (by omega)
      rw [b8_get, hy] at hcy
      simp only [Option.map_some] at hcy
      have hf := World.ownsRow.frozenAt O1.out k
      have HYK := Lib.hid hy
      have k0 : (0 : Int) ≤ (k : Int) := by omega
      have k1 : (k : Int) < (Y.length : Int) := by omega
      clear hy
      by_cases hya : y ≠ a2
      · have hye : ((y : Int) == (a2 : Int)) = false := by rw [beq_eq_false_iff_ne]; omega
        obtain ⟨Z, hZ⟩ : ∃ Z, Z = Y.set k a2 := ⟨_, rfl⟩
        have HZL : Hid (Z.length = Y.length) := Lib.hid (by rw [hZ, List.length_set])
        have HZB : Hid (By Z) := Lib.hid (by rw [hZ]; intro b hb; rcases List.mem_or_eq_of_mem_set hb with h | h; { exact HYB.out b h }; { rw [h]; omega })
        have HZN : Hid (Z ≠ Y) := Lib.hid (by rw [hZ]; exact unl_ne HYK.out (by omega))
        have hst := World.ownsRow.stored O1.out k (.int .u8 (a2 : Int))
        rw [show (b8 Y).set k (.int .u8 (a2 : Int)) = b8 Z from by rw [hZ, ← b8_set'']] at hst
        have RZ := Lib.hid (rd_own hst.1)
        have HG2 := Lib.hid (KeptS.of_grown (S := fun q => some g1 = some q) hst.2 (fun q hq => hq))
        have R0_2 : Hid (Rd (w1.setCell ⟨g1, k, none⟩ (.int .u8 (a2 : Int))) A0 (b8 bs)) := Lib.hid (rd_keptL R0.out R0_1.out HG2.out (fun q hq e => by injection e with e; omega))
        have TB_2 : Hid (Below w.heap.size w (w1.setCell ⟨g1, k, none⟩ (.int .u8 (a2 : Int)))) := Lib.hid (TB_1.out.trans (HG2.out.below (fun q hq => by injection hq with hq; omega) hz_1))
        obtain ⟨W2, hW2⟩ : ∃ W2, W2 = w1.setCell ⟨g1, k, none⟩ (.int .u8 (a2 : Int)) := ⟨_, rfl⟩
        have HW2 := Lib.hid hW2
        rw [← hW2] at RZ R0_2 TB_2
        have hz_2 := TB_2.out.size
        clear hst hZ hW2
        rcases dec_cases HZB.out (by rw [HZL.out]; omega) with hdz | ⟨u, hdz, hez, hu4, hub⟩
        · have HD := Lib.hid hdz
          clear hdz
          go_wp2_with fail
          rw [← HW2.out]
          refine (decode_is _ Y.length c1 Z W2 RZ.out HZL.out HZB.out (by omega)).mono ?_
          rw [HD.out]
          rintro e w3 ⟨A3, c3, rfl, ho3, hb3⟩
          simp only at ho3 ⊢
          have O3 := Lib.hid ho3
          have HH3 := Lib.hid hb3
          have R0_3 := Lib.hid (R0_2.out.below HH3.out)
          have TB_3 := Lib.hid (TB_2.out.trans ((HH3.out).mono TB_2.out.size))
          have hz_3 := TB_3.out.size
          have R3 := Lib.hid (rd_own O3.out)
          clear ho3 hb3
          go_wp2_with fail
          refine (head_is w3).mono ?_
          rintro e w4 ⟨rfl, hb4⟩
          have HH4 := Lib.hid hb4
          have R0_4 := Lib.hid (R0_3.out.below HH4.out)
          have TB_4 := Lib.hid (TB_3.out.trans ((HH4.out).mono TB_3.out.size))
          have hz_4 := TB_4.out.size
          clear hb4
          go_wp2_with fail
          go_ret
          exact ⟨rfl, TB_4.out⟩
        · have HD := Lib.hid hdz
          have HNE := Lib.hid (unl_same HE.out hez HZN.out)
          clear hdz hez
          go_wp2_with fail
          rw [← HW2.out]
          refine (decode_is _ Y.length c1 Z W2 RZ.out HZL.out HZB.out (by omega)).mono ?_
          rw [HD.out]
          rintro e w3 ⟨A3, c3, rfl, ho3, hb3⟩
          simp only at ho3 ⊢
          have O3 := Lib.hid ho3
          have HH3 := Lib.hid hb3
          have R0_3 := Lib.hid (R0_2.out.below HH3.out)
          have TB_3 := Lib.hid (TB_2.out.trans ((HH3.out).mono TB_2.out.size))
          have hz_3 := TB_3.out.size
          have R3 := Lib.hid (rd_own O3.out)
          clear ho3 hb3
          go_wp2_with fail
          refine (lsame_no A3 A0 u.length 4096 c3 c0 u bs w3 R3.out R0_3.out rfl HBL.out (by omega) (by omega) HNE.out).mono ?_
          rintro e w4 ⟨rfl, d4, rfl⟩
          have HH4 := Lib.hid (below_drewN (Below.refl w3.heap.size w3) d4)
          obtain ⟨w4, hw4⟩ : ∃ w4 : World, w4 = w3.drewN d4 := ⟨_, rfl⟩
          rw [← hw4] at HH4 ⊢
          clear hw4
          have R0_4 := Lib.hid (R0_3.out.below HH4.out)
          have R3_4 := Lib.hid (R3.out.below HH4.out)
          have TB_4 := Lib.hid (TB_3.out.trans ((HH4.out).mono TB_3.out.size))
          have hz_4 := TB_4.out.size
          go_wp2_with fail
          go_ret
          exact ⟨rfl, TB_4.out⟩
      · have hyq : y = a2 := by omega
        have hye : ((y : Int) == (a2 : Int)) = true := by rw [beq_iff_eq]; omega
        by_cases hb : a2 < 255
        · have hb2 : (a2 : Int) + 1 ≤ 255 := by omega
          obtain ⟨Z, hZ⟩ : ∃ Z, Z = Y.set k (a2 + 1) := ⟨_, rfl⟩
          have HZL : Hid (Z.length = Y.length) := Lib.hid (by rw [hZ, List.length_set])
          have HZB : Hid (By Z) := Lib.hid (by rw [hZ]; intro b hb; rcases List.mem_or_eq_of_mem_set hb with h | h; { exact HYB.out b h }; { rw [h]; omega })
          have HZN : Hid (Z ≠ Y) := Lib.hid (by rw [hZ]; exact unl_ne HYK.out (by omega))
          have hst := World.ownsRow.stored O1.out k (.int .u8 ((a2 : Int) + 1))
          rw [show (b8 Y).set k (.int .u8 ((a2 : Int) + 1)) = b8 Z from by rw [hZ, ← b8_set'']; rfl] at hst
          have RZ := Lib.hid (rd_own hst.1)
          have HG2 := Lib.hid (KeptS.of_grown (S := fun q => some g1 = some q) hst.2 (fun q hq => hq))
          have R0_2 : Hid (Rd (w1.setCell ⟨g1, k, none⟩ (.int .u8 ((a2 : Int) + 1))) A0 (b8 bs)) := Lib.hid (rd_keptL R0.out R0_1.out HG2.out (fun q hq e => by injection e with e; omega))
          have TB_2 : Hid (Below w.heap.size w (w1.setCell ⟨g1, k, none⟩ (.int .u8 ((a2 : Int) + 1)))) := Lib.hid (TB_1.out.trans (HG2.out.below (fun q hq => by injection hq with hq; omega) hz_1))
          obtain ⟨W2, hW2⟩ : ∃ W2, W2 = w1.setCell ⟨g1, k, none⟩ (.int .u8 ((a2 : Int) + 1)) := ⟨_, rfl⟩
          have HW2 := Lib.hid hW2
          rw [← hW2] at RZ R0_2 TB_2
          have hz_2 := TB_2.out.size
          clear hst hZ hW2
          rcases dec_cases HZB.out (by rw [HZL.out]; omega) with hdz | ⟨u, hdz, hez, hu4, hub⟩
          · have HD := Lib.hid hdz
            clear hdz
            go_wp2_with fail
            rw [← HW2.out]
            refine (decode_is _ Y.length c1 Z W2 RZ.out HZL.out HZB.out (by omega)).mono ?_
            rw [HD.out]
            rintro e w3 ⟨A3, c3, rfl, ho3, hb3⟩
            simp only at ho3 ⊢
            have O3 := Lib.hid ho3
            have HH3 := Lib.hid hb3
            have R0_3 := Lib.hid (R0_2.out.below HH3.out)
            have TB_3 := Lib.hid (TB_2.out.trans ((HH3.out).mono TB_2.out.size))
            have hz_3 := TB_3.out.size
            have R3 := Lib.hid (rd_own O3.out)
            clear ho3 hb3
            go_wp2_with fail
            refine (head_is w3).mono ?_
            rintro e w4 ⟨rfl, hb4⟩
            have HH4 := Lib.hid hb4
            have R0_4 := Lib.hid (R0_3.out.below HH4.out)
            have TB_4 := Lib.hid (TB_3.out.trans ((HH4.out).mono TB_3.out.size))
            have hz_4 := TB_4.out.size
            clear hb4
            go_wp2_with fail
            go_ret
            exact ⟨rfl, TB_4.out⟩
          · have HD := Lib.hid hdz
            have HNE := Lib.hid (unl_same HE.out hez HZN.out)
            clear hdz hez
            go_wp2_with fail
            rw [← HW2.out]
            refine (decode_is _ Y.length c1 Z W2 RZ.out HZL.out HZB.out (by omega)).mono ?_
            rw [HD.out]
            rintro e w3 ⟨A3, c3, rfl, ho3, hb3⟩
            simp only at ho3 ⊢
            have O3 := Lib.hid ho3
            have HH3 := Lib.hid hb3
            have R0_3 := Lib.hid (R0_2.out.below HH3.out)
            have TB_3 := Lib.hid (TB_2.out.trans ((HH3.out).mono TB_2.out.size))
            have hz_3 := TB_3.out.size
            have R3 := Lib.hid (rd_own O3.out)
            clear ho3 hb3
            go_wp2_with fail
            refine (lsame_no A3 A0 u.length 4096 c3 c0 u bs w3 R3.out R0_3.out rfl HBL.out (by omega) (by omega) HNE.out).mono ?_
            rintro e w4 ⟨rfl, d4, rfl⟩
            have HH4 := Lib.hid (below_drewN (Below.refl w3.heap.size w3) d4)
            obtain ⟨w4, hw4⟩ : ∃ w4 : World, w4 = w3.drewN d4 := ⟨_, rfl⟩
            rw [← hw4] at HH4 ⊢
            clear hw4
            have R0_4 := Lib.hid (R0_3.out.below HH4.out)
            have R3_4 := Lib.hid (R3.out.below HH4.out)
            have TB_4 := Lib.hid (TB_3.out.trans ((HH4.out).mono TB_3.out.size))
            have hz_4 := TB_4.out.size
            go_wp2_with fail
            go_ret
            exact ⟨rfl, TB_4.out⟩
        · have hb2 : a2 = 255 := by omega
          subst hb2
          obtain ⟨Z, hZ⟩ : ∃ Z, Z = Y.set k 0 := ⟨_, rfl⟩
          have HZL : Hid (Z.length = Y.length) := Lib.hid (by rw [hZ, List.length_set])
          have HZB : Hid (By Z) := Lib.hid (by rw [hZ]; intro b hb; rcases List.mem_or_eq_of_mem_set hb with h | h; { exact HYB.out b h }; { rw [h]; omega })
          have HZN : Hid (Z ≠ Y) := Lib.hid (by rw [hZ]; exact unl_ne HYK.out (by omega))
          have hst := World.ownsRow.stored O1.out k (.int .u8 0)
          rw [show (b8 Y).set k (.int .u8 0) = b8 Z from by rw [hZ, ← b8_set'']; rfl] at hst
          have RZ := Lib.hid (rd_own hst.1)
          have HG2 := Lib.hid (KeptS.of_grown (S := fun q => some g1 = some q) hst.2 (fun q hq => hq))
          have R0_2 : Hid (Rd (w1.setCell ⟨g1, k, none⟩ (.int .u8 0)) A0 (b8 bs)) := Lib.hid (rd_keptL R0.out R0_1.out HG2.out (fun q hq e => by injection e with e; omega))
          have TB_2 : Hid (Below w.heap.size w (w1.setCell ⟨g1, k, none⟩ (.int .u8 0))) := Lib.hid (TB_1.out.trans (HG2.out.below (fun q hq => by injection hq with hq; omega) hz_1))
          obtain ⟨W2, hW2⟩ : ∃ W2, W2 = w1.setCell ⟨g1, k, none⟩ (.int .u8 0) := ⟨_, rfl⟩
          have HW2 := Lib.hid hW2
          rw [← hW2] at RZ R0_2 TB_2
          have hz_2 := TB_2.out.size
          clear hst hZ hW2
          rcases dec_cases HZB.out (by rw [HZL.out]; omega) with hdz | ⟨u, hdz, hez, hu4, hub⟩
          · have HD := Lib.hid hdz
            clear hdz
            go_wp2_with fail
            rw [← HW2.out]
            refine (decode_is _ Y.length c1 Z W2 RZ.out HZL.out HZB.out (by omega)).mono ?_
            rw [HD.out]
            rintro e w3 ⟨A3, c3, rfl, ho3, hb3⟩
            simp only at ho3 ⊢
            have O3 := Lib.hid ho3
            have HH3 := Lib.hid hb3
            have R0_3 := Lib.hid (R0_2.out.below HH3.out)
            have TB_3 := Lib.hid (TB_2.out.trans ((HH3.out).mono TB_2.out.size))
            have hz_3 := TB_3.out.size
            have R3 := Lib.hid (rd_own O3.out)
            clear ho3 hb3
            go_wp2_with fail
            refine (head_is w3).mono ?_
            rintro e w4 ⟨rfl, hb4⟩
            have HH4 := Lib.hid hb4
            have R0_4 := Lib.hid (R0_3.out.below HH4.out)
            have TB_4 := Lib.hid (TB_3.out.trans ((HH4.out).mono TB_3.out.size))
            have hz_4 := TB_4.out.size
            clear hb4
            go_wp2_with fail
            go_ret
            exact ⟨rfl, TB_4.out⟩
          · have HD := Lib.hid hdz
            have HNE := Lib.hid (unl_same HE.out hez HZN.out)
            clear hdz hez
            go_wp2_with fail
            rw [← HW2.out]
            refine (decode_is _ Y.length c1 Z W2 RZ.out HZL.out HZB.out (by omega)).mono ?_
            rw [HD.out]
            rintro e w3 ⟨A3, c3, rfl, ho3, hb3⟩
            simp only at ho3 ⊢
            have O3 := Lib.hid ho3
            have HH3 := Lib.hid hb3
            have R0_3 := Lib.hid (R0_2.out.below HH3.out)
            have TB_3 := Lib.hid (TB_2.out.trans ((HH3.out).mono TB_2.out.size))
            have hz_3 := TB_3.out.size
            have R3 := Lib.hid (rd_own O3.out)
            clear ho3 hb3
            go_wp2_with fail
            refine (lsame_no A3 A0 u.length 4096 c3 c0 u bs w3 R3.out R0_3.out rfl HBL.out (by omega) (by omega) HNE.out).mono ?_
            rintro e w4 ⟨rfl, d4, rfl⟩
            have HH4 := Lib.hid (below_drewN (Below.refl w3.heap.size w3) d4)
            obtain ⟨w4, hw4⟩ : ∃ w4 : World, w4 = w3.drewN d4 := ⟨_, rfl⟩
            rw [← hw4] at HH4 ⊢
            clear hw4
            have R0_4 := Lib.hid (R0_3.out.below HH4.out)
            have R3_4 := Lib.hid (R3.out.below HH4.out)
            have TB_4 := Lib.hid (TB_3.out.trans ((HH4.out).mono TB_3.out.size))
            have hz_4 := TB_4.out.size
            go_wp2_with fail
            go_ret
            exact ⟨rfl, TB_4.out⟩
  · have HBL : Hid (b0.length = n) := Lib.hid hn.symm
    obtain ⟨bs, hbs⟩ : ∃ bs, bs = b0 := ⟨_, rfl⟩
    rw [← hbs] at HBL r0 y0
    have HBB := Lib.hid y0
    have R0 := Lib.hid r0
    have HE : Hid (enc bs = (blk n (tokens bs), 0)) := Lib.hid (by rw [enc_short (by rw [HBL.out]; omega), HBL.out])
    have HYB : Hid (By (blk n (tokens bs))) := Lib.hid (by have h := by_blk HBB.out; rw [HBL.out] at h; exact h)
    have hyl : (blk n (tokens bs)).length ≤ 100000000 := by have h := blk_len (t := bs) (by rw [HBL.out]; omega); rw [HBL.out] at h; exact h
    have hyp : 1 ≤ (blk n (tokens bs)).length := by have h := (blk_bnd (t := bs) (by rw [HBL.out]; omega)).2; rw [HBL.out] at h; exact h
    obtain ⟨Y, hY⟩ : ∃ Y, Y = blk n (tokens bs) := ⟨_, rfl⟩
    rw [← hY] at HE HYB hyl hyp
    clear hY
    have hyz : ((Y.length : Int) == 0) = false := by rw [beq_eq_false_iff_ne]; omega
    have hyn : (Y.length : Int) ≠ 0 := by omega
    clear r0 y0 hn hbs
    go_enter Try.func11, Try.ntmps11
    go_wp2_with fail
    refine (encode_is A0 n c0 bs w R0.out HBL.out HBB.out (by omega) (by omega)).mono ?_
    rw [HE.out]
    rintro e w1 ⟨A1, c1, rfl, ho1, hb1⟩
    simp only at ho1 ⊢
    have O1 := Lib.hid ho1
    have HH1 := Lib.hid hb1
    have R0_1 := Lib.hid (R0.out.below HH1.out)
    have TB_1 := Lib.hid (HH1.out)
    have hz_1 := TB_1.out.size
    have R1 := Lib.hid (rd_own O1.out)
    clear ho1 hb1
    obtain ⟨g1, rfl, hg1, hg2, _, _⟩ := own_pos O1.out hyp
    have hr1 : -(Y.length : Int) < a1.tmod (Y.length : Int) ∧ a1.tmod (Y.length : Int) < (Y.length : Int) := tmod_lt a1 (by omega)
    obtain ⟨r, hr⟩ : ∃ r, a1.tmod (Y.length : Int) = r := ⟨_, rfl⟩
    rw [hr] at hr1
    obtain ⟨hr2, hr3⟩ := hr1
    by_cases hneg : 0 ≤ r
    · obtain ⟨k, rfl⟩ : ∃ k : Nat, r = (k : Int) := ⟨r.toNat, by omega⟩
      have hkl : k < Y.length := by omega
      obtain ⟨y, hy⟩ : ∃ y, Y[k]? = some y := ⟨_, List.getElem?_eq_getElem hkl⟩
      have hy8 : y < 256 := HYB.out y (List.mem_of_getElem? hy)
      have hcy := World.ownsRow.cellAt O1.out k (by omega)
      rw [b8_get, hy] at hcy
      simp only [Option.map_some] at hcy
      have hf := World.ownsRow.frozenAt O1.out k
      have HYK := Lib.hid hy
      have k0 : (0 : Int) ≤ (k : Int) := by omega
      have k1 : (k : Int) < (Y.length : Int) := by omega
      clear hy
      by_cases hya : y ≠ a2
      · have hye : ((y : Int) == (a2 : Int)) = false := by rw [beq_eq_false_iff_ne]; omega
        obtain ⟨Z, hZ⟩ : ∃ Z, Z = Y.set k a2 := ⟨_, rfl⟩
        have HZL : Hid (Z.length = Y.length) := Lib.hid (by rw [hZ, List.length_set])
        have HZB : Hid (By Z) := Lib.hid (by rw [hZ]; intro b hb; rcases List.mem_or_eq_of_mem_set hb with h | h; { exact HYB.out b h }; { rw [h]; omega })
        have HZN : Hid (Z ≠ Y) := Lib.hid (by rw [hZ]; exact unl_ne HYK.out (by omega))
        have hst := World.ownsRow.stored O1.out k (.int .u8 (a2 : Int))
        rw [show (b8 Y).set k (.int .u8 (a2 : Int)) = b8 Z from by rw [hZ, ← b8_set'']] at hst
        have RZ := Lib.hid (rd_own hst.1)
        have HG2 := Lib.hid (KeptS.of_grown (S := fun q => some g1 = some q) hst.2 (fun q hq => hq))
        have R0_2 : Hid (Rd (w1.setCell ⟨g1, k, none⟩ (.int .u8 (a2 : Int))) A0 (b8 bs)) := Lib.hid (rd_keptL R0.out R0_1.out HG2.out (fun q hq e => by injection e with e; omega))
        have TB_2 : Hid (Below w.heap.size w (w1.setCell ⟨g1, k, none⟩ (.int .u8 (a2 : Int)))) := Lib.hid (TB_1.out.trans (HG2.out.below (fun q hq => by injection hq with hq; omega) hz_1))
        obtain ⟨W2, hW2⟩ : ∃ W2, W2 = w1.setCell ⟨g1, k, none⟩ (.int .u8 (a2 : Int)) := ⟨_, rfl⟩
        have HW2 := Lib.hid hW2
        rw [← hW2] at RZ R0_2 TB_2
        have hz_2 := TB_2.out.size
        clear hst hZ hW2
        rcases dec_cases HZB.out (by rw [HZL.out]; omega) with hdz | ⟨u, hdz, hez, hu4, hub⟩
        · have HD := Lib.hid hdz
          clear hdz
          go_wp2_with fail
          rw [← HW2.out]
          refine (decode_is _ Y.length c1 Z W2 RZ.out HZL.out HZB.out (by omega)).mono ?_
          rw [HD.out]
          rintro e w3 ⟨A3, c3, rfl, ho3, hb3⟩
          simp only at ho3 ⊢
          have O3 := Lib.hid ho3
          have HH3 := Lib.hid hb3
          have R0_3 := Lib.hid (R0_2.out.below HH3.out)
          have TB_3 := Lib.hid (TB_2.out.trans ((HH3.out).mono TB_2.out.size))
          have hz_3 := TB_3.out.size
          have R3 := Lib.hid (rd_own O3.out)
          clear ho3 hb3
          go_wp2_with fail
          refine (head_is w3).mono ?_
          rintro e w4 ⟨rfl, hb4⟩
          have HH4 := Lib.hid hb4
          have R0_4 := Lib.hid (R0_3.out.below HH4.out)
          have TB_4 := Lib.hid (TB_3.out.trans ((HH4.out).mono TB_3.out.size))
          have hz_4 := TB_4.out.size
          clear hb4
          go_wp2_with fail
          go_ret
          exact ⟨rfl, TB_4.out⟩
        · have HD := Lib.hid hdz
          have HNE := Lib.hid (unl_same HE.out hez HZN.out)
          clear hdz hez
          go_wp2_with fail
          rw [← HW2.out]
          refine (decode_is _ Y.length c1 Z W2 RZ.out HZL.out HZB.out (by omega)).mono ?_
          rw [HD.out]
          rintro e w3 ⟨A3, c3, rfl, ho3, hb3⟩
          simp only at ho3 ⊢
          have O3 := Lib.hid ho3
          have HH3 := Lib.hid hb3
          have R0_3 := Lib.hid (R0_2.out.below HH3.out)
          have TB_3 := Lib.hid (TB_2.out.trans ((HH3.out).mono TB_2.out.size))
          have hz_3 := TB_3.out.size
          have R3 := Lib.hid (rd_own O3.out)
          clear ho3 hb3
          go_wp2_with fail
          refine (lsame_no A3 A0 u.length n c3 c0 u bs w3 R3.out R0_3.out rfl HBL.out (by omega) (by omega) HNE.out).mono ?_
          rintro e w4 ⟨rfl, d4, rfl⟩
          have HH4 := Lib.hid (below_drewN (Below.refl w3.heap.size w3) d4)
          obtain ⟨w4, hw4⟩ : ∃ w4 : World, w4 = w3.drewN d4 := ⟨_, rfl⟩
          rw [← hw4] at HH4 ⊢
          clear hw4
          have R0_4 := Lib.hid (R0_3.out.below HH4.out)
          have R3_4 := Lib.hid (R3.out.below HH4.out)
          have TB_4 := Lib.hid (TB_3.out.trans ((HH4.out).mono TB_3.out.size))
          have hz_4 := TB_4.out.size
          go_wp2_with fail
          go_ret
          exact ⟨rfl, TB_4.out⟩
      · have hyq : y = a2 := by omega
        have hye : ((y : Int) == (a2 : Int)) = true := by rw [beq_iff_eq]; omega
        by_cases hb : a2 < 255
        · have hb2 : (a2 : Int) + 1 ≤ 255 := by omega
          obtain ⟨Z, hZ⟩ : ∃ Z, Z = Y.set k (a2 + 1) := ⟨_, rfl⟩
          have HZL : Hid (Z.length = Y.length) := Lib.hid (by rw [hZ, List.length_set])
          have HZB : Hid (By Z) := Lib.hid (by rw [hZ]; intro b hb; rcases List.mem_or_eq_of_mem_set hb with h | h; { exact HYB.out b h }; { rw [h]; omega })
          have HZN : Hid (Z ≠ Y) := Lib.hid (by rw [hZ]; exact unl_ne HYK.out (by omega))
          have hst := World.ownsRow.stored O1.out k (.int .u8 ((a2 : Int) + 1))
          rw [show (b8 Y).set k (.int .u8 ((a2 : Int) + 1)) = b8 Z from by rw [hZ, ← b8_set'']; rfl] at hst
          have RZ := Lib.hid (rd_own hst.1)
          have HG2 := Lib.hid (KeptS.of_grown (S := fun q => some g1 = some q) hst.2 (fun q hq => hq))
          have R0_2 : Hid (Rd (w1.setCell ⟨g1, k, none⟩ (.int .u8 ((a2 : Int) + 1))) A0 (b8 bs)) := Lib.hid (rd_keptL R0.out R0_1.out HG2.out (fun q hq e => by injection e with e; omega))
          have TB_2 : Hid (Below w.heap.size w (w1.setCell ⟨g1, k, none⟩ (.int .u8 ((a2 : Int) + 1)))) := Lib.hid (TB_1.out.trans (HG2.out.below (fun q hq => by injection hq with hq; omega) hz_1))
          obtain ⟨W2, hW2⟩ : ∃ W2, W2 = w1.setCell ⟨g1, k, none⟩ (.int .u8 ((a2 : Int) + 1)) := ⟨_, rfl⟩
          have HW2 := Lib.hid hW2
          rw [← hW2] at RZ R0_2 TB_2
          have hz_2 := TB_2.out.size
          clear hst hZ hW2
          rcases dec_cases HZB.out (by rw [HZL.out]; omega) with hdz | ⟨u, hdz, hez, hu4, hub⟩
          · have HD := Lib.hid hdz
            clear hdz
            go_wp2_with fail
            rw [← HW2.out]
            refine (decode_is _ Y.length c1 Z W2 RZ.out HZL.out HZB.out (by omega)).mono ?_
            rw [HD.out]
            rintro e w3 ⟨A3, c3, rfl, ho3, hb3⟩
            simp only at ho3 ⊢
            have O3 := Lib.hid ho3
            have HH3 := Lib.hid hb3
            have R0_3 := Lib.hid (R0_2.out.below HH3.out)
            have TB_3 := Lib.hid (TB_2.out.trans ((HH3.out).mono TB_2.out.size))
            have hz_3 := TB_3.out.size
            have R3 := Lib.hid (rd_own O3.out)
            clear ho3 hb3
            go_wp2_with fail
            refine (head_is w3).mono ?_
            rintro e w4 ⟨rfl, hb4⟩
            have HH4 := Lib.hid hb4
            have R0_4 := Lib.hid (R0_3.out.below HH4.out)
            have TB_4 := Lib.hid (TB_3.out.trans ((HH4.out).mono TB_3.out.size))
            have hz_4 := TB_4.out.size
            clear hb4
            go_wp2_with fail
            go_ret
            exact ⟨rfl, TB_4.out⟩
          · have HD := Lib.hid hdz
            have HNE := Lib.hid (unl_same HE.out hez HZN.out)
            clear hdz hez
            go_wp2_with fail
            rw [← HW2.out]
            refine (decode_is _ Y.length c1 Z W2 RZ.out HZL.out HZB.out (by omega)).mono ?_
            rw [HD.out]
            rintro e w3 ⟨A3, c3, rfl, ho3, hb3⟩
            simp only at ho3 ⊢
            have O3 := Lib.hid ho3
            have HH3 := Lib.hid hb3
            have R0_3 := Lib.hid (R0_2.out.below HH3.out)
            have TB_3 := Lib.hid (TB_2.out.trans ((HH3.out).mono TB_2.out.size))
            have hz_3 := TB_3.out.size
            have R3 := Lib.hid (rd_own O3.out)
            clear ho3 hb3
            go_wp2_with fail
            refine (lsame_no A3 A0 u.length n c3 c0 u bs w3 R3.out R0_3.out rfl HBL.out (by omega) (by omega) HNE.out).mono ?_
            rintro e w4 ⟨rfl, d4, rfl⟩
            have HH4 := Lib.hid (below_drewN (Below.refl w3.heap.size w3) d4)
            obtain ⟨w4, hw4⟩ : ∃ w4 : World, w4 = w3.drewN d4 := ⟨_, rfl⟩
            rw [← hw4] at HH4 ⊢
            clear hw4
            have R0_4 := Lib.hid (R0_3.out.below HH4.out)
            have R3_4 := Lib.hid (R3.out.below HH4.out)
            have TB_4 := Lib.hid (TB_3.out.trans ((HH4.out).mono TB_3.out.size))
            have hz_4 := TB_4.out.size
            go_wp2_with fail
            go_ret
            exact ⟨rfl, TB_4.out⟩
        · have hb2 : a2 = 255 := by omega
          subst hb2
          obtain ⟨Z, hZ⟩ : ∃ Z, Z = Y.set k 0 := ⟨_, rfl⟩
          have HZL : Hid (Z.length = Y.length) := Lib.hid (by rw [hZ, List.length_set])
          have HZB : Hid (By Z) := Lib.hid (by rw [hZ]; intro b hb; rcases List.mem_or_eq_of_mem_set hb with h | h; { exact HYB.out b h }; { rw [h]; omega })
          have HZN : Hid (Z ≠ Y) := Lib.hid (by rw [hZ]; exact unl_ne HYK.out (by omega))
          have hst := World.ownsRow.stored O1.out k (.int .u8 0)
          rw [show (b8 Y).set k (.int .u8 0) = b8 Z from by rw [hZ, ← b8_set'']; rfl] at hst
          have RZ := Lib.hid (rd_own hst.1)
          have HG2 := Lib.hid (KeptS.of_grown (S := fun q => some g1 = some q) hst.2 (fun q hq => hq))
          have R0_2 : Hid (Rd (w1.setCell ⟨g1, k, none⟩ (.int .u8 0)) A0 (b8 bs)) := Lib.hid (rd_keptL R0.out R0_1.out HG2.out (fun q hq e => by injection e with e; omega))
          have TB_2 : Hid (Below w.heap.size w (w1.setCell ⟨g1, k, none⟩ (.int .u8 0))) := Lib.hid (TB_1.out.trans (HG2.out.below (fun q hq => by injection hq with hq; omega) hz_1))
          obtain ⟨W2, hW2⟩ : ∃ W2, W2 = w1.setCell ⟨g1, k, none⟩ (.int .u8 0) := ⟨_, rfl⟩
          have HW2 := Lib.hid hW2
          rw [← hW2] at RZ R0_2 TB_2
          have hz_2 := TB_2.out.size
          clear hst hZ hW2
          rcases dec_cases HZB.out (by rw [HZL.out]; omega) with hdz | ⟨u, hdz, hez, hu4, hub⟩
          · have HD := Lib.hid hdz
            clear hdz
            go_wp2_with fail
            rw [← HW2.out]
            refine (decode_is _ Y.length c1 Z W2 RZ.out HZL.out HZB.out (by omega)).mono ?_
            rw [HD.out]
            rintro e w3 ⟨A3, c3, rfl, ho3, hb3⟩
            simp only at ho3 ⊢
            have O3 := Lib.hid ho3
            have HH3 := Lib.hid hb3
            have R0_3 := Lib.hid (R0_2.out.below HH3.out)
            have TB_3 := Lib.hid (TB_2.out.trans ((HH3.out).mono TB_2.out.size))
            have hz_3 := TB_3.out.size
            have R3 := Lib.hid (rd_own O3.out)
            clear ho3 hb3
            go_wp2_with fail
            refine (head_is w3).mono ?_
            rintro e w4 ⟨rfl, hb4⟩
            have HH4 := Lib.hid hb4
            have R0_4 := Lib.hid (R0_3.out.below HH4.out)
            have TB_4 := Lib.hid (TB_3.out.trans ((HH4.out).mono TB_3.out.size))
            have hz_4 := TB_4.out.size
            clear hb4
            go_wp2_with fail
            go_ret
            exact ⟨rfl, TB_4.out⟩
          · have HD := Lib.hid hdz
            have HNE := Lib.hid (unl_same HE.out hez HZN.out)
            clear hdz hez
            go_wp2_with fail
            rw [← HW2.out]
            refine (decode_is _ Y.length c1 Z W2 RZ.out HZL.out HZB.out (by omega)).mono ?_
            rw [HD.out]
            rintro e w3 ⟨A3, c3, rfl, ho3, hb3⟩
            simp only at ho3 ⊢
            have O3 := Lib.hid ho3
            have HH3 := Lib.hid hb3
            have R0_3 := Lib.hid (R0_2.out.below HH3.out)
            have TB_3 := Lib.hid (TB_2.out.trans ((HH3.out).mono TB_2.out.size))
            have hz_3 := TB_3.out.size
            have R3 := Lib.hid (rd_own O3.out)
            clear ho3 hb3
            go_wp2_with fail
            refine (lsame_no A3 A0 u.length n c3 c0 u bs w3 R3.out R0_3.out rfl HBL.out (by omega) (by omega) HNE.out).mono ?_
            rintro e w4 ⟨rfl, d4, rfl⟩
            have HH4 := Lib.hid (below_drewN (Below.refl w3.heap.size w3) d4)
            obtain ⟨w4, hw4⟩ : ∃ w4 : World, w4 = w3.drewN d4 := ⟨_, rfl⟩
            rw [← hw4] at HH4 ⊢
            clear hw4
            have R0_4 := Lib.hid (R0_3.out.below HH4.out)
            have R3_4 := Lib.hid (R3.out.below HH4.out)
            have TB_4 := Lib.hid (TB_3.out.trans ((HH4.out).mono TB_3.out.size))
            have hz_4 := TB_4.out.size
            go_wp2_with fail
            go_ret
            exact ⟨rfl, TB_4.out⟩
    · obtain ⟨k, hk⟩ : ∃ k : Nat, (k : Int) = r + (Y.length : Int) := ⟨(r + (Y.length : Int)).toNat, by omega⟩
      have hkl : k < Y.length := by omega
      have hadd : r + (Y.length : Int) = (k : Int) := hk.symm
      clear hk
      obtain ⟨y, hy⟩ : ∃ y, Y[k]? = some y := ⟨_, List.getElem?_eq_getElem hkl⟩
      have hy8 : y < 256 := HYB.out y (List.mem_of_getElem? hy)
      have hcy := World.ownsRow.cellAt O1.out k (by omega)
      rw [b8_get, hy] at hcy
      simp only [Option.map_some] at hcy
      have hf := World.ownsRow.frozenAt O1.out k
      have HYK := Lib.hid hy
      have k0 : (0 : Int) ≤ (k : Int) := by omega
      have k1 : (k : Int) < (Y.length : Int) := by omega
      clear hy
      by_cases hya : y ≠ a2
      · have hye : ((y : Int) == (a2 : Int)) = false := by rw [beq_eq_false_iff_ne]; omega
        obtain ⟨Z, hZ⟩ : ∃ Z, Z = Y.set k a2 := ⟨_, rfl⟩
        have HZL : Hid (Z.length = Y.length) := Lib.hid (by rw [hZ, List.length_set])
        have HZB : Hid (By Z) := Lib.hid (by rw [hZ]; intro b hb; rcases List.mem_or_eq_of_mem_set hb with h | h; { exact HYB.out b h }; { rw [h]; omega })
        have HZN : Hid (Z ≠ Y) := Lib.hid (by rw [hZ]; exact unl_ne HYK.out (by omega))
        have hst := World.ownsRow.stored O1.out k (.int .u8 (a2 : Int))
        rw [show (b8 Y).set k (.int .u8 (a2 : Int)) = b8 Z from by rw [hZ, ← b8_set'']] at hst
        have RZ := Lib.hid (rd_own hst.1)
        have HG2 := Lib.hid (KeptS.of_grown (S := fun q => some g1 = some q) hst.2 (fun q hq => hq))
        have R0_2 : Hid (Rd (w1.setCell ⟨g1, k, none⟩ (.int .u8 (a2 : Int))) A0 (b8 bs)) := Lib.hid (rd_keptL R0.out R0_1.out HG2.out (fun q hq e => by injection e with e; omega))
        have TB_2 : Hid (Below w.heap.size w (w1.setCell ⟨g1, k, none⟩ (.int .u8 (a2 : Int)))) := Lib.hid (TB_1.out.trans (HG2.out.below (fun q hq => by injection hq with hq; omega) hz_1))
        obtain ⟨W2, hW2⟩ : ∃ W2, W2 = w1.setCell ⟨g1, k, none⟩ (.int .u8 (a2 : Int)) := ⟨_, rfl⟩
        have HW2 := Lib.hid hW2
        rw [← hW2] at RZ R0_2 TB_2
        have hz_2 := TB_2.out.size
        clear hst hZ hW2
        rcases dec_cases HZB.out (by rw [HZL.out]; omega) with hdz | ⟨u, hdz, hez, hu4, hub⟩
        · have HD := Lib.hid hdz
          clear hdz
          go_wp2_with fail
          rw [← HW2.out]
          refine (decode_is _ Y.length c1 Z W2 RZ.out HZL.out HZB.out (by omega)).mono ?_
          rw [HD.out]
          rintro e w3 ⟨A3, c3, rfl, ho3, hb3⟩
          simp only at ho3 ⊢
          have O3 := Lib.hid ho3
          have HH3 := Lib.hid hb3
          have R0_3 := Lib.hid (R0_2.out.below HH3.out)
          have TB_3 := Lib.hid (TB_2.out.trans ((HH3.out).mono TB_2.out.size))
          have hz_3 := TB_3.out.size
          have R3 := Lib.hid (rd_own O3.out)
          clear ho3 hb3
          go_wp2_with fail
          refine (head_is w3).mono ?_
          rintro e w4 ⟨rfl, hb4⟩
          have HH4 := Lib.hid hb4
          have R0_4 := Lib.hid (R0_3.out.below HH4.out)
          have TB_4 := Lib.hid (TB_3.out.trans ((HH4.out).mono TB_3.out.size))
          have hz_4 := TB_4.out.size
          clear hb4
          go_wp2_with fail
          go_ret
          exact ⟨rfl, TB_4.out⟩
        · have HD := Lib.hid hdz
          have HNE := Lib.hid (unl_same HE.out hez HZN.out)
          clear hdz hez
          go_wp2_with fail
          rw [← HW2.out]
          refine (decode_is _ Y.length c1 Z W2 RZ.out HZL.out HZB.out (by omega)).mono ?_
          rw [HD.out]
          rintro e w3 ⟨A3, c3, rfl, ho3, hb3⟩
          simp only at ho3 ⊢
          have O3 := Lib.hid ho3
          have HH3 := Lib.hid hb3
          have R0_3 := Lib.hid (R0_2.out.below HH3.out)
          have TB_3 := Lib.hid (TB_2.out.trans ((HH3.out).mono TB_2.out.size))
          have hz_3 := TB_3.out.size
          have R3 := Lib.hid (rd_own O3.out)
          clear ho3 hb3
          go_wp2_with fail
          refine (lsame_no A3 A0 u.length n c3 c0 u bs w3 R3.out R0_3.out rfl HBL.out (by omega) (by omega) HNE.out).mono ?_
          rintro e w4 ⟨rfl, d4, rfl⟩
          have HH4 := Lib.hid (below_drewN (Below.refl w3.heap.size w3) d4)
          obtain ⟨w4, hw4⟩ : ∃ w4 : World, w4 = w3.drewN d4 := ⟨_, rfl⟩
          rw [← hw4] at HH4 ⊢
          clear hw4
          have R0_4 := Lib.hid (R0_3.out.below HH4.out)
          have R3_4 := Lib.hid (R3.out.below HH4.out)
          have TB_4 := Lib.hid (TB_3.out.trans ((HH4.out).mono TB_3.out.size))
          have hz_4 := TB_4.out.size
          go_wp2_with fail
          go_ret
          exact ⟨rfl, TB_4.out⟩
      · have hyq : y = a2 := by omega
        have hye : ((y : Int) == (a2 : Int)) = true := by rw [beq_iff_eq]; omega
        by_cases hb : a2 < 255
        · have hb2 : (a2 : Int) + 1 ≤ 255 := by omega
          obtain ⟨Z, hZ⟩ : ∃ Z, Z = Y.set k (a2 + 1) := ⟨_, rfl⟩
          have HZL : Hid (Z.length = Y.length) := Lib.hid (by rw [hZ, List.length_set])
          have HZB : Hid (By Z) := Lib.hid (by rw [hZ]; intro b hb; rcases List.mem_or_eq_of_mem_set hb with h | h; { exact HYB.out b h }; { rw [h]; omega })
          have HZN : Hid (Z ≠ Y) := Lib.hid (by rw [hZ]; exact unl_ne HYK.out (by omega))
          have hst := World.ownsRow.stored O1.out k (.int .u8 ((a2 : Int) + 1))
          rw [show (b8 Y).set k (.int .u8 ((a2 : Int) + 1)) = b8 Z from by rw [hZ, ← b8_set'']; rfl] at hst
          have RZ := Lib.hid (rd_own hst.1)
          have HG2 := Lib.hid (KeptS.of_grown (S := fun q => some g1 = some q) hst.2 (fun q hq => hq))
          have R0_2 : Hid (Rd (w1.setCell ⟨g1, k, none⟩ (.int .u8 ((a2 : Int) + 1))) A0 (b8 bs)) := Lib.hid (rd_keptL R0.out R0_1.out HG2.out (fun q hq e => by injection e with e; omega))
          have TB_2 : Hid (Below w.heap.size w (w1.setCell ⟨g1, k, none⟩ (.int .u8 ((a2 : Int) + 1)))) := Lib.hid (TB_1.out.trans (HG2.out.below (fun q hq => by injection hq with hq; omega) hz_1))
          obtain ⟨W2, hW2⟩ : ∃ W2, W2 = w1.setCell ⟨g1, k, none⟩ (.int .u8 ((a2 : Int) + 1)) := ⟨_, rfl⟩
          have HW2 := Lib.hid hW2
          rw [← hW2] at RZ R0_2 TB_2
          have hz_2 := TB_2.out.size
          clear hst hZ hW2
          rcases dec_cases HZB.out (by rw [HZL.out]; omega) with hdz | ⟨u, hdz, hez, hu4, hub⟩
          · have HD := Lib.hid hdz
            clear hdz
            go_wp2_with fail
            rw [← HW2.out]
            refine (decode_is _ Y.length c1 Z W2 RZ.out HZL.out HZB.out (by omega)).mono ?_
            rw [HD.out]
            rintro e w3 ⟨A3, c3, rfl, ho3, hb3⟩
            simp only at ho3 ⊢
            have O3 := Lib.hid ho3
            have HH3 := Lib.hid hb3
            have R0_3 := Lib.hid (R0_2.out.below HH3.out)
            have TB_3 := Lib.hid (TB_2.out.trans ((HH3.out).mono TB_2.out.size))
            have hz_3 := TB_3.out.size
            have R3 := Lib.hid (rd_own O3.out)
            clear ho3 hb3
            go_wp2_with fail
            refine (head_is w3).mono ?_
            rintro e w4 ⟨rfl, hb4⟩
            have HH4 := Lib.hid hb4
            have R0_4 := Lib.hid (R0_3.out.below HH4.out)
            have TB_4 := Lib.hid (TB_3.out.trans ((HH4.out).mono TB_3.out.size))
            have hz_4 := TB_4.out.size
            clear hb4
            go_wp2_with fail
            go_ret
            exact ⟨rfl, TB_4.out⟩
          · have HD := Lib.hid hdz
            have HNE := Lib.hid (unl_same HE.out hez HZN.out)
            clear hdz hez
            go_wp2_with fail
            rw [← HW2.out]
            refine (decode_is _ Y.length c1 Z W2 RZ.out HZL.out HZB.out (by omega)).mono ?_
            rw [HD.out]
            rintro e w3 ⟨A3, c3, rfl, ho3, hb3⟩
            simp only at ho3 ⊢
            have O3 := Lib.hid ho3
            have HH3 := Lib.hid hb3
            have R0_3 := Lib.hid (R0_2.out.below HH3.out)
            have TB_3 := Lib.hid (TB_2.out.trans ((HH3.out).mono TB_2.out.size))
            have hz_3 := TB_3.out.size
            have R3 := Lib.hid (rd_own O3.out)
            clear ho3 hb3
            go_wp2_with fail
            refine (lsame_no A3 A0 u.length n c3 c0 u bs w3 R3.out R0_3.out rfl HBL.out (by omega) (by omega) HNE.out).mono ?_
            rintro e w4 ⟨rfl, d4, rfl⟩
            have HH4 := Lib.hid (below_drewN (Below.refl w3.heap.size w3) d4)
            obtain ⟨w4, hw4⟩ : ∃ w4 : World, w4 = w3.drewN d4 := ⟨_, rfl⟩
            rw [← hw4] at HH4 ⊢
            clear hw4
            have R0_4 := Lib.hid (R0_3.out.below HH4.out)
            have R3_4 := Lib.hid (R3.out.below HH4.out)
            have TB_4 := Lib.hid (TB_3.out.trans ((HH4.out).mono TB_3.out.size))
            have hz_4 := TB_4.out.size
            go_wp2_with fail
            go_ret
            exact ⟨rfl, TB_4.out⟩
        · have hb2 : a2 = 255 := by omega
          subst hb2
          obtain ⟨Z, hZ⟩ : ∃ Z, Z = Y.set k 0 := ⟨_, rfl⟩
          have HZL : Hid (Z.length = Y.length) := Lib.hid (by rw [hZ, List.length_set])
          have HZB : Hid (By Z) := Lib.hid (by rw [hZ]; intro b hb; rcases List.mem_or_eq_of_mem_set hb with h | h; { exact HYB.out b h }; { rw [h]; omega })
          have HZN : Hid (Z ≠ Y) := Lib.hid (by rw [hZ]; exact unl_ne HYK.out (by omega))
          have hst := World.ownsRow.stored O1.out k (.int .u8 0)
          rw [show (b8 Y).set k (.int .u8 0) = b8 Z from by rw [hZ, ← b8_set'']; rfl] at hst
          have RZ := Lib.hid (rd_own hst.1)
          have HG2 := Lib.hid (KeptS.of_grown (S := fun q => some g1 = some q) hst.2 (fun q hq => hq))
          have R0_2 : Hid (Rd (w1.setCell ⟨g1, k, none⟩ (.int .u8 0)) A0 (b8 bs)) := Lib.hid (rd_keptL R0.out R0_1.out HG2.out (fun q hq e => by injection e with e; omega))
          have TB_2 : Hid (Below w.heap.size w (w1.setCell ⟨g1, k, none⟩ (.int .u8 0))) := Lib.hid (TB_1.out.trans (HG2.out.below (fun q hq => by injection hq with hq; omega) hz_1))
          obtain ⟨W2, hW2⟩ : ∃ W2, W2 = w1.setCell ⟨g1, k, none⟩ (.int .u8 0) := ⟨_, rfl⟩
          have HW2 := Lib.hid hW2
          rw [← hW2] at RZ R0_2 TB_2
          have hz_2 := TB_2.out.size
          clear hst hZ hW2
          rcases dec_cases HZB.out (by rw [HZL.out]; omega) with hdz | ⟨u, hdz, hez, hu4, hub⟩
          · have HD := Lib.hid hdz
            clear hdz
            go_wp2_with fail
            rw [← HW2.out]
            refine (decode_is _ Y.length c1 Z W2 RZ.out HZL.out HZB.out (by omega)).mono ?_
            rw [HD.out]
            rintro e w3 ⟨A3, c3, rfl, ho3, hb3⟩
            simp only at ho3 ⊢
            have O3 := Lib.hid ho3
            have HH3 := Lib.hid hb3
            have R0_3 := Lib.hid (R0_2.out.below HH3.out)
            have TB_3 := Lib.hid (TB_2.out.trans ((HH3.out).mono TB_2.out.size))
            have hz_3 := TB_3.out.size
            have R3 := Lib.hid (rd_own O3.out)
            clear ho3 hb3
            go_wp2_with fail
            refine (head_is w3).mono ?_
            rintro e w4 ⟨rfl, hb4⟩
            have HH4 := Lib.hid hb4
            have R0_4 := Lib.hid (R0_3.out.below HH4.out)
            have TB_4 := Lib.hid (TB_3.out.trans ((HH4.out).mono TB_3.out.size))
            have hz_4 := TB_4.out.size
            clear hb4
            go_wp2_with fail
            go_ret
            exact ⟨rfl, TB_4.out⟩
          · have HD := Lib.hid hdz
            have HNE := Lib.hid (unl_same HE.out hez HZN.out)
            clear hdz hez
            go_wp2_with fail
            rw [← HW2.out]
            refine (decode_is _ Y.length c1 Z W2 RZ.out HZL.out HZB.out (by omega)).mono ?_
            rw [HD.out]
            rintro e w3 ⟨A3, c3, rfl, ho3, hb3⟩
            simp only at ho3 ⊢
            have O3 := Lib.hid ho3
            have HH3 := Lib.hid hb3
            have R0_3 := Lib.hid (R0_2.out.below HH3.out)
            have TB_3 := Lib.hid (TB_2.out.trans ((HH3.out).mono TB_2.out.size))
            have hz_3 := TB_3.out.size
            have R3 := Lib.hid (rd_own O3.out)
            clear ho3 hb3
            go_wp2_with fail
            refine (lsame_no A3 A0 u.length n c3 c0 u bs w3 R3.out R0_3.out rfl HBL.out (by omega) (by omega) HNE.out).mono ?_
            rintro e w4 ⟨rfl, d4, rfl⟩
            have HH4 := Lib.hid (below_drewN (Below.refl w3.heap.size w3) d4)
            obtain ⟨w4, hw4⟩ : ∃ w4 : World, w4 = w3.drewN d4 := ⟨_, rfl⟩
            rw [← hw4] at HH4 ⊢
            clear hw4
            have R0_4 := Lib.hid (R0_3.out.below HH4.out)
            have R3_4 := Lib.hid (R3.out.below HH4.out)
            have TB_4 := Lib.hid (TB_3.out.trans ((HH4.out).mono TB_3.out.size))
            have hz_4 := TB_4.out.size
            go_wp2_with fail
            go_ret
            exact ⟨rfl, TB_4.out⟩
end Go.Proofs.Ytmdpncjffikmiaa
