/- The walk of SqueezeRuns (printed by gen_sqruns.py). -/
import Derived.Test.YtmdpncjffikmiaaSqRun
import Derived.Test.YtmdpncjffikmiaaWalkSqueezeBound
namespace Go.Proofs.Ytmdpncjffikmiaa
open Go Go.RowKit
set_option linter.unusedVariables false
set_option linter.unusedSimpArgs false

theorem rep_tokens0 (c : Nat) : tokens (List.replicate 0 c) = [] := by simp [tokens, tok, flush]
theorem drop_cons {α : Type} {l : List α} {k : Nat} {x : α} (h : l[k]? = some x) : l.drop k = x :: l.drop (k + 1) := by
  obtain ⟨hk, e⟩ := List.getElem?_eq_some_iff.1 h
  rw [List.drop_eq_getElem_cons hk, e]

set_option maxHeartbeats 8000000 in
set_option maxRecDepth 100000 in
theorem squeezeRuns_walk (a0 : Int) (a1 : Nat) (w : World) (w0 : -9223372036854775808 ≤ a0 ∧ a0 ≤ 9223372036854775807) (y1 : a1 < 256) :
    Calls Try.prog 12 #[.int .i64 a0, .int .u8 (a1 : Int)] w fun e w' => e = .returned (.bool true) ∧ Below w.heap.size w w' := by
  obtain ⟨inf, hi, hz0, hz1, hz2⟩ := info_parts info8
  have HI := Lib.hid hi
  have HZ0 := Lib.hid hz0
  have HZ1 := Lib.hid hz1
  have HZ2 := Lib.hid hz2
  clear hi hz0 hz1 hz2
  by_cases hout : a0 < 0 ∨ 4096 < a0
  · obtain ⟨z, hz⟩ : ∃ z : List Nat, z = List.replicate 4097 0 := ⟨_, rfl⟩
    have HZL : Hid (z.length = 4097) := Lib.hid (by rw [hz, List.length_replicate])
    have HZB : Hid (By z) := Lib.hid (by rw [hz]; exact rep_by (by omega))
    have HZE : Hid (enc z = ([], 2)) := Lib.hid (enc_long (by rw [HZL.out]; omega))
    have HYZ : Hid ((madeCells (Value.int .u8 0).cells (4097 * 1)).toList = b8 z) := Lib.hid (by
      refine (toList_madeCells_one (Value.int .u8 0) 4097).trans ?_
      rw [hz]
      unfold b8
      rw [List.map_replicate]
      rfl)
    clear hz
    by_cases hn : a0 < 0
    all_goals
      go_enter Try.func12, Try.ntmps12
      have hgt : ¬ a0 < 0 → 4096 < a0 := fun h => by omega
      first
        | (have hgt2 := hgt hn; clear hgt hout)
        | clear hgt hout
      go_wp2_with (at_make; refine wpList_make_full _ rfl (.const (.int .i64 4097)) (.const (.int .i64 4097)) 23 rfl w.heap.size 5 inf (.int .u8 0) 1 Try.underlying23 HI.out HZ0.out HZ1.out .i64 .i64 _ _ (4097) rfl rfl (by omega) (by omega) (by rw [HZ2.out]; omega) (by unfold maxLen; omega) (Nat.le_refl _) ?_; intro w1 hown1 hg1; have HO := Lib.hid (HYZ.out ▸ hown1); have HB := Lib.hid (below_of_grown hg1 (Nat.le_refl _) (fun k hk => by cases hk)); clear hown1 hg1)
      have hz1 := HB.out.size
      refine (encode_is (some ⟨w.heap.size, 0, none⟩) 4097 4097 z w1 (rd_own HO.out) HZL.out HZB.out (by omega) (by omega)).mono ?_
      rw [HZE.out]
      rintro e w2 ⟨A2, c2, rfl, ho2, hb2⟩
      simp only at ho2 ⊢
      have HB2 := Lib.hid (HB.out.trans (hb2.mono hz1))
      have hz2 := HB2.out.size
      clear ho2 hb2
      go_wp2_with fail
      refine (head_is w2).mono ?_
      rintro e w3 ⟨rfl, hb3⟩
      have HB3 := Lib.hid (HB2.out.trans (hb3.mono hz2))
      clear hb3
      go_wp2_with fail
      go_ret
      exact ⟨rfl, HB3.out⟩
  · obtain ⟨n, rfl⟩ : ∃ n : Nat, a0 = (n : Int) := ⟨a0.toNat, by omega⟩
    have hn4 : n ≤ 4096 := by omega
    clear hout w0
    obtain ⟨xs, hxs⟩ : ∃ xs, xs = List.replicate n a1 := ⟨_, rfl⟩
    obtain ⟨ys, hys⟩ : ∃ ys, ys = List.replicate n 0 := ⟨_, rfl⟩
    have HXL : Hid (xs.length = n) := Lib.hid (by rw [hxs, List.length_replicate])
    have HYL : Hid (ys.length = n) := Lib.hid (by rw [hys, List.length_replicate])
    have HXB : Hid (By xs) := Lib.hid (by rw [hxs]; exact rep_by y1)
    have HX1 : Hid (∀ k, k < n → xs[k]? = some a1) := Lib.hid (fun k hk => by rw [hxs, List.getElem?_replicate, if_pos hk])
    have HXK : Hid (∀ k, k ≤ n → xs.take k = List.replicate k a1) := Lib.hid (fun k hk => by rw [hxs, List.take_replicate, Nat.min_eq_left hk])
    have HYZ : Hid ((madeCells (Value.int .u8 0).cells (n * 1)).toList = b8 (xs.take 0 ++ ys.drop 0)) := Lib.hid (by
      have := toList_madeCells_one (Value.int .u8 0) n
      simp only [Nat.mul_one, List.take_zero, List.drop_zero, List.nil_append]
      refine this.trans ?_
      simp [b8, hys])
    have HE : Hid (enc xs = (blk n (tokens xs), 0)) := Lib.hid (by rw [hxs]; exact enc_rep hn4)
    have HT : Hid (tks xs = (tokens xs, 0)) := Lib.hid (tks_short (by rw [HXL.out]; omega))
    have F0 : Hid (n = 0 → (tokens xs).length = 0 ∧ (blk n (tokens xs)).length = 1) := Lib.hid (fun h => by
      subst h
      rw [hxs, rep_tokens0]
      simp [blk, Uv.uv_small])
    have F1 : Hid (0 < n → n < 6 → tokens xs = [⟨xs, 0, 0⟩] ∧ (blk n (tokens xs)).length = n + 2) := Lib.hid (fun h0 h6 => ⟨by rw [hxs]; exact rep_small h0 h6, by rw [hxs]; exact blk_rep1 h0 h6⟩)
    have F6 : Hid (6 ≤ n → tokens xs = ⟨[a1], 0, 0⟩ :: runF a1 n (n - 1) ∧ (blk n (tokens xs)).length = (Uv.uv n).length + 2 + ((runF a1 n (n - 1)).flatMap bt).length) := Lib.hid (fun h6 => ⟨by rw [hxs]; exact rep_tokens h6, by rw [hxs]; exact blk_rep6 h6⟩)
    have hTl : (tokens xs).length ≤ 4096 := fine_count (exp_tokens (by rw [HXL.out]; omega))
    have hyl : (blk n (tokens xs)).length ≤ 100000000 := by have h := blk_len (t := xs) (by rw [HXL.out]; omega); rw [HXL.out] at h; exact h
    obtain ⟨T, hT⟩ : ∃ T, T = tokens xs := ⟨_, rfl⟩
    rw [← hT] at HE HT F0 F1 F6 hTl hyl
    obtain ⟨Y, hY⟩ : ∃ Y, Y = blk n T := ⟨_, rfl⟩
    rw [← hY] at HE F0 F1 F6 hyl
    clear hT hY hys hxs y1
    go_enter Try.func12, Try.ntmps12
    go_wp2_with (at_make; refine wpList_make_full _ rfl (.tmp 34) (.tmp 34) 23 rfl w.heap.size 5 inf (.int .u8 0) 1 Try.underlying23 HI.out HZ0.out HZ1.out .i64 .i64 _ _ (n) rfl rfl (by omega) (by omega) (by rw [HZ2.out]; omega) (by unfold maxLen; omega) (Nat.le_refl _) ?_; intro w1 hown1 hg1; have HO := Lib.hid (HYZ.out ▸ hown1); have HB := Lib.hid (below_of_grown hg1 (Nat.le_refl _) (fun k hk => by cases hk)); clear hown1 hg1)
    go_loopw [8] (fun i wr => ∃ k : Nat, k ≤ n ∧ i = .int .i64 k ∧ Hid (wr.ownsRow w.heap.size 5 1 (.slice (some ⟨w.heap.size, 0, none⟩) n n) n (b8 (xs.take k ++ ys.drop k))) ∧ Hid (Below w.heap.size w wr)) (fun i _ => n - (intOf i).toNat)
    case atStart => exact ⟨0, Nat.zero_le _, rfl, HO, HB⟩
    case round =>
      clear HO HB
      obtain ⟨k, hk, rfl, HO, HB⟩ := hrel
      by_cases hlt : k < n
      · obtain ⟨⟨y, hc1⟩, hf1, hs1, hg1⟩ := lay_one HO.out (by rw [HXL.out]; omega) (by rw [HYL.out]; omega) (by omega) (HX1.out k hlt)
        have HS := Lib.hid hs1
        have HG := Lib.hid (HB.out.trans (below_of_grown hg1 HB.out.size (fun q hq => by injection hq with hq; omega)))
        clear hs1 hg1 HO HB
        go_wp2
        go_roundw
        case rel => exact ⟨k + 1, by omega, by go_num, HS, HG⟩
        case measure => simp [intOf]; omega
      · have hkn : k = n := by omega
        subst hkn
        have R1 : Hid (Rd wr (some ⟨w.heap.size, 0, none⟩) (b8 xs)) := Lib.hid (by
          have h := HO.out
          rw [List.take_of_length_le (by rw [HXL.out]; omega), List.drop_eq_nil_of_le (by rw [HYL.out]; omega), List.append_nil] at h
          exact rd_own h)
        have hzr := HB.out.size
        clear HO HYZ HYL
        go_wp2_with fail
        refine ((tokens_is (some ⟨w.heap.size, 0, none⟩) k k xs wr R1.out HXL.out HXB.out (by omega) (by omega)).mono (fun e w9 h => h.two)).mono ?_
        rw [HT.out]
        rintro e w2 ⟨A2, c2, l2, rfl, hq2, ht2, hb2⟩
        simp only at hq2 ht2 ⊢
        have T2 := Lib.hid ht2
        have Q2 := Lib.hid hq2
        have R2 := Lib.hid (R1.out.below hb2)
        have B2 := Lib.hid (HB.out.trans (hb2.mono hzr))
        have hz2 := B2.out.size
        clear ht2 hq2 hb2
        go_wp2_with fail
        refine (encode_is (some ⟨w.heap.size, 0, none⟩) k k xs w2 R2.out HXL.out HXB.out (by omega) (by omega)).mono ?_
        rw [HE.out]
        rintro e w3 ⟨A3, c3, rfl, ho3, hb3⟩
        simp only at ho3 ⊢
        have T3 := Lib.hid (T2.out.below hb3)
        have R3 := Lib.hid (R2.out.below hb3)
        have B3 := Lib.hid (B2.out.trans (hb3.mono hz2))
        have hz3 := B3.out.size
        clear ho3 hb3
        obtain ⟨N, hN⟩ : ∃ N, N = T.length := ⟨_, rfl⟩
        have HNT : Hid (T.length = N) := Lib.hid hN.symm
        rw [← hN] at T3 F0 hTl ⊢
        clear hN T2
        by_cases hk0 : k = 0
        · obtain ⟨h1, h2⟩ := F0.out hk0
          have f0 : ((k : Int) == 0) = true := by rw [beq_iff_eq]; omega
          have f1 : ((N : Int) == 0) = true := by rw [beq_iff_eq]; omega
          have f2 : ((Y.length : Int) == 1) = true := by rw [beq_iff_eq]; omega
          have f3 : (k : Int) < 6 := by omega
          clear hk0 h1 h2
          go_wp2_with fail
          go_ret
          exact ⟨rfl, B3.out⟩
        · have f0 : ((k : Int) == 0) = false := by rw [beq_eq_false_iff_ne]; omega
          by_cases hk6 : k < 6
          · obtain ⟨h1, h2⟩ := F1.out (by omega) hk6
            have hN1 : N = 1 := by rw [← HNT.out, h1]; rfl
            obtain ⟨x, hx⟩ : ∃ x, l2[0]? = some x := ⟨_, List.getElem?_eq_getElem (by rw [T3.out.len]; omega)⟩
            have hxt : T[0]? = some x.tk := by rw [← Q2.out]; exact toks_get hx
            rw [h1] at hxt
            have HXO := Lib.hid (T3.out.ok x (List.mem_of_getElem? hx))
            obtain ⟨g, off, rfl, hg, hc0, hc1, hc2⟩ := T3.out.rd.tok hx
            obtain ⟨xA, xc, lit, xd, xl⟩ := x
            simp only [TkV.tk, List.getElem?_cons_zero, Option.some.injEq, Tk.mk.injEq] at hxt
            obtain ⟨e1, e2, e3⟩ := hxt
            simp only [Nat.zero_mul, Nat.add_zero] at hc0
            have HLX : Hid (lit = xs) := Lib.hid e1.symm
            have hll : lit.length = k := by rw [← e1]; exact HXL.out
            rw [hll] at hc0
            have f1 : ((N : Int) == 0) = false := by rw [beq_eq_false_iff_ne]; omega
            have f2 : ((N : Int) == 1) = true := by rw [beq_iff_eq]; omega
            have f3 : (k : Int) < 6 := by omega
            have f4 : (0 : Int) < (k : Int) := by omega
            have f5 : 0 < N := by omega
            have f6 : IntKind.i64.wrap ((k : Int) + 2) = (k : Int) + 2 := IntWalk.i64_in _ (by omega)
            have f7 : ((Y.length : Int) == (k : Int) + 2) = true := by rw [beq_iff_eq]; omega
            have HLL := Lib.hid hll
            clear hk0 hk6 h1 h2 hx e1 e2 e3 hc1 hc2 hll
            go_wp2_with fail
            refine (lsame_yes xA (some ⟨w.heap.size, 0, none⟩) k k xc k lit xs w3 HXO.out.rd R3.out HLL.out HXL.out (by omega) (by omega) HLX.out).mono ?_
            rintro e w4 ⟨rfl, d4, rfl⟩
            go_wp2_with fail
            go_ret
            exact ⟨rfl, below_drewN B3.out d4⟩
          · obtain ⟨h1, h2⟩ := F6.out (by omega)
            obtain ⟨x, hx⟩ : ∃ x, l2[0]? = some x := ⟨_, List.getElem?_eq_getElem (by rw [T3.out.len, ← HNT.out, h1]; simp)⟩
            have hN1 : 2 ≤ N := by
              rw [← HNT.out, h1, List.length_cons]
              have : runF a1 k (k - 1) ≠ [] := fun h => by have := runF_end (by omega) h; omega
              have := List.length_pos_iff.2 this
              omega
            have hxt : T[0]? = some x.tk := by rw [← Q2.out]; exact toks_get hx
            rw [h1] at hxt
            have HXO := Lib.hid (T3.out.ok x (List.mem_of_getElem? hx))
            obtain ⟨g, off, rfl, hg, hc0, hc1, hc2⟩ := T3.out.rd.tok hx
            obtain ⟨xA, xc, lit, xd, xl⟩ := x
            simp only [TkV.tk, List.getElem?_cons_zero, Option.some.injEq, Tk.mk.injEq] at hxt
            obtain ⟨e1, e2, e3⟩ := hxt
            have hll : lit.length = 1 := by rw [← e1]; rfl
            simp only [Nat.zero_mul, Nat.add_zero] at hc0
            rw [hll] at hc0
            have PS : Hid (∀ W, Below w3.heap.size w3 W → Calls Try.prog 19 #[.slice xA 1 xc, .slice (some ⟨w.heap.size, 0, none⟩) 1 k] W fun e w' => e = .returned (.bool true) ∧ ∃ m, w' = W.drewN m) := Lib.hid (fun W hb =>
              lsame_yes xA (some ⟨w.heap.size, 0, none⟩) 1 1 xc k lit (xs.take 1) W (HXO.out.rd.below hb) (by rw [b8_take]; exact (R3.out.below hb).take_ 1) hll (by rw [List.length_take, HXL.out]; omega) (by omega) (by omega) (by rw [HXK.out 1 (by omega), ← e1]; rfl))
            have HD : Hid (∃ f, k - 1 < f ∧ T.drop 1 = runF a1 f (k - 1)) := Lib.hid ⟨k, by omega, by rw [h1]; rfl⟩
            have HSZ : Hid ((Uv.uv k).length + 2 + ((T.drop 1).flatMap bt).length = Y.length) := Lib.hid (by rw [h2, h1]; rfl)
            have hzs : (Uv.uv k).length + 2 ≤ Y.length := by have := HSZ.out; omega
            have P1 := Lib.hid (fun W => lnumber_is k W (by omega))
            obtain ⟨a, ha⟩ : ∃ a, a = (Uv.uv k).length := ⟨_, rfl⟩
            rw [← ha] at P1 HSZ hzs
            have f1 : decide ((N : Int) < 2) = false := by rw [decide_eq_false_iff_not]; omega
            have f3 : ¬ (k : Int) < 6 := by omega
            have f5 : 0 < N := by omega
            have f6 : (1 : Int) ≤ (k : Int) := by omega
            have f7 : IntKind.i64.wrap ((k : Int) - 1) = (k : Int) - 1 := IntWalk.i64_in _ (by omega)
            have f8 : IntKind.i64.wrap ((a : Int) + 2) = (a : Int) + 2 := IntWalk.i64_in _ (by omega)
            have HB0 : Hid (Below w3.heap.size w3 w3) := Lib.hid (Below.refl _ _)
            clear h1 h2 hx e1 e2 e3 hc1 hc2 hll ha F0 F1 F6
            go_wp2_with fail
            go_quiet ((go_at_call 19; go_loud (exact Calls.quiet_of (PS.out _ (below_drewN HB0.out _)))))
            go_wp2_with fail
            refine (P1.out _).mono ?_
            rintro e w' ⟨rfl, rfl⟩
            go_wp2_with fail
            have HBQ : Hid (Below w3.heap.size w3 (w3.drewN nq)) := Lib.hid (below_drewN HB0.out nq)
            clear hc0 PS f1 f5 f7 f8
            go_loopw [13, 14, 15, 16, 17] (fun u13 u14 u15 u16 u17 wr => ∃ (m s q : Nat), u13 = .int .i64 m ∧ u14 = .int .i64 s ∧ u15 = .int .i64 q ∧ 1 ≤ q ∧ q ≤ N ∧ m < k ∧ s ≤ Y.length ∧ Hid (∃ f, m < f ∧ T.drop q = runF a1 f m) ∧ Hid (s + ((T.drop q).flatMap bt).length = Y.length) ∧ Hid (Below w3.heap.size w3 wr)) (fun _ _ u15 _ _ _ => N - (intOf u15).toNat)
            case atStart => exact ⟨k - 1, a + 2, 1, by go_num, by go_num, rfl, Nat.le_refl _, by omega, by omega, hzs, HD, HSZ, HBQ⟩
            case round =>
              clear HD HSZ HBQ hzs
              obtain ⟨m, s, q, rfl, rfl, rfl, hq1, hqN, hmk, hsY, HD, HSZ, HBW⟩ := hrel
              have hzr := HBW.out.size
              have HBE := Lib.hid (B3.out.trans (HBW.out.mono hz3))
              by_cases hqn : q < N
              · obtain ⟨x, hx⟩ : ∃ x, l2[q]? = some x := ⟨_, List.getElem?_eq_getElem (by rw [T3.out.len]; exact hqn)⟩
                have hxt : T[q]? = some x.tk := by rw [← Q2.out]; exact toks_get hx
                have TW := Lib.hid (T3.out.below HBW.out)
                have RW := Lib.hid (R3.out.below HBW.out)
                have HXO := Lib.hid (TW.out.ok x (List.mem_of_getElem? hx))
                obtain ⟨g', off', e', hg', hc0, hc1, hc2⟩ := TW.out.rd.tok hx
                simp only [Option.some.injEq, Addr.mk.injEq, and_true] at e'
                obtain ⟨rfl, rfl⟩ := e'
                have hdc := drop_cons hxt
                obtain ⟨f, hf, hd⟩ := HD.out
                have hsz := HSZ.out
                rw [hdc, List.flatMap_cons, List.length_append] at hsz
                have hrn := runF_next hf (hd.symm.trans hdc)
                obtain ⟨xA, xc, lit, xd, xl⟩ := x
                simp only [TkV.tk] at hrn hc0 hc1 hc2 hsz
                have i0 : (0 : Int) ≤ (q : Int) := by omega
                have i1 : (q : Int) < (N : Int) := by omega
                clear hdc hd hf HD HSZ hx hxt
                rcases hrn with ⟨h5, h0, hxe, hre⟩ | ⟨h5, hxe, f', hre, hf'⟩
                · simp only [Tk.mk.injEq] at hxe
                  obtain ⟨e1, rfl, rfl⟩ := hxe
                  have hll : lit.length = m := by rw [e1, List.length_replicate]
                  rw [hll] at hc0
                  rw [hre, e1, bt_rest h0 h5] at hsz
                  simp only [List.flatMap_nil, List.length_nil, Nat.add_zero] at hsz
                  have hqe : q + 1 = N := by
                    have h3 := congrArg List.length hre
                    rw [List.length_drop, HNT.out, List.length_nil] at h3
                    omega
                  have PS : Hid (∀ W, Below wr.heap.size wr W → Calls Try.prog 19 #[.slice xA m xc, .slice (some ⟨w.heap.size, 0, none⟩) m k] W fun e w' => e = .returned (.bool true) ∧ ∃ m, w' = W.drewN m) := Lib.hid (fun W hb =>
                    lsame_yes xA (some ⟨w.heap.size, 0, none⟩) m m xc k lit (xs.take m) W (HXO.out.rd.below hb) (by rw [b8_take]; exact (RW.out.below hb).take_ m) hll (by rw [List.length_take, HXL.out]; omega) (by omega) (by omega) (by rw [HXK.out m (by omega), e1]))
                  have HBA : Hid (Below wr.heap.size wr (wr.alloc (.cells #[.slice xA m xc, .int .i64 0, .int .i64 0] 37))) := Lib.hid ((Below.refl _ _).alloc (Nat.le_refl _) _)
                  have g1 : (m : Int) < 5 := by omega
                  have g2 : IntKind.i64.wrap ((N : Int) - 1) = (N : Int) - 1 := IntWalk.i64_in _ (by omega)
                  have g3 : ((q : Int) == (N : Int) - 1) = true := by rw [beq_iff_eq]; omega
                  have g4 : (0 : Int) ≤ (m : Int) := by omega
                  have g5 : (m : Int) ≤ (k : Int) := by omega
                  have g6 : IntKind.i64.wrap ((s : Int) + 1) = (s : Int) + 1 := IntWalk.i64_in _ (by omega)
                  have g7 : IntKind.i64.wrap ((s : Int) + 1 + (m : Int)) = (s : Int) + 1 + (m : Int) := IntWalk.i64_in _ (by omega)
                  have g8 : ((Y.length : Int) == (s : Int) + 1 + (m : Int)) = true := by rw [beq_iff_eq]; omega
                  clear e1 hre hsz hll
                  go_wp2_with fail
                  go_quiet ((go_at_call 19; go_loud (exact Calls.quiet_of (PS.out _ (below_drewN HBA.out _)))))
                  go_wp2_with fail
                  go_ret
                  exact ⟨rfl, below_drewN (HBE.out.alloc (Nat.le_trans hz3 hzr) _) _⟩
                · simp only [Tk.mk.injEq] at hxe
                  obtain ⟨rfl, rfl, e3⟩ := hxe
                  simp only [List.length_nil] at hc0
                  have hBA := fun x => HBW.out.alloc hzr x
                  have HBA : ∀ x, Hid (Below w3.heap.size w3 (wr.alloc x)) := fun x => Lib.hid (hBA x)
                  clear hBA
                  have g1 : ¬ (m : Int) < 5 := by omega
                  by_cases h258 : 258 < m
                  · have hmin : min 258 m = 258 := by omega
                    rw [hmin] at e3 hre hf'
                    subst e3
                    rw [bt_run (by omega), show 2 * 258 + 1 = 517 from rfl] at hsz
                    have P5 := Lib.hid (fun W => lnumber_is 517 W (by omega))
                    obtain ⟨b, hb⟩ : ∃ b, b = (Uv.uv 517).length := ⟨_, rfl⟩
                    have hsz : s + (b + 1) + ((T.drop (q + 1)).flatMap bt).length = Y.length := by rw [hb]; omega
                    rw [← hb] at P5
                    have HSZ : Hid (s + b + 1 + ((T.drop (q + 1)).flatMap bt).length = Y.length) := Lib.hid (by omega)
                    have hsb : s + b + 1 ≤ Y.length := by omega
                    have HD : Hid (∃ f, m - 258 < f ∧ T.drop (q + 1) = runF a1 f (m - 258)) := Lib.hid ⟨f', hf', hre⟩
                    have g2 : (258 : Int) < (m : Int) := by omega
                    clear hb hsz hre hf'
                    go_wp2_with fail
                    refine (P5.out _).mono ?_
                    rintro e w' ⟨rfl, rfl⟩
                    go_wp2_with fail
                    go_roundw
                    case rel => exact ⟨m - 258, s + b + 1, q + 1, by go_num, by go_num, by go_num, by omega, by omega, by omega, hsb, HD, HSZ, HBA _⟩
                    case measure => simp [intOf]; omega
                  · have hmin : min 258 m = m := by omega
                    rw [hmin] at e3 hre hf'
                    subst e3
                    rw [bt_run (by omega)] at hsz
                    have P5 := Lib.hid (fun W => lnumber_is (2 * m + 1) W (by omega))
                    rw [show ((2 * m + 1 : Nat) : Int) = 2 * (m : Int) + 1 by omega] at P5
                    obtain ⟨b, hb⟩ : ∃ b, b = (Uv.uv (2 * m + 1)).length := ⟨_, rfl⟩
                    have hsz : s + (b + 1) + ((T.drop (q + 1)).flatMap bt).length = Y.length := by rw [hb]; omega
                    rw [← hb] at P5
                    have HSZ : Hid (s + b + 1 + ((T.drop (q + 1)).flatMap bt).length = Y.length) := Lib.hid (by omega)
                    have hsb : s + b + 1 ≤ Y.length := by omega
                    have HD : Hid (∃ f, m - m < f ∧ T.drop (q + 1) = runF a1 f (m - m)) := Lib.hid ⟨f', hf', hre⟩
                    have g2 : ¬ (258 : Int) < (m : Int) := by omega
                    clear hb hsz hre hf'
                    go_wp2_with fail
                    refine (P5.out _).mono ?_
                    rintro e w' ⟨rfl, rfl⟩
                    go_wp2_with fail
                    go_roundw
                    case rel => exact ⟨m - m, s + b + 1, q + 1, by go_num, by go_num, by go_num, by omega, by omega, by omega, hsb, HD, HSZ, HBA _⟩
                    case measure => simp [intOf]; omega
              · have hqe : q = N := by omega
                obtain ⟨f, hf, hd⟩ := HD.out
                have hsz := HSZ.out
                rw [List.drop_eq_nil_of_le (by rw [HNT.out]; omega)] at hd hsz
                have hm0 := runF_end hf hd.symm
                simp only [List.flatMap_nil, List.length_nil, Nat.add_zero] at hsz
                have g1 : ((m : Int) == 0) = true := by rw [beq_iff_eq]; omega
                have g2 : ((Y.length : Int) == (s : Int)) = true := by rw [beq_iff_eq]; omega
                subst hqe
                clear hd hf hsz HD HSZ hm0
                go_wp2_with fail
                go_ret
                exact ⟨rfl, HBE.out⟩
end Go.Proofs.Ytmdpncjffikmiaa
