/- OctetPacks: the walk. -/
import Derived.Test.YtfgjlplfpjfnoaaItemRow
import Derived.Test.YtfgjlplfpjfnoaaOctMem
import Derived.Test.YtfgjlplfpjfnoaaOctSame
namespace Go.Proofs.Ytfgjlplfpjfnoaa
open Go Go.RowKit
set_option linter.unusedVariables false
set_option linter.unusedSimpArgs false

set_option maxHeartbeats 400000 in
theorem beyond_is (A : Option Addr) (c n : Nat) (l : List Stp) (w : World) (hr : RdS w A l) (hn : l.length = n) (hc : n ≤ c) (hl : n * 32 ≤ 140737488351232) (ha : ∀ x ∈ l, x.Ok) :
    Calls Try.prog 45 #[.slice A n c] w fun e w' => e = .returned (.bool (decide (2147483647 < stSum l))) ∧ w = w' := by
  have HN := Lib.hid hn
  have HR := Lib.hid hr
  have HA := Lib.hid ha
  clear hn hr ha
  go_enter Try.func45, Try.ntmps45
  go_wp2
  go_loop [3, 4] (fun s i => ∃ k : Nat, k ≤ n ∧ i = .int .i64 k ∧ s = .int .i64 (stSum (l.take k) : Nat) ∧ stSum (l.take k) ≤ 2147483647) (fun _ i => n - (intOf i).toNat)
  case atStart => exact ⟨0, Nat.zero_le _, rfl, rfl, by simp [stSum]⟩
  case round =>
    obtain ⟨k, hk, rfl, rfl, hb⟩ := hrel
    by_cases hlt : k < n
    · obtain ⟨x, hx⟩ : ∃ x, l[k]? = some x := ⟨_, List.getElem?_eq_getElem (by rw [HN.out]; exact hlt)⟩
      obtain ⟨g, off, rfl, hg, hcell⟩ := HR.out (by rintro rfl; simp at hx)
      obtain ⟨c0, c1, c2⟩ := hcell k x hx
      have hsz := (HA.out x (List.mem_of_getElem? hx)).2.2
      have hst := stSum_take hx
      have hle := stSum_le l (k + 1)
      clear hcell hx
      obtain ⟨s, hs⟩ : ∃ s, s = stSum (l.take k) := ⟨_, rfl⟩
      obtain ⟨s', hs'⟩ : ∃ s', s' = stSum (l.take (k + 1)) := ⟨_, rfl⟩
      have HS' := Lib.hid hs'
      rw [← hs', ← hs] at hst
      rw [← hs'] at hle
      rw [← hs] at hb ⊢
      clear hs hs'
      by_cases hov : 2147483647 < s + 1 + x.s.size
      · have hd : decide (2147483647 < stSum l) = true := decide_eq_true (by omega)
        have HD := Lib.hid hd
        clear hd hst hle
        go_wp2
        go_ret
        rw [HD.out]
        exact ⟨rfl, rfl⟩
      · clear hle
        go_wp2
        go_round
        case rel => exact ⟨k + 1, by omega, by go_num, by rw [← HS'.out, hst]; go_num, by rw [← HS'.out]; omega⟩
        case measure => simp [intOf]; omega
    · have hkn : k = n := by omega
      subst hkn
      have he : stSum (l.take k) = stSum l := by rw [List.take_of_length_le (by rw [HN.out]; omega)]
      have HE := Lib.hid (show decide (2147483647 < stSum l) = false from decide_eq_false (by omega))
      clear he
      go_wp2
      go_ret
      rw [HE.out]
      exact ⟨rfl, rfl⟩

set_option maxHeartbeats 400000 in
set_option maxRecDepth 100000 in
theorem octetPacks_beyond (A0 : Option Addr) (c0 : Nat) (b0 : List Stp) (w : World) (c0l : b0.length ≤ c0) (r0 : RdS w A0 b0) (y0 : ∀ x ∈ b0, x.Ok) (l0 : b0.length * 32 ≤ 140737488351232) (hb : 2147483647 < stSum b0) :
    Calls Try.prog 13 #[.slice A0 b0.length c0] w fun e w' => e = .returned (.bool true) ∧ Below w.heap.size w w' := by
  have P1 := Lib.hid (fun W (hw : w = W) => beyond_is A0 c0 b0.length b0 W (hw ▸ r0) rfl c0l l0 y0)
  rw [show decide (2147483647 < stSum b0) = true from decide_eq_true hb] at P1
  obtain ⟨n, hn⟩ : ∃ n, n = b0.length := ⟨_, rfl⟩
  rw [← hn] at P1 ⊢
  clear hb r0 y0 hn c0l l0
  go_enter Try.func13, Try.ntmps13
  go_wp2_with (go_at_call 45; refine (P1.out _ rfl).mono ?_; rintro e w' ⟨rfl, rfl⟩)
  go_ret
  exact ⟨rfl, Below.refl _ _⟩

theorem stSum_len (l : List Stp) : l.length ≤ stSum l := by
  induction l with
  | nil => simp [stSum]
  | cons x r ih => simp only [List.length_cons, stSum]; omega
theorem get_back {α : Type} (f : α → α) (xs ys : List α) (k : Nat) (hk : k < xs.length) : (xs.take k ++ ((xs.drop k).map f ++ ys))[k]? = some (f xs[k]) := by
  have hl : (xs.take k).length = k := by rw [List.length_take]; omega
  rw [List.drop_eq_getElem_cons hk, List.map_cons, List.cons_append, List.getElem?_append_right (by omega), hl, Nat.sub_self]
  rfl
theorem set_back {α : Type} (f : α → α) (xs ys : List α) (k : Nat) (hk : k < xs.length) : (xs.take k ++ ((xs.drop k).map f ++ ys)).set k xs[k] = xs.take (k + 1) ++ ((xs.drop (k + 1)).map f ++ ys) := by
  have hl : (xs.take k).length = k := by rw [List.length_take]; omega
  rw [List.drop_eq_getElem_cons hk, List.map_cons, List.cons_append, List.take_succ_eq_append_getElem hk, List.set_append_right _ _ (by omega), hl, Nat.sub_self, List.set_cons_zero, List.append_assoc]
  rfl
theorem own_keep {w w' : World} {base B n size : Nat} {v : Value} {xs : List Value} {e : TypeId} (h : w.ownsRow base e size v n xs) (hb : Below B w w') (hlt : ∀ k, v.ownBlock = some k → k < B) : w'.ownsRow base e size v n xs := by
  refine ⟨h.1, ?_⟩
  rcases h.2 with hn | ⟨g, cap, cur, e1, hb1, hh, rest⟩
  · exact .inl hn
  · exact .inr ⟨g, cap, cur, e1, hb1, (hb.block g (hlt g (by rw [e1]; rfl))).trans hh, rest⟩
theorem pk_len {l : List Stp} (h : ∀ x ∈ l, x.Ok) : (pk l).1.length ≤ 10 * stSum l := by
  unfold pk
  split
  · exact itemsOut_len h
  · simp
def two78 : List Stp := [⟨77, 0, ⟨#[]⟩⟩, ⟨78, 0, ⟨#[]⟩⟩]

set_option maxHeartbeats 1000000 in
set_option maxRecDepth 100000 in
theorem octetPacks_main (A0 : Option Addr) (c0 : Nat) (b0 : List Stp) (w : World) (c0l : b0.length ≤ c0) (r0 : RdS w A0 b0) (y0 : ∀ x ∈ b0, x.Ok) (l0 : b0.length * 32 ≤ 140737488351232) (hb : stSum b0 ≤ 2147483647) :
    Calls Try.prog 13 #[.slice A0 b0.length c0] w fun e w' => e = .returned (.bool true) ∧ Below w.heap.size w w' := by
  have P1 := Lib.hid (fun W (hw : w = W) => beyond_is A0 c0 b0.length b0 W (hw ▸ r0) rfl c0l l0 y0)
  rw [show decide (2147483647 < stSum b0) = false from decide_eq_false (by omega)] at P1
  have hlen := stSum_len b0
  have HR := Lib.hid r0
  have HA := Lib.hid y0
  have HB := Lib.hid hb
  obtain ⟨n, hn⟩ : ∃ n, n = b0.length := ⟨_, rfl⟩
  rw [← hn] at P1 c0l l0 hlen ⊢
  have hn2 : n ≤ 2147483647 := by omega
  have HN := Lib.hid hn
  have b1 := below_box w (.cells #[] 68)
  have HR1 := Lib.hid ((r0.below b1).rd)
  have h0 := World.ownsRow_lit (base := w.heap.size) (e := 68) (size := 3) w #[] 0 (Nat.le_refl _) (by decide) rfl
  have H0 := Lib.hid h0
  have B1 := Lib.hid b1
  clear hb r0 y0 hn hlen b1 h0
  go_enter Try.func13, Try.ntmps13
  go_wp2_with (first
    | (go_at_call 45; refine (P1.out _ rfl).mono ?_; rintro e w' ⟨rfl, rfl⟩)
    | (at_builtin; (refine appI _ rfl (.tmp 15) (.tmp 16) rfl w.heap.size _ 0 [] rfl H0.out A0 n c0 b0 rfl HN.out.symm HR1.out (by omega) B1.out.size ?_); intro v1 w1 hown1 hg1 _; have HO1 := Lib.hid hown1; have HB1 := Lib.hid (B1.out.trans (below_of_grown hg1 B1.out.size (fun k hk => (H0.out.lt k hk).1))); have hs1 := HB1.out.size; clear hown1 hg1)
    | (at_builtin; (refine appI _ rfl (.tmp 18) (.tmp 21) rfl w.heap.size v1 _ b0 rfl (HO1.out.alloc _) (some ⟨w1.heap.size, 0, none⟩) 2 2 two78 rfl rfl (rd_lit w1 _ _) (by omega) (by simp; omega) ?_); intro v2 w2 hown2 hg2 _; have HO2 := Lib.hid hown2; have HB2 := Lib.hid ((HB1.out.alloc hs1 (.cells (stCells two78).toArray 68)).trans (below_of_grown hg2 (by simp; omega) (fun k hk => (HO1.out.lt k hk).1))); have hs2 := HB2.out.size; obtain ⟨A2, c2, rfl, hc2, hm2, _⟩ := own_shape HO2.out; obtain ⟨g2, rfl, hgb, hglt, _, _⟩ := own_pos HO2.out (by omega); clear hown2 hg2))
  clear P1 H0 HO1 HB1 B1 HR1
  go_loopw [5] (fun i wr => ∃ k : Nat, k ≤ n ∧ i = .int .i64 k ∧ Hid (wr.ownsRow w.heap.size 68 3 (.slice (some ⟨g2, 0, none⟩) (n + 2) c2) (n + 2) (stCells ((b0.take k).map bump ++ (b0.drop k ++ two78)))) ∧ Hid (Below w.heap.size w wr)) (fun i _ => n - (intOf i).toNat)
  case atStart => exact ⟨0, Nat.zero_le _, rfl, Lib.hid (by simpa using HO2.out), HB2⟩
  case round =>
    obtain ⟨k, hk, rfl, HO, HBr⟩ := hrel
    have hszr := HBr.out.size
    by_cases hlt : k < n
    · have hkx : k < b0.length := by rw [← HN.out]; exact hlt
      have hx := get_mid bump b0 two78 k hkx
      obtain ⟨x, hxe⟩ : ∃ x, x = b0[k] := ⟨_, rfl⟩
      have hset := set_mid bump b0 two78 k hkx
      rw [← hxe] at hx hset
      have hc1 := (HO.out.cellAt (k * 3 + 1) (by omega)).trans (stCells_get hx).2.1
      have hf1 := HO.out.frozenAt (k * 3 + 1)
      have hst := HO.out.stored (k * 3 + 1) (.int .u64 (((x.n + 1) % 18446744073709551616 : Nat) : Int))
      rw [stCells_set _ hx, show (⟨x.k, (x.n + 1) % 18446744073709551616, x.s⟩ : Stp) = bump x from rfl, hset] at hst
      have e1 : (((x.n + 1) % 18446744073709551616 : Nat) : Int) = ((x.n : Int) + 1) % 18446744073709551616 := by omega
      rw [e1] at hst
      have HS := Lib.hid hst
      have hg2r : g2 < wr.heap.size := (HO.out.lt g2 rfl).2
      clear hst hx hset e1 hxe
      go_wp2
      go_roundw
      case rel => exact ⟨k + 1, by omega, by go_num, Lib.hid HS.out.1, Lib.hid (HBr.out.trans (below_of_grown HS.out.2 hszr (fun q hq => by injection hq with hq; omega)))⟩
      case measure => simp [intOf]; omega
    · have hkn : k = n := by omega
      have e1 : b0.take k = b0 := List.take_of_length_le (by rw [← HN.out]; omega)
      have e2 : b0.drop k = [] := List.drop_eq_nil_of_le (by rw [← HN.out]; omega)
      rw [e1, e2, List.nil_append] at HO
      subst hkn
      have PK1 := Lib.hid (pack_is (some ⟨g2, 0, none⟩) c2 k (b0.map bump) wr (ownI_pre HO.out) (by simp [← HN.out]) (by omega) (by omega) (fun y hy => by obtain ⟨z, hz, rfl⟩ := List.mem_map.1 hy; exact bump_ok (HA.out z hz)) (by rw [bump_sum]; exact HB.out))
      unfold PackPost at PK1
      clear HO2 HB2 e1 e2
      go_wp2_with (go_at_call 46; refine PK1.out.mono ?_; rintro e w3 ⟨A3, c3, rfl, _, hb3⟩; have HO3 := Lib.hid (own_below HO.out hb3); have HB3 := Lib.hid (HBr.out.trans (hb3.mono hszr)); clear hb3 PK1)
      have hs3 := HB3.out.size
      go_loopw [6] (fun i wq => ∃ j : Nat, j ≤ k ∧ i = .int .i64 j ∧ Hid (wq.ownsRow w.heap.size 68 3 (.slice (some ⟨g2, 0, none⟩) (k + 2) c2) (k + 2) (stCells (b0.take j ++ ((b0.drop j).map bump ++ two78)))) ∧ Hid (Below w.heap.size w wq)) (fun i _ => k - (intOf i).toNat)
      case atStart => exact ⟨0, Nat.zero_le _, rfl, Lib.hid (by simpa using HO3.out), HB3⟩
      case round =>
        obtain ⟨j, hj, rfl, HOq, HBq⟩ := hrel
        have hszq := HBq.out.size
        by_cases hlj : j < k
        · have hkx : j < b0.length := by rw [← HN.out]; exact hlj
          have hx := get_back bump b0 two78 j hkx
          have hset := set_back bump b0 two78 j hkx
          obtain ⟨x, hxe⟩ : ∃ x, x = b0[j] := ⟨_, rfl⟩
          have hx0 : b0[j]? = some x := by rw [hxe]; exact List.getElem?_eq_getElem hkx
          rw [← hxe] at hx hset
          obtain ⟨g, off, rfl, hg, hcell⟩ := HR.out (by rintro rfl; simp at hx0)
          have d1 := (HBq.out.cell (p := ⟨g, off + j * 3 + 1, none⟩) hg).trans (hcell j x hx0).2.1
          have hgq : g < wr.heap.size := Nat.lt_of_lt_of_le hg hszq
          have hc1 := (HOq.out.cellAt (j * 3 + 1) (by omega)).trans (stCells_get hx).2.1
          have hf1 := HOq.out.frozenAt (j * 3 + 1)
          have hst := HOq.out.stored (j * 3 + 1) (.int .u64 ((x.n : Nat) : Int))
          rw [stCells_set _ hx, show (⟨(bump x).k, x.n, (bump x).s⟩ : Stp) = x from rfl, hset] at hst
          have HS := Lib.hid hst
          have hg2q : g2 < wr.heap.size := (HOq.out.lt g2 rfl).2
          clear hst hx hset hxe hx0 hcell
          go_wp2
          go_roundw
          case rel => exact ⟨j + 1, by omega, by go_num, Lib.hid HS.out.1, Lib.hid (HBq.out.trans (below_of_grown HS.out.2 hszq (fun q hq => by injection hq with hq; omega)))⟩
          case measure => simp [intOf]; omega
        · have hjk : j = k := by omega
          have e1 : b0.take j = b0 := List.take_of_length_le (by rw [← HN.out]; omega)
          have e2 : b0.drop j = [] := List.drop_eq_nil_of_le (by rw [← HN.out]; omega)
          rw [e1, e2, List.map_nil, List.nil_append] at HOq
          subst hjk
          have PK2 := Lib.hid (pack_is (some ⟨g2, 0, none⟩) c2 j b0 wr (ownI_pre HOq.out) (by simp [← HN.out]) (by omega) (by omega) HA.out HB.out)
          unfold PackPost at PK2
          clear HO3 HB3 HO HBr e1 e2
          go_wp2_with fail
          refine PK2.out.mono ?_
          rintro e w4 ⟨A4, c4, rfl, ho4, hb4⟩
          have HO4 := Lib.hid (own_below HOq.out hb4)
          have HB4 := Lib.hid (HBq.out.trans (hb4.mono hszq))
          have HV4 := Lib.hid ho4
          have hs4 := hb4.size
          have PK3 := Lib.hid (pack_is (some ⟨g2, 0, none⟩) c2 j b0 w4 (ownI_pre HO4.out) (by simp [← HN.out]) (by omega) (by omega) HA.out HB.out)
          unfold PackPost at PK3
          clear ho4 hb4 PK2 HOq HBq
          go_wp2_with fail
          refine PK3.out.mono ?_
          rintro e w5 ⟨A5, c5, rfl, ho5, hb5⟩
          have HO5 := Lib.hid (own_below HO4.out hb5)
          have HB5 := Lib.hid (HB4.out.trans (hb5.mono HB4.out.size))
          have HV5 := Lib.hid ho5
          have HW5 := Lib.hid (own_below HV4.out hb5)
          have hs5 := hb5.size
          have HL4 := Lib.hid (fun k hk => (HV4.out.lt k hk).2)
          have HG4 := Lib.hid (HO4.out.lt g2 rfl).2
          have hsz4 := HB4.out.size
          clear ho5 hb5 PK3 HO4 HB4 HV4
          have hql : (pk b0).1.length ≤ 140737488351232 := by
            have := pk_len HA.out
            have := HB.out
            omega
          have PK6 := Lib.hid (marked_own w4.heap.size _ _ _ 9 w5 HV5.out hql hs5)
          have RP := Lib.hid (fun W (hW : Below w.heap.size w W) => rpack_is A0 c0 j b0 W (HR.out.below hW) (by simp [← HN.out]) (by omega) (by omega) HA.out HB.out)
          unfold PackPost at RP
          obtain ⟨q, hq⟩ : ∃ q, q = pk b0 := ⟨_, rfl⟩
          rw [← hq] at hql HV5 HW5 PK6 RP HL4 ⊢
          clear hq
          go_wp2_with fail
          refine PK6.out.mono ?_
          rintro e w6 ⟨A6, c6, rfl, hb6⟩
          have HO6 := Lib.hid (own_keep HO5.out hb6 (fun k hk => by injection hk with hk; subst hk; exact HG4.out))
          have HW6 := Lib.hid (own_keep HW5.out hb6 HL4.out)
          have HB6 := Lib.hid (HB5.out.trans (hb6.mono hsz4))
          clear hb6 PK6 HO5 HW5 HV5 HB5
          go_wp2_with fail
          refine (RP.out w6 HB6.out).mono ?_
          rintro e w7 ⟨A7, c7, rfl, ho7, hb7⟩
          have HO7 := Lib.hid (own_below HO6.out hb7)
          have HW7 := Lib.hid (own_below HW6.out hb7)
          have HB7 := Lib.hid (HB6.out.trans (hb7.mono HB6.out.size))
          have HV7 := Lib.hid ho7
          have i0 : (0 : Int) ≤ (j : Int) := by omega
          have i1 : (j : Int) < (j : Int) + 2 := by omega
          have i2 : (j : Int) + 1 < (j : Int) + 2 := by omega
          have hlb : b0.length = j := by simp [← HN.out]
          have k77 := (HO7.out.cellAt (j * 3) (by omega)).trans (stCells_get (l := b0 ++ two78) (k := j) (x := ⟨77, 0, ⟨#[]⟩⟩) (by rw [List.getElem?_append_right (by omega), hlb, Nat.sub_self]; rfl)).1
          have k78 := (HO7.out.cellAt ((j + 1) * 3) (by omega)).trans (stCells_get (l := b0 ++ two78) (k := j + 1) (x := ⟨78, 0, ⟨#[]⟩⟩) (by rw [List.getElem?_append_right (by omega), hlb, show j + 1 - j = 1 by omega]; rfl)).1
          have hg7 : g2 < w7.heap.size := (HO7.out.lt g2 rfl).2
          have SI := Lib.hid (fun W (hW : Below w7.heap.size w7 W) => sameItems_yes (some ⟨g2, 0, none⟩) A0 c2 c0 j b0 W (ownI_pre (own_below HO7.out hW)) (HR.out.below (HB7.out.trans (hW.mono HB7.out.size))) hlb (by omega) (by omega) (by omega))
          clear ho7 hb7 HO6 HW6 HB6 RP hlb
          go_wp2_with fail
          refine (same_yes A4 A7 _ _ c4 c7 q.1 q.1 _ (rd_own HW7.out) (rd_own HV7.out) rfl rfl (by omega) (by omega) rfl).mono ?_
          rintro e w8 ⟨rfl, m8, rfl⟩
          go_wp2_with fail
          refine (SI.out _ (below_drewN (Below.refl _ _) m8)).mono ?_
          rintro e w9 ⟨rfl, m9, rfl⟩
          go_wp2_with fail
          go_ret
          exact ⟨rfl, below_drewN HB7.out (m8 + m9)⟩

theorem octetPacks_walk (A0 : Option Addr) (c0 : Nat) (b0 : List Stp) (w : World) (c0l : b0.length ≤ c0) (r0 : RdS w A0 b0) (y0 : ∀ x ∈ b0, x.Ok) (l0 : b0.length * 32 ≤ 140737488351232) :
    Calls Try.prog 13 #[.slice A0 b0.length c0] w fun e w' => e = .returned (.bool true) ∧ Below w.heap.size w w' := by
  by_cases h : 2147483647 < stSum b0
  · exact octetPacks_beyond A0 c0 b0 w c0l r0 y0 l0 h
  · exact octetPacks_main A0 c0 b0 w c0l r0 y0 l0 (by omega)
end Go.Proofs.Ytfgjlplfpjfnoaa
