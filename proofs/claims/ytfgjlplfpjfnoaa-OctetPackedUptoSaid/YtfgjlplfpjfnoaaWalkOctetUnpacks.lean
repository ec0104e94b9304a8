/- OctetUnpacks: the walk. -/
import Derived.Test.YtfgjlplfpjfnoaaRUnpack
import Derived.Test.YtfgjlplfpjfnoaaOctMem
import Derived.Test.YtfgjlplfpjfnoaaOctSame
namespace Go.Proofs.Ytfgjlplfpjfnoaa
open Go Go.RowKit
set_option linter.unusedVariables false
set_option linter.unusedSimpArgs false

theorem infoN : (Try.prog.info? 3).map (fun i => (i.zero, i.size, i.bytes)) = some (some (.int .i64 0), 1, 8) := by kernel_rfl
theorem i64s_oneN (l : List Int) : ∀ u ∈ i64s l, u.oneCell' = true := by
  intro u hu
  obtain ⟨b, _, rfl⟩ := List.mem_map.1 hu
  rfl
/-- Whole numbers behind a row of the call's own. -/
theorem appN (w : World) {ops : Array Oper} {rest : List Oper} {o : Oper} {a : Act} {Q : Exit → Act → World → Prop} (hgd : o.guard = none) (s x : Operand)
    (ho : o.op = .call { callee := .builtin .append, args := #[s, x], argTypes := #[84, 84] })
    (base : Nat) (v : Value) (n : Nat) (xs : List Int) (hs : a.eval s = v) (hown : w.ownsRow base 3 1 v n (i64s xs))
    (A : Option Addr) (m c : Nat) (news : List Int) (hx : a.eval x = .slice A m c) (hl : news.length = m) (hr : Rd w A (i64s news))
    (hbytes : (n + m) * 8 ≤ 140737488355328) (hbase : base ≤ w.heap.size)
    (h : ∀ v' w', w'.ownsRow base 3 1 v' (n + m) (i64s (xs ++ news)) → w.grownBy w' v.ownBlock → (v'.ownBlock = v.ownBlock ∨ ∃ k, v'.ownBlock = some k ∧ w.heap.size ≤ k) → wpList Try.prog ops Q rest (a.put o.dst v') w') :
    wpList Try.prog ops Q (o :: rest) a w := by
  obtain ⟨i0, hi, hz0, hz1, hz2⟩ := info_parts infoN
  refine wpList_app w hgd s x 84 ho base 3 i0 _ 1 8 Try.underlying84 hi hz0 hz1 hz2 rfl (by omega) v n (i64s xs) hs hown A m c (i64s news) hx (by rw [i64s_length]; omega) hr (i64s_oneN _) hbytes (by unfold maxLen; omega) hbase ?_
  intro v' w' h1 h2 h3
  exact h v' w' (by rw [i64s_append]; exact h1) h2 h3
theorem i64s_set (l : List Int) (k : Nat) (z : Int) : (i64s l).set k (.int .i64 z) = i64s (l.set k z) := by simp [i64s, List.map_set]
theorem get_backN {α : Type} (f : α → α) (xs ys : List α) (k : Nat) (hk : k < xs.length) : (xs.take k ++ ((xs.drop k).map f ++ ys))[k]? = some (f xs[k]) := by
  have hl : (xs.take k).length = k := by rw [List.length_take]; omega
  rw [List.drop_eq_getElem_cons hk, List.map_cons, List.cons_append, List.getElem?_append_right (by omega), hl, Nat.sub_self]
  rfl
theorem set_backN {α : Type} (f : α → α) (xs ys : List α) (k : Nat) (hk : k < xs.length) : (xs.take k ++ ((xs.drop k).map f ++ ys)).set k xs[k] = xs.take (k + 1) ++ ((xs.drop (k + 1)).map f ++ ys) := by
  have hl : (xs.take k).length = k := by rw [List.length_take]; omega
  rw [List.drop_eq_getElem_cons hk, List.map_cons, List.cons_append, List.take_succ_eq_append_getElem hk, List.set_append_right _ _ (by omega), hl, Nat.sub_self, List.set_cons_zero, List.append_assoc]
  rfl

/-- One more, as the machine counts. -/
def incK (x : Int) : Int := wrap64 (x + 1)

/-- The two rows of the law: the kinds with one behind, the bytes with four behind. -/
structure LawU (w wr : World) (g2 ck n : Nat) (ks : List Int) (gf cf m : Nat) (bs : List Nat) : Prop where
  k : wr.ownsRow w.heap.size 3 1 (.slice (some ⟨g2, 0, none⟩) (n + 1) ck) (n + 1) (i64s ks)
  f : wr.ownsRow w.heap.size 5 1 (.slice (some ⟨gf, 0, none⟩) (m + 4) cf) (m + 4) (b8 bs)
  ne : g2 ≠ gf
  be : Below w.heap.size w wr
section
variable {w wr W : World} {g2 ck n : Nat} {ks ks' : List Int} {gf cf m : Nat} {bs bs' : List Nat}
theorem LawU.sz (h : LawU w wr g2 ck n ks gf cf m bs) : w.heap.size ≤ wr.heap.size := h.be.size
theorem LawU.below (h : LawU w wr g2 ck n ks gf cf m bs) (hb : Below wr.heap.size wr W) : LawU w W g2 ck n ks gf cf m bs :=
  ⟨own_below h.k hb, own_below h.f hb, h.ne, h.be.trans (hb.mono h.sz)⟩
theorem LawU.flip (h : LawU w wr g2 ck n ks gf cf m bs) (ho : W.ownsRow w.heap.size 5 1 (.slice (some ⟨gf, 0, none⟩) (m + 4) cf) (m + 4) (b8 bs')) (hg : wr.grownBy W (some gf)) : LawU w W g2 ck n ks gf cf m bs' :=
  ⟨h.k.kept hg (.inr (by intro e; injection e with e; exact h.ne e)), ho, h.ne, h.be.trans (below_of_grown hg h.sz (fun q hq => by injection hq with hq; subst hq; exact (h.f.lt gf rfl).1))⟩
theorem LawU.setk (h : LawU w wr g2 ck n ks gf cf m bs) (ho : W.ownsRow w.heap.size 3 1 (.slice (some ⟨g2, 0, none⟩) (n + 1) ck) (n + 1) (i64s ks')) (hg : wr.grownBy W (some g2)) : LawU w W g2 ck n ks' gf cf m bs :=
  ⟨ho, h.f.kept hg (.inr (by intro e; injection e with e; exact h.ne e.symm)), h.ne, h.be.trans (below_of_grown hg h.sz (fun q hq => by injection hq with hq; subst hq; exact (h.k.lt g2 rfl).1))⟩
theorem LawU.rk (h : LawU w wr g2 ck n ks gf cf m bs) : Rd wr (some ⟨g2, 0, none⟩) (i64s (ks.take n)) := by
  rw [i64s_take]
  exact (rd_own h.k).take_ n
theorem LawU.rf (h : LawU w wr g2 ck n ks gf cf m bs) : Rd wr (some ⟨gf, 0, none⟩) (b8 (bs.take m)) := by
  have := (rd_own h.f).take_ m
  simpa [b8, List.map_take] using this
end

set_option maxHeartbeats 2000000 in
set_option maxRecDepth 100000 in
theorem octetUnpacksU_walk (A0 : Option Addr) (c0 : Nat) (b0 : List Int) (a1 : Int) (A2 : Option Addr) (c2 : Nat) (b2 : List Nat) (w : World) (c0l : b0.length ≤ c0) (r0 : Rd w A0 (i64s b0)) (y0 : W64 b0) (l0 : b0.length * 8 ≤ 140737488351232) (m0 : c0 ≤ maxLen) (w1 : -9223372036854775808 ≤ a1 ∧ a1 ≤ 9223372036854775807) (c2l : b2.length ≤ c2) (r2 : Rd w A2 (b8 b2)) (y2 : By b2) (l2 : b2.length ≤ 140737488351232) (ub : b0.length + b2.length ≤ 1048576) :
    Calls Try.prog 16 #[.slice A0 b0.length c0, .int .i64 a1, .slice A2 b2.length c2] w fun e w' => e = .returned (.bool true) ∧ Below w.heap.size w w' := by
  obtain ⟨n, hn⟩ : ∃ n, n = b0.length := ⟨_, rfl⟩
  obtain ⟨m, hm⟩ : ∃ m, m = b2.length := ⟨_, rfl⟩
  have HR0 := Lib.hid r0
  have HR2 := Lib.hid r2
  have HY := Lib.hid y2
  have P1 := Lib.hid (fun W (hb : Below w.heap.size w W) => roomy_any A2 m c2 b2 W (r2.below hb) hm.symm (by omega))
  have PU := Lib.hid (fun A c ks d x B W (hk : Rd W A (i64s ks)) (hl : ks.length = n) (hx : Rd W B (b8 x)) (hlx : x.length = m) (hy : By x) => unpack_is A n c ks a1 B m d x W hk hl (by omega) w1 hx hlx hy (by omega))
  have PR := Lib.hid (fun W (hb : Below w.heap.size w W) => runpack_is A0 n c0 b0 a1 A2 m c2 b2 W (r0.below hb) hn.symm (by omega) w1 (r2.below hb) hm.symm y2 (by omega))
  unfold UnpPost at PU PR
  have hn2 : n ≤ 1048576 := by omega
  have hm2 : m ≤ 1048576 := by omega
  rw [← hn] at c0l ⊢
  rw [← hm] at c2l ⊢
  have HN := Lib.hid hn
  have HM := Lib.hid hm
  clear r0 r2 y0 y2 hn hm ub l0 l2 w1
  go_enter Try.func16, Try.ntmps16
  go_wp2_with fail
  refine (P1.out w (Below.refl _ _)).mono ?_
  rintro e wa ⟨Af, cf, rfl, hof, hba⟩
  obtain ⟨gf, rfl, hgf1, hgf2, hcf, hcm⟩ := own_pos hof (by simp)
  have hfl : (b2 ++ [165, 90, 167, 91]).length = m + 4 := by simp [HM.out]
  rw [hfl] at hof hcf
  have HOF := Lib.hid hof
  have BA := Lib.hid hba
  have HO0 := Lib.hid (own_lit wa wa.heap.size [] 3 0 (Nat.le_refl _) (by decide) rfl)
  have BX := Lib.hid ((Below.refl wa.heap.size wa).alloc (Nat.le_refl _) (.cells #[] 3))
  have HR1 := Lib.hid (HR0.out.below (hba.trans (BX.out.mono hba.size)))
  (rw [hfl])
  clear hof hba hfl
  go_wp2_with (first
    | (at_builtin; (refine appN _ rfl (.tmp 21) (.tmp 22) rfl wa.heap.size _ 0 [] rfl HO0.out A0 n c0 b0 rfl HN.out.symm HR1.out (by omega) BX.out.size ?_); intro v1 w1 hown1 hg1 hn1; have HO1 := Lib.hid hown1; have HB1 := Lib.hid (BX.out.trans (below_of_grown hg1 BX.out.size (fun k hk => (HO0.out.lt k hk).1))); have hs1 := HB1.out.size; clear hown1 hg1 hn1)
    | (at_builtin; (refine appN _ rfl (.tmp 24) (.tmp 25) rfl wa.heap.size v1 _ b0 rfl (HO1.out.alloc _) (some ⟨w1.heap.size, 0, none⟩) 1 1 [-77] rfl rfl (rd_lit w1 _ _) (by omega) (by simp; omega) ?_); intro v2 w2 hown2 hg2 hn2; have HB2 := Lib.hid ((HB1.out.alloc hs1 (.cells (i64s [-77]).toArray 3)).trans (below_of_grown hg2 (by simp; omega) (fun k hk => (HO1.out.lt k hk).1))); (rw [Nat.zero_add] at hown2); obtain ⟨A2', ck, rfl, hck⟩ := own_shape hown2; obtain ⟨g2, rfl, hgb, hglt, hnk, hkm⟩ := own_pos hown2 (by omega); have HL := Lib.hid (⟨own_weak hown2 BA.out.size, own_below HOF.out HB2.out, by omega, BA.out.trans (HB2.out.mono BA.out.size)⟩ : LawU w w2 g2 ck n (b0 ++ [-77]) gf cf m (b2 ++ [165, 90, 167, 91])); clear hown2 hg2 hn2 hck))
  clear HO0 BX HR1 HO1 HB1 HB2 BA HOF
  have hT0 : (b0 ++ [-77]).take n = b0 := by rw [List.take_append_of_le_length (by have := HN.out; omega), List.take_of_length_le (by have := HN.out; omega)]
  have hT1 : (b0.map incK ++ [-77]).take n = b0.map incK := by rw [List.take_append_of_le_length (by simp [HN.out]), List.take_of_length_le (by simp [HN.out])]
  have hF0 : (b2.map fl ++ [165, 90, 167, 91]).take m = b2.map fl := by rw [List.take_append_of_le_length (by simp [HM.out]), List.take_of_length_le (by simp [HM.out])]
  have hF1 : (b2 ++ [165, 90, 167, 91]).take m = b2 := by rw [List.take_append_of_le_length (by simp [HM.out]), List.take_of_length_le (by simp [HM.out])]
  have T0 := Lib.hid hT0
  have T1 := Lib.hid hT1
  have F0 := Lib.hid hF0
  have F1 := Lib.hid hF1
  clear hT0 hT1 hF0 hF1
  refine (flipped_own w.heap.size gf (m + 4) cf m cf b2 [165, 90, 167, 91] w2 HL.out.f HY.out HM.out.symm (by omega)).mono ?_
  rintro e w3 ⟨rfl, hof3, hg3⟩
  have HL3 := Lib.hid (HL.out.flip hof3 hg3)
  have K3 := Lib.hid HL3.out.rk
  have G3 := Lib.hid HL3.out.rf
  rw [T0.out] at K3
  rw [F0.out] at G3
  clear hof3 hg3 HL
  go_wp2_with fail
  refine (PU.out _ ck b0 cf (b2.map fl) _ w3 K3.out HN.out.symm G3.out (by simp [HM.out]) (by_fl b2)).mono ?_
  rintro e w4 ⟨A4, c4, rfl, h4, hb4⟩
  clear h4
  have HL4 := Lib.hid (HL3.out.below hb4)
  clear hb4 K3 G3 HL3
  go_wp2_with fail
  refine (flipped_own w.heap.size gf (m + 4) cf m cf (b2.map fl) [165, 90, 167, 91] w4 HL4.out.f (by_fl b2) (by simp [HM.out]) (by omega)).mono ?_
  rintro e w5 ⟨rfl, hof5, hg5⟩
  rw [map_fl_fl HY.out] at hof5
  have HL5 := Lib.hid (HL4.out.flip hof5 hg5)
  clear hof5 hg5 HL4
  go_wp2_with fail
  go_loopw [9] (fun i wr => ∃ k : Nat, k ≤ n ∧ i = .int .i64 k ∧ Hid (LawU w wr g2 ck n ((b0.take k).map incK ++ (b0.drop k ++ [-77])) gf cf m (b2 ++ [165, 90, 167, 91]))) (fun i _ => n - (intOf i).toNat)
  case atStart => exact ⟨0, Nat.zero_le _, rfl, Lib.hid (by simpa using HL5.out)⟩
  case round =>
    obtain ⟨k, hk, rfl, HL⟩ := hrel
    clear HL5
    have hgl : g2 < wr.heap.size := (HL.out.k.lt g2 rfl).2
    by_cases hlt : k < n
    · have hkx : k < b0.length := by rw [← HN.out]; exact hlt
      have hx := get_mid incK b0 [-77] k hkx
      have hset := set_mid incK b0 [-77] k hkx
      obtain ⟨x, hxe⟩ : ∃ x, x = b0[k] := ⟨_, rfl⟩
      rw [← hxe] at hx hset
      have hc1 : wr.cell? ⟨g2, k, none⟩ = some (.int .i64 x) := (HL.out.k.cellAt k (by omega)).trans (by rw [i64s_get, hx]; rfl)
      have hf1 := HL.out.k.frozenAt k
      have hst := HL.out.k.stored k (.int .i64 (wrap64 (x + 1)))
      rw [i64s_set, show wrap64 (x + 1) = incK x from rfl, hset, show incK x = wrap64 (x + 1) from rfl] at hst
      have HS := Lib.hid (HL.out.setk hst.1 hst.2)
      clear hst hx hset hxe hkx
      go_wp2_with fail
      go_roundw
      case rel => exact ⟨k + 1, by omega, by go_num, HS⟩
      case measure => simp [intOf]; omega
    · have hkn : n = k := by omega
      subst hkn
      have e1 : b0.take n = b0 := List.take_of_length_le (by rw [← HN.out]; omega)
      have e2 : b0.drop n = [] := List.drop_eq_nil_of_le (by rw [← HN.out]; omega)
      rw [e1, e2, List.nil_append] at HL
      have K6 := Lib.hid HL.out.rk
      have G6 := Lib.hid HL.out.rf
      rw [T1.out] at K6
      rw [F1.out] at G6
      clear e1 e2 hk hlt
      go_wp2_with fail
      refine (PU.out _ ck (b0.map incK) cf b2 _ wr K6.out (by simp [HN.out]) G6.out HM.out.symm HY.out).mono ?_
      rintro e w6 ⟨A6, c6, rfl, h6, hb6⟩
      clear h6
      have HL6 := Lib.hid (HL.out.below hb6)
      clear hb6 K6 G6 HL
      go_wp2_with fail
      go_loopw [10] (fun i wr => ∃ k : Nat, k ≤ n ∧ i = .int .i64 k ∧ Hid (LawU w wr g2 ck n (b0.take k ++ ((b0.drop k).map incK ++ [-77])) gf cf m (b2 ++ [165, 90, 167, 91]))) (fun i _ => n - (intOf i).toNat)
      case atStart => exact ⟨0, Nat.zero_le _, rfl, Lib.hid (by simpa using HL6.out)⟩
      case round =>
        obtain ⟨k, hk, rfl, HL⟩ := hrel
        clear HL6
        have hgl : g2 < wr.heap.size := (HL.out.k.lt g2 rfl).2
        by_cases hlt : k < n
        · have hkx : k < b0.length := by rw [← HN.out]; exact hlt
          have hx := get_backN incK b0 [-77] k hkx
          have hset := set_backN incK b0 [-77] k hkx
          obtain ⟨x, hxe⟩ : ∃ x, x = b0[k] := ⟨_, rfl⟩
          have hx0 : b0[k]? = some x := by rw [hxe]; exact List.getElem?_eq_getElem hkx
          rw [← hxe] at hx hset
          have hc1 : wr.cell? ⟨g2, k, none⟩ = some (.int .i64 (incK x)) := (HL.out.k.cellAt k (by omega)).trans (by rw [i64s_get, hx]; rfl)
          obtain ⟨gA, off, rfl, hgA, hcell0⟩ := HR0.out.i64 hx0
          have hc0 := (HL.out.be.cell (p := ⟨gA, off + k, none⟩) hgA).trans hcell0
          have hgr : gA < wr.heap.size := by have := HL.out.sz; omega
          have hf1 := HL.out.k.frozenAt k
          have hst := HL.out.k.stored k (.int .i64 x)
          rw [i64s_set, hset] at hst
          have HS := Lib.hid (HL.out.setk hst.1 hst.2)
          clear hst hx hset hxe hkx hx0 hcell0
          go_wp2_with fail
          go_roundw
          case rel => exact ⟨k + 1, by omega, by go_num, HS⟩
          case measure => simp [intOf]; omega
        · have hkn : n = k := by omega
          subst hkn
          have e1 : b0.take n = b0 := List.take_of_length_le (by rw [← HN.out]; omega)
          have e2 : b0.drop n = [] := List.drop_eq_nil_of_le (by rw [← HN.out]; omega)
          rw [e1, e2, List.map_nil, List.nil_append] at HL
          have K7 := Lib.hid HL.out.rk
          have G7 := Lib.hid HL.out.rf
          rw [T0.out] at K7
          rw [F1.out] at G7
          have PV := Lib.hid (fun W (hW : Below wr.heap.size wr W) => PU.out _ ck b0 cf b2 _ W (K7.out.below hW) HN.out.symm (G7.out.below hW) HM.out.symm HY.out)
          obtain ⟨q, hq⟩ : ∃ q, q = unp b0 a1 b2 := ⟨_, rfl⟩
          have hql : q.1.length ≤ n := by
            rw [hq]
            unfold unp
            split
            · split
              · simp
              · rw [rdAll_len, ← HN.out]; omega
            · simp
          rw [← hq] at PV PR
          clear e1 e2 hk hlt PU K7 G7 hq
          have hszw := HL.out.sz
          go_wp2_with fail
          refine (PV.out wr (Below.refl _ _)).mono ?_
          rintro e w8 ⟨A8, c8, rfl, ho8, hb8⟩
          have HL8 := Lib.hid (HL.out.below hb8)
          obtain ⟨SP, hSP⟩ : ∃ SP, SP = Obj.cells #[.int .i64 q.2.1, .int .i64 (q.2.2 : Int)] 76 := ⟨_, rfl⟩
          have PV9 := Lib.hid (PV.out (w8.alloc SP) (hb8.alloc hb8.size SP))
          have HQ8 := Lib.hid (ho8.alloc SP)
          have HX9 := Lib.hid (HL8.out.below (below_box w8 SP))
          have hlt8 := hb8.size
          have HSP := Lib.hid hSP
          rw [hSP] at PV9
          clear ho8 hb8 HL PV hSP
          go_wp2_with fail
          refine PV9.out.mono ?_
          rw [← HSP.out]
          rintro e w9 ⟨A9, c9, rfl, ho9, hb9⟩
          have H9 := Lib.hid ho9
          have B9 := Lib.hid hb9
          have hlt9 := hb9.size
          clear ho9 hb9 PV9
          go_wp2_with fail
          obtain ⟨SP2, hSP2⟩ : ∃ S, S = Obj.cells #[.int .i64 q.2.1, .int .i64 (q.2.2 : Int)] 76 := ⟨_, rfl⟩
          have hs8 : (w8.alloc SP).heap.size = w8.heap.size + 1 := by simp
          have H9' := Lib.hid (H9.out.alloc SP2)
          have B9' := Lib.hid (B9.out.alloc hlt9 SP2)
          rw [← hSP2]
          obtain ⟨L, hL⟩ : ∃ L, L = q.1.length := ⟨_, rfl⟩
          have HLq := Lib.hid hL
          rw [← hL] at H9' hql ⊢
          clear H9 B9 hL
          rw [hs8] at hlt9
          go_loopw [15] (fun i wr => ∃ (k : Nat) (xs : List Value), k ≤ L ∧ i = .int .i64 k ∧ Hid (wr.ownsRow (w8.alloc SP).heap.size 68 3 (.slice A9 L c9) L xs) ∧ Hid (Below (w8.alloc SP).heap.size (w8.alloc SP) wr)) (fun i _ => L - (intOf i).toNat)
          case atStart => exact ⟨0, _, Nat.zero_le _, rfl, H9', B9'⟩
          case round =>
            obtain ⟨k, xs, hk, rfl, HO, HB⟩ := hrel
            have hszr := HB.out.size
            by_cases hlt : k < L
            · obtain ⟨g9, rfl, hg9, hg9l, hc9, _⟩ := own_pos HO.out (by omega)
              have hl9 : xs.length = L * 3 := HO.out.1
              have c0' : ∃ u, wr.cell? ⟨g9, k * 3, none⟩ = some u := ⟨_, (HO.out.cellAt (k * 3) (by omega)).trans (List.getElem?_eq_getElem (by omega))⟩
              have c1' : ∃ u, wr.cell? ⟨g9, k * 3 + 1, none⟩ = some u := ⟨_, (HO.out.cellAt (k * 3 + 1) (by omega)).trans (List.getElem?_eq_getElem (by omega))⟩
              have c2' : ∃ u, wr.cell? ⟨g9, k * 3 + 2, none⟩ = some u := ⟨_, (HO.out.cellAt (k * 3 + 2) (by omega)).trans (List.getElem?_eq_getElem (by omega))⟩
              obtain ⟨u0, c0'⟩ := c0'
              obtain ⟨u1, c1'⟩ := c1'
              obtain ⟨u2, c2'⟩ := c2'
              have f0 := HO.out.frozenAt (k * 3)
              have f1 := HO.out.frozenAt (k * 3 + 1)
              have f2 := HO.out.frozenAt (k * 3 + 2)
              have s0 := HO.out.stored (k * 3) (.int .i64 (-1 - (k : Int)))
              have s1 := s0.1.stored (k * 3 + 1) (.int .u64 0)
              have s2 := s1.1.stored (k * 3 + 2) (.string ⟨#[]⟩)
              have HS := Lib.hid s2.1
              have HT := Lib.hid (HB.out.trans (below_of_grown (grown_trans (grown_trans s0.2 s1.2) s2.2) hszr (fun q hq => by injection hq with hq; omega)))
              clear s0 s1 s2 hl9
              go_wp2_with fail
              go_roundw
              case rel => exact ⟨k + 1, _, by omega, by go_num, HS, HT⟩
              case measure => simp [intOf]; omega
            · have hkn : L = k := by omega
              subst hkn
              obtain ⟨i0, hi, hz0, hz1, hz2⟩ := info_parts infoItem
              go_wp2_with (at_builtin; go_loud (refine wpList_app _ rfl (.tmp 110) (.tmp 113) 65 rfl (w8.alloc SP).heap.size 68 i0 _ 3 32 Try.underlying65 hi hz0 hz1 hz2 rfl (by omega) (.slice A9 L c9) L xs rfl (HO.out.alloc _) (some ⟨_, 0, none⟩) 2 2 (stCells [⟨-99, 0, ⟨#[]⟩⟩, ⟨-98, 0, ⟨#[]⟩⟩]) rfl rfl (rd_lit _ (stCells [⟨-99, 0, ⟨#[]⟩⟩, ⟨-98, 0, ⟨#[]⟩⟩]) _) (stCells_one _) (by omega) (by unfold maxLen; omega) (by simp; omega) ?_); intro v5 w10 ho10 hg10 hn10; have B10 := Lib.hid ((HB.out.alloc hszr _).trans (below_of_grown hg10 (by simp; omega) (fun k hk => (HO.out.lt k hk).1))); obtain ⟨A10, c10, rfl, h10⟩ := own_shape ho10; clear ho10 hg10 hn10 h10)
              have HX10 := Lib.hid (HX9.out.below B10.out)
              have HQ10 := Lib.hid (own_below HQ8.out B10.out)
              have cs : ∀ j u, (w8.alloc SP).cell? ⟨w8.heap.size, j, none⟩ = some u → w10.cell? ⟨w8.heap.size, j, none⟩ = some u := fun j u h => (B10.out.cell (p := ⟨w8.heap.size, j, none⟩) (by simp)).trans h
              have e0 := cs 0 (.int .i64 q.2.1) (by rw [HSP.out, cell_of_row _ w8.heap.size 0 _ _ _ (heap_alloc_new w8 _)]; rfl)
              have e1 := cs 1 (.int .i64 (q.2.2 : Int)) (by rw [HSP.out, cell_of_row _ w8.heap.size 1 _ _ _ (heap_alloc_new w8 _)]; rfl)
              have hw8 : w8.heap.size < w10.heap.size := by have := B10.out.size; omega
              have hc8 : q.1.length ≤ c8 := by obtain ⟨_, _, e, h, _⟩ := own_shape HQ8.out; cases e; exact h
              clear cs HO HB HX9 HQ8 B10 H9' B9' hk hlt
              refine (PR.out w10 HX10.out.be).mono ?_
              rintro e w11 ⟨A11, c11, rfl, ho11, hb11⟩
              have e0' := (hb11.cell (p := ⟨w8.heap.size, 0, none⟩) hw8).trans e0
              have e1' := (hb11.cell (p := ⟨w8.heap.size, 1, none⟩) hw8).trans e1
              have hw8' : w8.heap.size < w11.heap.size := by have := hb11.size; omega
              obtain ⟨SP3, hSP3⟩ : ∃ S, S = Obj.cells #[.int .i64 q.2.1, .int .i64 (q.2.2 : Int)] 76 := ⟨_, rfl⟩
              have HX11 := Lib.hid ((HX10.out.below hb11).below (below_box w11 SP3))
              have HQ11 := Lib.hid (own_below (own_below HQ10.out hb11) (below_box w11 SP3))
              have HM11 := Lib.hid (own_below ho11 (below_box w11 SP3))
              have hc11 : q.1.length ≤ c11 := by obtain ⟨_, _, e, h, _⟩ := own_shape ho11; cases e; exact h
              clear HX10 HQ10 ho11 hb11 e0 e1 hw8 PR
              rw [← HLq.out] at hc8 hc11 ⊢
              rw [hSP3] at HX11 HQ11 HM11
              clear hSP3
              go_wp2_with fail
              refine (sameItems_yes A8 A11 c8 c11 L q.1 _ (RdS.of_rd (rd_own HQ11.out)) (RdS.of_rd (rd_own HM11.out)) HLq.out.symm hc8 hc11 (by omega)).mono ?_
              rintro e w12 ⟨rfl, m12, rfl⟩
              have HX12 := Lib.hid (HX11.out.below (below_drewN (Below.refl _ _) m12))
              clear HX11 HQ11 HM11 e0' e1'
              go_wp2_with fail
              refine (P1.out _ HX12.out.be).mono ?_
              rintro e w13 ⟨A13, c13, rfl, ho13, hb13⟩
              have hfl : (b2 ++ [165, 90, 167, 91]).length = m + 4 := by simp [HM.out]
              rw [hfl] at ho13 ⊢
              have HX13 := Lib.hid (HX12.out.below hb13)
              have HO13 := Lib.hid ho13
              clear ho13 hb13 HX12 P1 hfl
              go_wp2_with fail
              refine (same_yes (some ⟨gf, 0, none⟩) A13 (m + 4) (m + 4) cf c13 (b2 ++ [165, 90, 167, 91]) (b2 ++ [165, 90, 167, 91]) w13 (rd_own HX13.out.f) (rd_own HO13.out) (by simp [HM.out]) (by simp [HM.out]) (by omega) (by omega) rfl).mono ?_
              rintro e w14 ⟨rfl, m14, rfl⟩
              clear HO13
              go_wp2_with fail
              go_loopw [18] (fun i wq => ∃ k mk : Nat, k ≤ n ∧ i = .int .i64 k ∧ wq = w13.drewN mk) (fun i _ => n - (intOf i).toNat)
              case atStart => exact ⟨0, m14, Nat.zero_le _, rfl, rfl⟩
              case round =>
                obtain ⟨k, mk, hk, rfl, rfl⟩ := hrel
                by_cases hlt : k < n
                · have hkx : k < b0.length := by rw [← HN.out]; exact hlt
                  obtain ⟨x, hxe⟩ : ∃ x, x = b0[k] := ⟨_, rfl⟩
                  have hx0 : b0[k]? = some x := by rw [hxe]; exact List.getElem?_eq_getElem hkx
                  have hx : (b0 ++ [-77])[k]? = some x := by rw [List.getElem?_append_left hkx, hx0]
                  have HX15 := HX13.out
                  have hc1 := (HX15.k.cellAt k (by omega)).trans (by rw [i64s_get, hx]; rfl : _ = some (Value.int .i64 x))
                  have hgl : g2 < w13.heap.size := (HX15.k.lt g2 rfl).2
                  obtain ⟨gA, off, rfl, hgA, hcell0⟩ := HR0.out.i64 hx0
                  have hc0 := (HX15.be.cell (p := ⟨gA, off + k, none⟩) hgA).trans hcell0
                  have hgr : gA < w13.heap.size := by have := HX15.sz; omega
                  have i0 : (0 : Int) ≤ (k : Int) := by omega
                  have i1 : (k : Int) < (n : Int) := by omega
                  clear hx hx0 hxe hkx HX15 hcell0
                  go_wp2_with fail
                  go_quiet (fail)
                  go_wp2_with fail
                  go_roundw
                  case rel => exact ⟨k + 1, _, by omega, by go_num, rfl⟩
                  case measure => simp [intOf]; omega
                · have hkn : n = k := by omega
                  subst hkn
                  have HX15 := Lib.hid HX13.out
                  have hc1 := (HX15.out.k.cellAt n (by omega)).trans (by rw [i64s_get, HN.out, List.getElem?_append_right (Nat.le_refl _), Nat.sub_self]; rfl : _ = some (Value.int .i64 (-77)))
                  have hgl : g2 < w13.heap.size := (HX15.out.k.lt g2 rfl).2
                  go_wp2_with fail
                  go_ret
                  exact ⟨rfl, below_drewN HX15.out.be mk⟩
end Go.Proofs.Ytfgjlplfpjfnoaa
