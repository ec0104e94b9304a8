/- OctetPacked: the walk. (Printed by gen_wpacked.py.) -/
import Derived.Test.YtfgjlplfpjfnoaaPkdPlain
import Derived.Test.YtfgjlplfpjfnoaaWalkOctetUnpacks
import Derived.Test.YtfgjlplfpjfnoaaWalkOctetPacks
namespace Go.Proofs.Ytfgjlplfpjfnoaa
open Go Go.RowKit
set_option linter.unusedVariables false
set_option linter.unusedSimpArgs false

theorem unp_len (ks : List Int) (most : Int) (bs : List Nat) {M : Nat} (h : ks.length ≤ M) : (unp ks most bs).1.length ≤ M := by
  unfold unp
  split
  · split
    · simp
    · rw [rdAll_len]; exact h
  · simp
theorem unp_nil {ks : List Int} {most : Int} {bs : List Nat} (h : (unp ks most bs).2.1 ≠ 0) : (unp ks most bs).1 = [] := by
  unfold unp at h ⊢
  split at h
  · rename_i hk
    split at h
    · rename_i hf
      simp only [hk, hf, if_true, ne_eq, not_false_eq_true]
    · simp at h
  · rename_i hk
    simp only [hk]
    rfl
theorem unp_one : unp [1] 0 [5] = ([⟨1, 5, ⟨#[]⟩⟩], 0, 0) := by
  have h := unp_read (most := 0) (l := [⟨1, 5, ⟨#[]⟩⟩]) (by
    intro x hx
    simp only [List.mem_singleton] at hx
    subst hx
    exact ⟨⟨by simp, by simp, by simp [ByteArray.size]⟩, by simp [Stp.fits, empty_is], by simp [ByteArray.size]⟩)
  have e : itemsOut [⟨1, 5, ⟨#[]⟩⟩] = [5] := by simp [itemsOut, Stp.bytes, Uv.uv_small]
  rw [e] at h
  exact h
theorem size_max {l : List Stp} {k : Nat} {x : Stp} (hx : l[k]? = some x) {g M : Nat} (h : ∀ y ∈ l.take k, y.s.size ≤ g) (h1 : g ≤ M) (h2 : x.s.size ≤ M) : ∀ y ∈ l.take (k + 1), y.s.size ≤ M := by
  obtain ⟨hk, rfl⟩ := List.getElem?_eq_some_iff.1 hx
  intro y hy
  rw [List.take_succ_eq_append_getElem hk, List.mem_append] at hy
  rcases hy with hy | hy
  · exact Nat.le_trans (h y hy) h1
  · simp only [List.mem_singleton] at hy
    rw [hy]
    exact h2
theorem own_litA (w : World) (base g : Nat) (hb : base ≤ w.heap.size) (hg : w.heap.size = g) (e : TypeId) : (w.alloc (.cells #[] e)).ownsRow base e 1 (.slice (some ⟨g, 0, none⟩) 0 0) 0 (b8 []) := by
  subst hg
  exact own_lit w base [] e 0 hb (by decide) rfl
theorem stp_by (x : Stp) : By x.bytes := by
  unfold Stp.bytes
  split
  · intro c hc; simp only [List.mem_singleton] at hc; subst hc; omega
  split
  · exact Uv.uv_lt _
  split
  · exact Uv.uv_lt _
  split
  · exact fx_by _ _
  split
  · exact fx_by _ _
  split
  · intro c hc
    rcases List.mem_append.1 hc with h | h
    · exact Uv.uv_lt _ c h
    · exact sb_by _ c h
  · intro c hc; cases hc
theorem items_by (l : List Stp) : By (itemsOut l) := by
  intro c hc
  obtain ⟨x, _, hx⟩ := List.mem_flatMap.1 hc
  exact stp_by x c hx
theorem kinds_take {l : List Stp} {k : Nat} {x : Stp} (hx : l[k]? = some x) : (l.take (k + 1)).map Stp.k = (l.take k).map Stp.k ++ [x.k] := by
  obtain ⟨hk, rfl⟩ := List.getElem?_eq_some_iff.1 hx
  rw [List.take_succ_eq_append_getElem hk, List.map_append]
  rfl

set_option maxHeartbeats 400000 in
set_option maxRecDepth 100000 in
theorem octetPacked_beyond (A0 : Option Addr) (c0 : Nat) (b0 : List Stp) (A1 : Option Addr) (c1 n1 : Nat) (a2 : Int) (A3 : Option Addr) (c3 m : Nat) (w : World) (c0l : b0.length ≤ c0) (r0 : RdS w A0 b0) (y0 : ∀ x ∈ b0, x.Ok) (l0 : b0.length * 32 ≤ 140737488351232) (hb : 2147483647 < stSum b0) :
    Calls Try.prog 17 #[.slice A0 b0.length c0, .slice A1 n1 c1, .int .i64 a2, .slice A3 m c3] w fun e w' => e = .returned (.bool true) ∧ Below w.heap.size w w' := by
  have P1 := Lib.hid (fun W (hw : w = W) => beyond_is A0 c0 b0.length b0 W (hw ▸ r0) rfl c0l l0 y0)
  rw [show decide (2147483647 < stSum b0) = true from decide_eq_true hb] at P1
  obtain ⟨n, hn⟩ : ∃ n, n = b0.length := ⟨_, rfl⟩
  rw [← hn] at P1 ⊢
  clear hb r0 y0 hn c0l l0
  go_enter Try.func17, Try.ntmps17
  go_wp2_with (go_at_call 45; refine (P1.out _ rfl).mono ?_; rintro e w' ⟨rfl, rfl⟩)
  go_ret
  exact ⟨rfl, Below.refl _ _⟩

set_option maxHeartbeats 2000000 in
set_option maxRecDepth 100000 in
theorem octetPacked_main (A0 : Option Addr) (c0 : Nat) (b0 : List Stp) (A1 : Option Addr) (c1 : Nat) (b1 : List Int) (a2 : Int) (A3 : Option Addr) (c3 : Nat) (b3 : List Nat) (w : World) (c0l : b0.length ≤ c0) (r0 : RdS w A0 b0) (y0 : ∀ x ∈ b0, x.Ok) (l0 : b0.length * 32 ≤ 140737488351232) (c1l : b1.length ≤ c1) (r1 : Rd w A1 (i64s b1)) (w2 : -9223372036854775808 ≤ a2 ∧ a2 ≤ 9223372036854775807) (c3l : b3.length ≤ c3) (r3 : Rd w A3 (b8 b3)) (y3 : By b3) (ub : b1.length + b3.length ≤ 1048576) (hb : stSum b0 ≤ 2147483647) :
    Calls Try.prog 17 #[.slice A0 b0.length c0, .slice A1 b1.length c1, .int .i64 a2, .slice A3 b3.length c3] w fun e w' => e = .returned (.bool true) ∧ Below w.heap.size w w' := by
  have P1 := Lib.hid (fun W (hw : w = W) => beyond_is A0 c0 b0.length b0 W (hw ▸ r0) rfl c0l l0 y0)
  rw [show decide (2147483647 < stSum b0) = false from decide_eq_false (by omega)] at P1
  have hlen := stSum_len b0
  have HR := Lib.hid r0
  have HA := Lib.hid y0
  have HB := Lib.hid hb
  have HR3 := Lib.hid r3
  have HY3 := Lib.hid y3
  have PT := Lib.hid (fun W (hW : Below w.heap.size w W) => unpack_is A1 b1.length c1 b1 a2 A3 b3.length c3 b3 W (r1.below hW) rfl (by omega) w2 (r3.below hW) rfl y3 (by omega))
  have PU := Lib.hid (fun A n c ks (lg : Nat) d x m B W (hk : Rd W A (i64s ks)) (hl : ks.length = n) (hn : n ≤ 4000000000000) (hlg : lg ≤ 140737488351232) (hx : Rd W B (b8 x)) (hlx : x.length = m) (hy : By x) (hmx : m ≤ 140737488351232) => unpack_is A n c ks (lg : Int) B m d x W hk hl hn (by omega) hx hlx hy hmx)
  have PO := Lib.hid (unpack_is (some ⟨w.heap.size, 0, none⟩) 1 1 [1] 0 (some ⟨w.heap.size + 1, 0, none⟩) 1 1 [5] ((w.alloc (.cells #[.int .i64 1] 3)).alloc (.cells #[.int .u8 5] 5)) ((rd_lit w (i64s [1]) _).below ((Below.refl _ _).alloc (Nat.le_refl _) _)) rfl (by omega) (by omega) (by have h := rd_lit (w.alloc (.cells #[.int .i64 1] 3)) (b8 [5]) 5; rw [show (w.alloc (.cells #[.int .i64 1] 3)).heap.size = w.heap.size + 1 by simp] at h; exact h) rfl (fun b hb => by simp at hb; omega) (by omega))
  have PK := Lib.hid (fun W (hW : Below w.heap.size w W) => pack_is A0 c0 b0.length b0 W (r0.below hW) rfl c0l l0 y0 hb)
  unfold UnpPost at PT PU PO
  unfold PackPost at PK
  rw [unp_one] at PO
  obtain ⟨n, hn⟩ : ∃ n, n = b0.length := ⟨_, rfl⟩
  rw [← hn] at P1 c0l l0 hlen PK ⊢
  have hn2 : n ≤ 2147483647 := by omega
  have HN := Lib.hid hn
  obtain ⟨n1, hn1⟩ : ∃ n1, n1 = b1.length := ⟨_, rfl⟩
  rw [← hn1] at c1l ub PT ⊢
  have HN1 := Lib.hid hn1
  obtain ⟨m, hm⟩ : ∃ m, m = b3.length := ⟨_, rfl⟩
  rw [← hm] at c3l ub PT ⊢
  have HM := Lib.hid hm
  clear hb r0 y0 r1 r3 y3 hn hn1 hm hlen w2
  go_enter Try.func17, Try.ntmps17
  go_wp2_with (go_at_call 45; refine (P1.out _ rfl).mono ?_; rintro e w' ⟨rfl, rfl⟩)
  refine PO.out.mono ?_
  rintro e wa ⟨Aa, ca, rfl, hoa, hba⟩
  have B0 : Below w.heap.size w ((w.alloc (.cells #[.int .i64 1] 3)).alloc (.cells #[.int .u8 5] 5)) := ((Below.refl _ _).alloc (Nat.le_refl _) _).alloc (by simp) _
  have BA := Lib.hid (B0.trans (hba.mono B0.size))
  obtain ⟨ga, rfl, hga1, hga2, hga3, _⟩ := own_pos hoa (by simp)
  have ca1 := (hoa.cellAt 1 (by simp)).trans (show _ = some (Value.int .u64 5) from rfl)
  have has := BA.out.size
  clear hoa hba B0 P1 PO
  simp only [List.length_cons, List.length_nil] at hga3 ⊢
  go_wp2_with fail
  have BA2 := Lib.hid (BA.out.alloc has (.cells #[.int .i64 0, .int .i64 0] 76))
  refine (PK.out _ BA2.out).mono ?_
  rintro e wb ⟨Ab, cb, rfl, hob, hbb⟩
  have BB := Lib.hid (BA2.out.trans (hbb.mono BA2.out.size))
  have hbs := BB.out.size
  by_cases hfit : b0.all Stp.fits = true
  · have hpk : pk b0 = (itemsOut b0, 0) := by unfold pk; rw [if_pos hfit]
    rw [hpk] at hob ⊢
    have hML := itemsOut_len (l := b0) HA.out
    obtain ⟨M, hM⟩ : ∃ M, M = (itemsOut b0).length := ⟨_, rfl⟩
    simp only [← hM] at hob hML ⊢
    have hM2 : M ≤ 21474836470 := by have := HB.out; omega
    have hMc : M ≤ cb := by obtain ⟨_, _, e, h, _⟩ := own_shape hob; cases e; exact h
    have HX := Lib.hid (own_weak hob (show w.heap.size ≤ _ from BA2.out.size))
    have HMM := Lib.hid hM
    have HFT := Lib.hid hfit
    clear hob hbb hM hML hfit hpk BA ca1 PK BA2
    go_wp2_with fail
    go_loopw [13, 14, 15] (fun v lo i wr => ∃ (k lg : Nat) (vi : Value), k ≤ n ∧ i = .int .i64 k ∧ v = vi ∧ lo = .int .i64 (lg : Int) ∧ lg ≤ 140737488351232 ∧ Hid (∀ y ∈ b0.take k, y.s.size ≤ lg) ∧ Hid (wr.ownsRow wb.heap.size 3 1 vi k (i64s ((b0.take k).map Stp.k))) ∧ Hid (Below wb.heap.size wb wr)) (fun _ _ i _ => n - (intOf i).toNat)
    case atStart => exact ⟨0, 0, _, Nat.zero_le _, rfl, rfl, rfl, by omega, Lib.hid (by simp), Lib.hid (World.ownsRow_nil _ _ _ _), Lib.hid (Below.refl _ _)⟩
    case round =>
      obtain ⟨k, lg, vi, hk, rfl, rfl, rfl, hlg, HS, HO, HBr⟩ := hrel
      have hszr := HBr.out.size
      by_cases hlt : k < n
      · obtain ⟨x, hx⟩ : ∃ x, b0[k]? = some x := ⟨_, List.getElem?_eq_getElem (by rw [← HN.out]; exact hlt)⟩
        obtain ⟨g, off, rfl, hg, hcell⟩ := HR.out (by rintro rfl; simp at hx)
        obtain ⟨d0, d1, d2⟩ := hcell k x hx
        have BWr := BB.out.trans (HBr.out.mono hbs)
        have e0 := (BWr.cell (p := ⟨g, off + k * 3, none⟩) hg).trans d0
        have e2 := (BWr.cell (p := ⟨g, off + k * 3 + 2, none⟩) hg).trans d2
        have hglt : g < wr.heap.size := Nat.lt_of_lt_of_le hg BWr.size
        have f2 := (BB.out.cell (p := ⟨g, off + k * 3 + 2, none⟩) hg).trans d2
        have hgb : g < wb.heap.size := by omega
        have hsz := (HA.out x (List.mem_of_getElem? hx)).2.2
        have KT := Lib.hid (kinds_take hx)
        have SM := Lib.hid (fun (M : Nat) (h1 : lg ≤ M) (h2 : x.s.size ≤ M) => size_max hx HS.out h1 h2)
        clear hx hcell d0 d1 d2 BWr
        by_cases hmx : lg < x.s.size
        · go_wp2_with (at_builtin; (refine appN _ rfl (.tmp 62) (.tmp 68) rfl wb.heap.size u13 _ ((b0.take k).map Stp.k) rfl (HO.out.alloc _) (some ⟨wr.heap.size, 0, none⟩) 1 1 [x.k] rfl rfl (rd_lit wr _ _) (by omega) (by simp; omega) ?_); intro v1 w1 hown1 hg1 hn1; have HO1 := Lib.hid hown1; (have HB1 := Lib.hid ((HBr.out.alloc hszr (.cells (i64s [x.k]).toArray 3)).trans (below_of_grown hg1 (by simp; omega) (fun k hk => (HO.out.lt k hk).1)))); (have cE := (HB1.out.cell (p := ⟨g, off + k * 3 + 2, none⟩) hgb).trans f2); clear hown1 hg1 hn1)
          all_goals (try (exfalso; omega))
          refine ⟨?_, ?measure⟩
          (repeat apply Exists.intro)
          refine ⟨?rel, rfl⟩
          case rel => exact ⟨k + 1, x.s.size, _, by omega, by go_num, rfl, rfl, by omega, Lib.hid (SM.out x.s.size (by omega) (by omega)), Lib.hid (by rw [KT.out]; exact HO1.out), HB1⟩
          case measure => simp [intOf]; omega
        · go_wp2_with (at_builtin; (refine appN _ rfl (.tmp 62) (.tmp 68) rfl wb.heap.size u13 _ ((b0.take k).map Stp.k) rfl (HO.out.alloc _) (some ⟨wr.heap.size, 0, none⟩) 1 1 [x.k] rfl rfl (rd_lit wr _ _) (by omega) (by simp; omega) ?_); intro v1 w1 hown1 hg1 hn1; have HO1 := Lib.hid hown1; (have HB1 := Lib.hid ((HBr.out.alloc hszr (.cells (i64s [x.k]).toArray 3)).trans (below_of_grown hg1 (by simp; omega) (fun k hk => (HO.out.lt k hk).1)))); (have cE := (HB1.out.cell (p := ⟨g, off + k * 3 + 2, none⟩) hgb).trans f2); clear hown1 hg1 hn1)
          all_goals (try (exfalso; omega))
          refine ⟨?_, ?measure⟩
          (repeat apply Exists.intro)
          refine ⟨?rel, rfl⟩
          case rel => exact ⟨k + 1, lg, _, by omega, by go_num, rfl, rfl, by omega, Lib.hid (SM.out lg (by omega) (by omega)), Lib.hid (by rw [KT.out]; exact HO1.out), HB1⟩
          case measure => simp [intOf]; omega
      · have hkn : n = k := by omega
        subst hkn
        have e1 : b0.take n = b0 := List.take_of_length_le (by rw [← HN.out]; omega)
        rw [e1] at HS HO
        obtain ⟨Ak, ck, rfl, hAk⟩ := own_shape HO.out
        have HX1 := Lib.hid (own_below HX.out HBr.out)
        have HFA := Lib.hid (fun (x : Stp) (hx : x ∈ b0) => (⟨HA.out x hx, List.all_eq_true.1 HFT.out x hx, by have := HS.out x hx; omega⟩ : x.Ok ∧ x.fits = true ∧ (x.s.size : Int) ≤ (lg : Int)))
        have KL := Lib.hid (show (b0.map Stp.k).length = n by rw [List.length_map, ← HN.out])
        have BYX : By (itemsOut b0) := items_by b0
        have HBY := Lib.hid BYX
        have HU1 := Lib.hid (PU.out Ak n ck (b0.map Stp.k) lg cb (itemsOut b0) M Ab wr (rd_own HO.out) KL.out (by omega) hlg (rd_own HX1.out) HMM.out.symm BYX (by omega))
        rw [unp_read HFA.out] at HU1
        simp only [← HN.out] at HU1
        have BW := Lib.hid (BB.out.trans (HBr.out.mono hbs))
        have hws := BW.out.size
        clear e1 hAk HX HS BYX hk hlt hszr
        go_wp2_with fail
        refine HU1.out.mono ?_
        rintro e wc ⟨Ac, cc, rfl, hoc, hbc⟩
        have HC := Lib.hid hoc
        have BC := Lib.hid hbc
        have hcs := hbc.size
        have hcc : n ≤ cc := by obtain ⟨_, _, e, h, _⟩ := own_shape hoc; cases e; exact h
        have S0 : Hid (wc.alloc (.cells #[.int .i64 0, .int .i64 0] 76) = wc.alloc (.cells #[.int .i64 0, .int .i64 0] 76)) := Lib.hid rfl
        have bsp := hbc.alloc hcs (.cells #[.int .i64 0, .int .i64 0] 76)
        have HL0 := Lib.hid (own_litA (wc.alloc (.cells #[.int .i64 0, .int .i64 0] 76)) (wc.heap.size + 1) (wc.heap.size + 1) (by simp) (by simp) 5)
        have BL0 := Lib.hid (bsp.alloc bsp.size (.cells #[] 5))
        have HX2 := Lib.hid (rd_own (own_below HX1.out BL0.out))
        have c0' : wc.heap.size < ((wc.alloc (.cells #[.int .i64 0, .int .i64 0] 76)).alloc (.cells #[] 5)).heap.size := by simp; omega
        clear hoc hbc HU1 S0 bsp
        go_wp2_with (first
          | (at_builtin; (refine app8 _ rfl (.tmp 88) (.tmp 89) rfl (wc.heap.size + 1) _ 0 [] rfl HL0.out Ab M cb (itemsOut b0) rfl HMM.out.symm HX2.out (by omega) (by simp) ?_); intro v1 w1 hown1 hg1 hn1; go_loud (rw [Nat.zero_add] at hown1); have HO1 := Lib.hid hown1; go_loud (have GB1 := Lib.hid (below_of_grown (B := wc.heap.size + 1) hg1 (by simp) (fun k hk => (HL0.out.lt k hk).1))); go_loud (have hs1 := hg1.size); clear hown1 hg1 hn1)
          | (at_builtin; (refine push8 w1 rfl (.tmp 90) (.tmp 91) rfl (wc.heap.size + 1) v1 M (itemsOut b0) rfl HO1.out 0 0 rfl rfl (by omega) (by simp at hs1; omega) ?_); intro v2 w2 hown2 hg2 hn2; obtain ⟨A2, c2, rfl, hsh2⟩ := own_shape hown2; have HO2 := Lib.hid hown2; go_loud (have HB2 := Lib.hid ((((Below.refl (wc.heap.size + 1) (wc.alloc (.cells #[.int .i64 0, .int .i64 0] 76))).alloc (by simp) (.cells #[] 5)).trans GB1.out).trans (below_of_grown hg2 (by simp at hs1; omega) (fun k hk => (HO1.out.lt k hk).1)))); clear hown2 hg2 hn2 hsh2))
        have BW2 := Lib.hid ((BC.out.alloc hcs (.cells #[.int .i64 0, .int .i64 0] 76)).trans (HB2.out.mono (by omega)))
        have HU2 := Lib.hid (PU.out Ak n ck (b0.map Stp.k) lg c2 (itemsOut b0 ++ [0]) (M + 1) A2 w2 (rd_own (own_below HO.out BW2.out)) KL.out (by omega) hlg (rd_own HO2.out) (by rw [List.length_append, ← HMM.out]; rfl) (fun c hc => by rcases List.mem_append.1 hc with h | h; exact HBY.out c h; simp at h; omega) (by omega))
        rw [unp_more HFA.out] at HU2
        simp only [← HMM.out] at HU2
        have hw2 : wc.heap.size + 1 ≤ w2.heap.size := by have h := HB2.out.size; simp at h; exact h
        clear HO1 GB1 HL0 BL0 HX2 c0' hs1
        refine HU2.out.mono ?_
        rintro e wd ⟨Ad, cd, rfl, hod, hbd⟩
        have BD := Lib.hid (HB2.out.trans (hbd.mono hw2))
        have BWD := Lib.hid (BW2.out.trans (hbd.mono BW2.out.size))
        have hds := hbd.size
        clear hod hbd HU2 BW2 HB2 HO2
        obtain ⟨SD, hSD⟩ : ∃ S, S = Obj.cells #[.int .i64 13, .int .i64 (M : Int)] 76 := ⟨_, rfl⟩
        have BD2 := Lib.hid (BD.out.alloc (by omega) SD)
        have cs : ∀ j u, (wc.alloc (.cells #[.int .i64 0, .int .i64 0] 76)).cell? ⟨wc.heap.size, j, none⟩ = some u → wd.cell? ⟨wc.heap.size, j, none⟩ = some u := fun j u h => (BD.out.cell (p := ⟨wc.heap.size, j, none⟩) (by simp)).trans h
        have s0 := cs 0 (.int .i64 0) (by rw [cell_of_row _ wc.heap.size 0 _ _ _ (heap_alloc_new wc _)]; rfl)
        have hwcd : wc.heap.size < wd.heap.size := by omega
        have HCD := Lib.hid (own_below (HC.out.alloc (.cells #[.int .i64 0, .int .i64 0] 76)) (BD2.out.mono (by simp)))
        have BE := Lib.hid (BW.out.trans ((BWD.out.alloc (by omega) SD).mono hws))
        have HR5 := Lib.hid (HR.out.below BE.out)
        rw [hSD] at HCD HR5 BE BD2
        clear cs hSD HC BC BD
        go_wp2_with fail
        refine (sameItems_yes Ac A0 cc c0 n b0 _ (RdS.of_rd (rd_own HCD.out)) HR5.out HN.out.symm hcc c0l l0).mono ?_
        rintro e we ⟨rfl, me, rfl⟩
        have BE2 := Lib.hid (below_drewN BE.out me)
        clear HCD HR5
        by_cases hM0 : 0 < M
        · obtain ⟨q0, hq0, hq1⟩ := unp_less HFA.out (by rw [← HMM.out]; exact hM0)
          rw [← HMM.out] at hq0 hq1
          have BWE := Lib.hid (below_drewN ((BWD.out.alloc (by omega) (.cells #[.int .i64 13, .int .i64 (M : Int)] 76))) me)
          have HU3 := Lib.hid (PU.out Ak n ck (b0.map Stp.k) lg cb ((itemsOut b0).take (M - 1)) (M - 1) Ab _ (rd_own (own_below HO.out BWE.out)) KL.out (by omega) hlg (by have := (rd_own (own_below HX1.out BWE.out)).take_ (M - 1); simpa [b8, List.map_take] using this) (by rw [List.length_take, ← HMM.out]; omega) (fun c hc => HBY.out c (List.mem_of_mem_take hc)) (by omega))
          rw [hq0] at HU3
          have hMc1 : ((M : Int) - 1) = ((M - 1 : Nat) : Int) := by omega
          have HQ1 := Lib.hid hq1
          clear hq0 HO HX1 HBY HFA KL
          go_wp2_with fail
          refine HU3.out.mono ?_
          rintro e wf ⟨Af, cf, rfl, hof, hbf⟩
          have BF := Lib.hid ((BE2.out.trans (hbf.mono BE2.out.size)).alloc (BE2.out.trans (hbf.mono BE2.out.size)).size (.cells #[.int .i64 10, .int .i64 (q0 : Int)] 76))
          clear hof hbf HU3 BWE BE BE2 BWD BW BD2
          go_wp2_with fail
          refine (PT.out _ BF.out).mono ?_
          rintro e wt ⟨At, ct, rfl, hot, hbt⟩
          obtain ⟨q, hq⟩ : ∃ q, q = unp b1 a2 b3 := ⟨_, rfl⟩
          rw [← hq] at hot ⊢
          have BT := Lib.hid ((BF.out).trans (hbt.mono (BF.out).size))
          have hts := BT.out.size
          by_cases he : q.2.1 = 0
          · have hbk := unp_back (ks := b1) (most := a2) HY3.out (by have := HM.out; omega) (by rw [← hq]; exact he)
            rw [← hq] at hbk
            have hql : q.1.length ≤ 1048576 := by
              rw [hq]
              exact unp_len b1 a2 b3 (by have := HN1.out; omega)
            have hst : stSum q.1 ≤ 2147483647 := by
              have h1 := stSum_bytes (l := q.1) (fun x hx => List.all_eq_true.1 hbk.2.2.2 x hx)
              rw [hbk.2.2.1] at h1
              have := HM.out
              omega
            have hct : q.1.length ≤ ct := by obtain ⟨_, _, e, h, _⟩ := own_shape hot; cases e; exact h
            have PK2 := Lib.hid (pack_is At ct q.1.length q.1 (wt.alloc (.cells #[.int .i64 q.2.1, .int .i64 (q.2.2 : Int)] 76)) (RdS.of_rd (rd_own (hot.alloc _))) rfl hct (by omega) hbk.1 hst)
            unfold PackPost at PK2
            rw [hbk.2.1] at PK2
            have HL := Lib.hid hq
            obtain ⟨L, hL⟩ : ∃ L, L = q.1.length := ⟨_, rfl⟩
            rw [← hL] at PK2 ⊢
            rw [he] at PK2 ⊢
            clear hot hbt hq he hbk hql hst hct hL
            go_wp2_with fail
            refine PK2.out.mono ?_
            rintro e wu ⟨Au, cu, rfl, hou, hbu⟩
            have BU := Lib.hid ((BT.out.alloc hts (.cells #[.int .i64 0, .int .i64 (q.2.2 : Int)] 76)).trans (hbu.mono (by simp; omega)))
            have HOU := Lib.hid hou
            have HR9 := Lib.hid (HR3.out.below BU.out)
            simp only [← HM.out]
            simp only [← HM.out] at HOU
            clear hou hbu PK2
            go_wp2_with fail
            refine (same_yes Au A3 m m cu c3 b3 b3 wu (rd_own HOU.out) HR9.out HM.out.symm HM.out.symm (by omega) (by omega) rfl).mono ?_
            rintro e wv ⟨rfl, mv, rfl⟩
            go_wp2_with fail
            go_ret
            exact ⟨rfl, below_drewN BU.out mv⟩
          · have hnil : q.1 = [] := by
              rw [hq]
              exact unp_nil (by rw [← hq]; exact he)
            rw [hnil] at hot ⊢
            obtain ⟨z, hz⟩ : ∃ z, z = q.2.1 := ⟨_, rfl⟩
            rw [← hz] at he ⊢
            have HZ := Lib.hid hz
            clear hot hbt hq hnil hz
            go_wp2_with fail
            go_ret
            exact ⟨by simp, BT.out.alloc hts _⟩
        · have hM1 : M = 0 := by omega
          subst hM1
          go_wp2_with fail
          refine (PT.out _ BE2.out).mono ?_
          rintro e wt ⟨At, ct, rfl, hot, hbt⟩
          obtain ⟨q, hq⟩ : ∃ q, q = unp b1 a2 b3 := ⟨_, rfl⟩
          rw [← hq] at hot ⊢
          have BT := Lib.hid ((BE2.out).trans (hbt.mono (BE2.out).size))
          have hts := BT.out.size
          by_cases he : q.2.1 = 0
          · have hbk := unp_back (ks := b1) (most := a2) HY3.out (by have := HM.out; omega) (by rw [← hq]; exact he)
            rw [← hq] at hbk
            have hql : q.1.length ≤ 1048576 := by
              rw [hq]
              exact unp_len b1 a2 b3 (by have := HN1.out; omega)
            have hst : stSum q.1 ≤ 2147483647 := by
              have h1 := stSum_bytes (l := q.1) (fun x hx => List.all_eq_true.1 hbk.2.2.2 x hx)
              rw [hbk.2.2.1] at h1
              have := HM.out
              omega
            have hct : q.1.length ≤ ct := by obtain ⟨_, _, e, h, _⟩ := own_shape hot; cases e; exact h
            have PK2 := Lib.hid (pack_is At ct q.1.length q.1 (wt.alloc (.cells #[.int .i64 q.2.1, .int .i64 (q.2.2 : Int)] 76)) (RdS.of_rd (rd_own (hot.alloc _))) rfl hct (by omega) hbk.1 hst)
            unfold PackPost at PK2
            rw [hbk.2.1] at PK2
            have HL := Lib.hid hq
            obtain ⟨L, hL⟩ : ∃ L, L = q.1.length := ⟨_, rfl⟩
            rw [← hL] at PK2 ⊢
            rw [he] at PK2 ⊢
            clear hot hbt hq he hbk hql hst hct hL
            go_wp2_with fail
            refine PK2.out.mono ?_
            rintro e wu ⟨Au, cu, rfl, hou, hbu⟩
            have BU := Lib.hid ((BT.out.alloc hts (.cells #[.int .i64 0, .int .i64 (q.2.2 : Int)] 76)).trans (hbu.mono (by simp; omega)))
            have HOU := Lib.hid hou
            have HR9 := Lib.hid (HR3.out.below BU.out)
            simp only [← HM.out]
            simp only [← HM.out] at HOU
            clear hou hbu PK2
            go_wp2_with fail
            refine (same_yes Au A3 m m cu c3 b3 b3 wu (rd_own HOU.out) HR9.out HM.out.symm HM.out.symm (by omega) (by omega) rfl).mono ?_
            rintro e wv ⟨rfl, mv, rfl⟩
            go_wp2_with fail
            go_ret
            exact ⟨rfl, below_drewN BU.out mv⟩
          · have hnil : q.1 = [] := by
              rw [hq]
              exact unp_nil (by rw [← hq]; exact he)
            rw [hnil] at hot ⊢
            obtain ⟨z, hz⟩ : ∃ z, z = q.2.1 := ⟨_, rfl⟩
            rw [← hz] at he ⊢
            have HZ := Lib.hid hz
            clear hot hbt hq hnil hz
            go_wp2_with fail
            go_ret
            exact ⟨by simp, BT.out.alloc hts _⟩
  · have hpk : pk b0 = ([], 12) := by unfold pk; rw [if_neg hfit]
    rw [hpk] at hob ⊢
    have BB2 := BB
    clear hob hbb hpk hfit BA PK PU ca1
    go_wp2_with fail
    refine (PT.out _ BB.out).mono ?_
    rintro e wt ⟨At, ct, rfl, hot, hbt⟩
    obtain ⟨q, hq⟩ : ∃ q, q = unp b1 a2 b3 := ⟨_, rfl⟩
    rw [← hq] at hot ⊢
    have BT := Lib.hid ((BB.out).trans (hbt.mono (BB.out).size))
    have hts := BT.out.size
    by_cases he : q.2.1 = 0
    · have hbk := unp_back (ks := b1) (most := a2) HY3.out (by have := HM.out; omega) (by rw [← hq]; exact he)
      rw [← hq] at hbk
      have hql : q.1.length ≤ 1048576 := by
        rw [hq]
        exact unp_len b1 a2 b3 (by have := HN1.out; omega)
      have hst : stSum q.1 ≤ 2147483647 := by
        have h1 := stSum_bytes (l := q.1) (fun x hx => List.all_eq_true.1 hbk.2.2.2 x hx)
        rw [hbk.2.2.1] at h1
        have := HM.out
        omega
      have hct : q.1.length ≤ ct := by obtain ⟨_, _, e, h, _⟩ := own_shape hot; cases e; exact h
      have PK2 := Lib.hid (pack_is At ct q.1.length q.1 (wt.alloc (.cells #[.int .i64 q.2.1, .int .i64 (q.2.2 : Int)] 76)) (RdS.of_rd (rd_own (hot.alloc _))) rfl hct (by omega) hbk.1 hst)
      unfold PackPost at PK2
      rw [hbk.2.1] at PK2
      have HL := Lib.hid hq
      obtain ⟨L, hL⟩ : ∃ L, L = q.1.length := ⟨_, rfl⟩
      rw [← hL] at PK2 ⊢
      rw [he] at PK2 ⊢
      clear hot hbt hq he hbk hql hst hct hL
      go_wp2_with fail
      refine PK2.out.mono ?_
      rintro e wu ⟨Au, cu, rfl, hou, hbu⟩
      have BU := Lib.hid ((BT.out.alloc hts (.cells #[.int .i64 0, .int .i64 (q.2.2 : Int)] 76)).trans (hbu.mono (by simp; omega)))
      have HOU := Lib.hid hou
      have HR9 := Lib.hid (HR3.out.below BU.out)
      simp only [← HM.out]
      simp only [← HM.out] at HOU
      clear hou hbu PK2
      go_wp2_with fail
      refine (same_yes Au A3 m m cu c3 b3 b3 wu (rd_own HOU.out) HR9.out HM.out.symm HM.out.symm (by omega) (by omega) rfl).mono ?_
      rintro e wv ⟨rfl, mv, rfl⟩
      go_wp2_with fail
      go_ret
      exact ⟨rfl, below_drewN BU.out mv⟩
    · have hnil : q.1 = [] := by
        rw [hq]
        exact unp_nil (by rw [← hq]; exact he)
      rw [hnil] at hot ⊢
      obtain ⟨z, hz⟩ : ∃ z, z = q.2.1 := ⟨_, rfl⟩
      rw [← hz] at he ⊢
      have HZ := Lib.hid hz
      clear hot hbt hq hnil hz
      go_wp2_with fail
      go_ret
      exact ⟨by simp, BT.out.alloc hts _⟩

theorem octetPackedU_walk (A0 : Option Addr) (c0 : Nat) (b0 : List Stp) (A1 : Option Addr) (c1 : Nat) (b1 : List Int) (a2 : Int) (A3 : Option Addr) (c3 : Nat) (b3 : List Nat) (w : World) (c0l : b0.length ≤ c0) (r0 : RdS w A0 b0) (y0 : ∀ x ∈ b0, x.Ok) (l0 : b0.length * 32 ≤ 140737488351232) (c1l : b1.length ≤ c1) (r1 : Rd w A1 (i64s b1)) (y1 : W64 b1) (l1 : b1.length * 8 ≤ 140737488351232) (m1 : c1 ≤ maxLen) (w2 : -9223372036854775808 ≤ a2 ∧ a2 ≤ 9223372036854775807) (c3l : b3.length ≤ c3) (r3 : Rd w A3 (b8 b3)) (y3 : By b3) (l3 : b3.length ≤ 140737488351232) (ub : b1.length + b3.length ≤ 1048576) :
    Calls Try.prog 17 #[.slice A0 b0.length c0, .slice A1 b1.length c1, .int .i64 a2, .slice A3 b3.length c3] w fun e w' => e = .returned (.bool true) ∧ Below w.heap.size w w' := by
  by_cases h : 2147483647 < stSum b0
  · exact octetPacked_beyond A0 c0 b0 A1 c1 b1.length a2 A3 c3 b3.length w c0l r0 y0 l0 h
  · exact octetPacked_main A0 c0 b0 A1 c1 b1 a2 A3 c3 b3 w c0l r0 y0 l0 c1l r1 w2 c3l r3 y3 ub (by omega)
end Go.Proofs.Ytfgjlplfpjfnoaa
