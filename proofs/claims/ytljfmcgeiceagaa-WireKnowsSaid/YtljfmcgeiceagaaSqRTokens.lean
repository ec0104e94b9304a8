/- Tokens, the document's. -/
import Derived.Test.YtljfmcgeiceagaaSqRBest
import Derived.Test.YtljfmcgeiceagaaSqTokens
namespace Go.Proofs.Ytljfmcgeiceagaa
open Go Go.RowKit
set_option linter.unusedVariables false
set_option linter.unusedSimpArgs false

/-- Tokens, and bytes behind them that are being gathered. -/
structure TL (w0 W : World) (v : Value) (N : Nat) (l : List TkV) (u : Value) (K : Nat) (lit : List Nat) (B : Nat) : Prop where
  ts : Ts W w0.heap.size v N l
  row : W.ownsRow B 5 1 u K (b8 lit)
  lb : ∀ x ∈ l, ∀ a : Addr, x.A = some a → a.block < B
  vb : ∀ q, v.ownBlock = some q → q < B
  wB : w0.heap.size ≤ B
  BW : B ≤ W.heap.size
  nil0 : K = 0 → u = .slice none 0 0
  bel : Below w0.heap.size w0 W
section
variable {w0 W W' : World} {v v' : Value} {N : Nat} {l : List TkV} {u u' : Value} {K : Nat} {lit : List Nat} {B : Nat}
theorem TL.start (w : World) : TL w w (.slice none 0 0) 0 [] (.slice none 0 0) 0 [] w.heap.size :=
  ⟨Ts.nil _ _, World.ownsRow_nil _ _ _ _, (fun x hx => by cases hx), (fun q hq => by simp [Value.ownBlock] at hq), Nat.le_refl _, Nat.le_refl _, fun _ => rfl, Below.refl _ _⟩
theorem TL.size (h : TL w0 W v N l u K lit B) : w0.heap.size ≤ W.heap.size := h.bel.size
theorem TL.below (h : TL w0 W v N l u K lit B) (hb : Below W.heap.size W W') : TL w0 W' v N l u K lit B :=
  ⟨h.ts.below hb, own_below h.row hb, h.lb, h.vb, h.wB, Nat.le_trans h.BW hb.size, h.nil0, h.bel.trans (hb.mono h.size)⟩
theorem TL.byte (h : TL w0 W v N l u K lit B) {x : Nat} (hrow : W'.ownsRow B 5 1 u' (K + 1) (b8 (lit ++ [x]))) (hg : W.grownBy W' u.ownBlock) : TL w0 W' v N l u' (K + 1) (lit ++ [x]) B := by
  have hu : ∀ q, u.ownBlock = some q → B ≤ q := fun q hq => (h.row.lt q hq).1
  have hk : KeptS W W' (fun q => u.ownBlock = some q) := KeptS.of_grown hg (fun q hq => hq)
  exact ⟨h.ts.keptS hk (fun q hq e => by have := hu q e; have := h.vb q hq; omega) (fun x hx a ha e => by have := hu _ e; have := h.lb x hx a ha; omega), hrow, h.lb, h.vb, h.wB, Nat.le_trans h.BW hg.size, (fun e => by omega), h.bel.trans (below_of_grown hg h.size (fun k hk => Nat.le_trans h.wB (hu k hk)))⟩
/-- The gathered bytes become a token. -/
theorem TL.flush {A5 : Option Addr} {c5 : Nat} (h : TL w0 W v N l (.slice A5 lit.length c5) lit.length lit B) (hpl : PlTk ⟨A5, c5, lit, 0, 0⟩) (hrow : W'.ownsRow w0.heap.size 122 3 v' (N + 1) (tkCells (l ++ [⟨A5, c5, lit, 0, 0⟩]))) (hg : W.grownBy W' v.ownBlock) (hn : v'.ownBlock = v.ownBlock ∨ ∃ k, v'.ownBlock = some k ∧ W.heap.size ≤ k) :
    TL w0 W' v' (N + 1) (l ++ [⟨A5, c5, lit, 0, 0⟩]) (.slice none 0 0) 0 [] W'.heap.size := by
  have hv : ∀ q, v.ownBlock = some q → w0.heap.size ≤ q := fun q hq => (h.ts.row.lt q hq).1
  have hts := h.ts.push (bb := B) h.lb h.vb (y := ⟨A5, c5, lit, 0, 0⟩) h.row h.wB hpl hrow hg hn
  exact ⟨hts, World.ownsRow_nil _ _ _ _, (fun x hx a ha => ((hts.lit x hx).lt ha).2), (fun q hq => (hts.row.lt q hq).2), Nat.le_trans h.size hg.size, Nat.le_refl _, (fun _ => rfl), h.bel.trans (below_of_grown hg h.size hv)⟩
/-- A match behind them, where nothing is gathered. -/
theorem TL.mat (h : TL w0 W v N l (.slice none 0 0) 0 [] B) {d m : Int} (hpl : PlTk ⟨none, 0, [], d, m⟩) (hrow : W'.ownsRow w0.heap.size 122 3 v' (N + 1) (tkCells (l ++ [⟨none, 0, [], d, m⟩]))) (hg : W.grownBy W' v.ownBlock) (hn : v'.ownBlock = v.ownBlock ∨ ∃ k, v'.ownBlock = some k ∧ W.heap.size ≤ k) :
    TL w0 W' v' (N + 1) (l ++ [⟨none, 0, [], d, m⟩]) (.slice none 0 0) 0 [] W'.heap.size := by
  have hv : ∀ q, v.ownBlock = some q → w0.heap.size ≤ q := fun q hq => (h.ts.row.lt q hq).1
  have hts := h.ts.push (bb := B) h.lb h.vb (y := ⟨none, 0, [], d, m⟩) (World.ownsRow_nil _ _ _ _) h.wB hpl hrow hg hn
  exact ⟨hts, World.ownsRow_nil _ _ _ _, (fun x hx a ha => ((hts.lit x hx).lt ha).2), (fun q hq => (hts.row.lt q hq).2), Nat.le_trans h.size hg.size, Nat.le_refl _, (fun _ => rfl), h.bel.trans (below_of_grown hg h.size hv)⟩
end

set_option maxHeartbeats 4000000 in
set_option maxRecDepth 100000 in
theorem rtokens_is (A : Option Addr) (n c : Nat) (bs : List Nat) (w : World) (hr : Rd w A (b8 bs)) (hn : bs.length = n) (hby : By bs) (hl : n ≤ 140737488351232) :
    Calls Try.prog 99 #[.slice A n c] w (AnsT w (tks bs)) := by
  have HN := Lib.hid hn
  by_cases hlong : 4096 < n
  · have HE : Hid (tks bs = ([], 2)) := Lib.hid (tks_long (by rw [hn]; exact hlong))
    obtain ⟨q, hq⟩ : ∃ q, q = tks bs := ⟨_, rfl⟩
    rw [← hq] at HE ⊢
    clear hr hn hby hq
    go_enter Try.func99, Try.ntmps99
    go_wp2_with fail
    go_ret2
    exact ansT_none _ _ _ _ HE.out (Below.refl _ _)
  · have HQ : Hid (tks bs = (tokens bs, 0)) := Lib.hid (tks_short (by rw [hn]; exact hlong))
    have HQ0 : Hid (tokens bs = toks [] ++ tok bs n 0 []) := Lib.hid (by unfold tokens; rw [hn]; rfl)
    obtain ⟨q, hq⟩ : ∃ q, q = tks bs := ⟨_, rfl⟩
    obtain ⟨T, hT⟩ : ∃ T, T = tokens bs := ⟨_, rfl⟩
    rw [← hq, ← hT] at HQ
    rw [← hT] at HQ0
    rw [← hq]
    have hn4 : n ≤ 4096 := by omega
    have HR := Lib.hid hr
    have HY := Lib.hid hby
    have PB : Hid (∀ W i, Below w.heap.size w W → i < n → Calls Try.prog 106 #[.slice A n c, .int .i64 (i : Int)] W fun e w' => e = .returned (.tuple #[.int .i64 (((best bs i).1 : Nat) : Int), .int .i64 (((best bs i).2 : Nat) : Int)]) ∧ ∃ m, w' = W.drewN m) :=
      Lib.hid (fun W i hb hi => rbest_is A n c i bs W (hr.below hb) hn hn4 hi)
    clear hr hn hby hq hT hlong
    go_enter Try.func99, Try.ntmps99
    go_wp2_with fail
    go_loopw [4, 5, 6, 7, 8] (fun v u u6 u7 u8 wr => ∃ (N K i f B : Nat) (l : List TkV) (lit : List Nat), u6 = .int .i64 i ∧ i ≤ n ∧ N + K ≤ i ∧ n ≤ i + f ∧ Hid (lit.length = K ∧ By lit) ∧ Hid (T = toks l ++ tok bs f i lit) ∧ Hid (TL w wr v N l u K lit B)) (fun _ _ u6 _ _ _ => n - (intOf u6).toNat)
    case atStart => exact ⟨0, 0, 0, n, _, [], [], rfl, Nat.zero_le _, Nat.le_refl _, by omega, Lib.hid ⟨rfl, fun b hb => by cases hb⟩, HQ0, Lib.hid (TL.start w)⟩
    case round =>
      clear HQ0
      obtain ⟨N, K, i, f, B, l, lit, rfl, hi, hN, hf, HK, HT, HX⟩ := hrel
      obtain ⟨A9, c9, rfl, _⟩ := own_shape HX.out.ts.row
      obtain ⟨A5, c5, rfl, _⟩ := own_shape HX.out.row
      have hsz := HX.out.size
      have hBW := HX.out.BW
      by_cases hlt : i < n
      · obtain ⟨f, rfl⟩ : ∃ f', f = f' + 1 := ⟨f - 1, by omega⟩
        have P1 := Lib.hid (PB.out wr i HX.out.bel hlt)
        have HBI := Lib.hid (best_is bs i (by rw [HN.out]; omega))
        obtain ⟨⟨L, D⟩, hbe⟩ : ∃ p, p = best bs i := ⟨_, rfl⟩
        have HBE := Lib.hid hbe.symm
        rw [← hbe] at P1
        simp only at P1
        obtain ⟨x, hx⟩ : ∃ x, bs[i]? = some x := ⟨_, List.getElem?_eq_getElem (by rw [HN.out]; exact hlt)⟩
        obtain ⟨ga, off, rfl, hga, hcx0⟩ := HR.out.at_ hx
        have HX8 : Hid (x < 256) := Lib.hid (HY.out x (List.mem_of_getElem? hx))
        have HGD : Hid (bs.getD i 0 = x) := Lib.hid (by rw [List.getD_eq_getElem?_getD, hx]; rfl)
        clear hbe hx
        go_wp2_with fail
        refine P1.out.mono ?_
        rintro e w2 ⟨rfl, d2, rfl⟩
        have HX2 := Lib.hid (HX.out.below (below_drewN (Below.refl _ _) d2))
        have hcx : (wr.drewN d2).cell? ⟨ga, off + i, none⟩ = some (.int .u8 (x : Int)) := (HX2.out.bel.cell (p := ⟨ga, off + i, none⟩) hga).trans hcx0
        clear P1 HX hcx0
        obtain ⟨wo, hwo⟩ : ∃ wo : World, wo = wr.drewN d2 := ⟨_, rfl⟩
        have hszo : w.heap.size ≤ wo.heap.size := by rw [hwo]; simpa using hsz
        have hBo : B ≤ wo.heap.size := by rw [hwo]; simpa using hBW
        rw [← hwo] at HX2 hcx ⊢
        clear hwo
        by_cases h0 : L = 0
        · have HST : Hid (tok bs (f + 1) i lit = tok bs f (i + 1) (lit ++ [x])) := Lib.hid (by rw [tok_lit (by rw [HN.out]; exact hlt) (by rw [HBE.out]; exact h0), HGD.out])
          subst h0
          go_wp2_with (at_builtin; go_loud ((refine push8 wo rfl (.tmp 24) (.tmp 29) (by rfl) B (.slice A5 K c5) K lit (by rfl) HX2.out.row _ x rfl (by rfl) (by omega) hBo ?_); intro v3 w3 ho3 hg3 hn3; have HX3 := Lib.hid (HX2.out.byte ho3 hg3); clear ho3 hg3 hn3))
          go_roundw
          case rel => exact ⟨N, K + 1, i + 1, f, B, l, lit ++ [x], by go_num, by omega, by omega, by omega, Lib.hid ⟨by rw [List.length_append, HK.out.1]; rfl, by intro b hb; rcases List.mem_append.1 hb with h | h; { exact HK.out.2 b h }; { rw [List.mem_singleton] at h; rw [h]; exact HX8.out }⟩, Lib.hid (by rw [HT.out, HST.out]), HX3⟩
          case measure => simp [intOf]; omega
        · have hbx : 5 ≤ L ∧ L ≤ 258 ∧ 1 ≤ D ∧ D ≤ 2048 ∧ i + L ≤ n := by
            rcases HBI.out with h | ⟨n', d', h1, h2⟩
            · have h3 := h.1
              rw [HBE.out] at h3
              injection h3 with h3 _
              exact absurd h3 h0
            · rw [HBE.out] at h1
              injection h1 with h3 h4
              subst h3 h4
              rw [HN.out] at h2
              omega
          obtain ⟨hL5, hL258, hD1, hD2, hiL⟩ := hbx
          have HPM : Hid (PlTk ⟨none, 0, [], (D : Int), (L : Int)⟩) := Lib.hid ⟨(fun b hb => by cases hb), by simp, by simp only; omega, by simp only; omega⟩
          have HTM : Hid (tok bs (f + 1) i lit = flush lit ++ ⟨[], (D : Int), (L : Int)⟩ :: tok bs f (i + L) []) := Lib.hid (by rw [tok_match (by rw [HN.out]; exact hlt) (by rw [HBE.out]; exact h0), HBE.out])
          have hne : ((L : Int) == 0) = false := by rw [beq_eq_false_iff_ne]; omega
          clear h0
          by_cases hK : K = 0
          · have HL0 : Hid (lit = []) := Lib.hid (List.eq_nil_of_length_eq_zero (by rw [HK.out.1]; exact hK))
            have hu := HX2.out.nil0 hK
            injection hu with hu1 hu2 hu3
            subst hu1 hu2 hu3
            have HX2' : Hid (TL w wo (.slice A9 N c9) N l (.slice none 0 0) 0 [] B) := Lib.hid (by have h := HX2.out; rw [HL0.out] at h; exact h)
            clear HX2 hK
            go_wp2_with (at_builtin; go_loud ((refine pushT wo rfl (.tmp 41) (.tmp 45) (by rfl) w.heap.size (.slice A9 N c9) N l (by rfl) HX2'.out.ts.row ⟨none, 0, [], (D : Int), (L : Int)⟩ wo.heap.size (by rfl) (by rfl) (by omega) hszo ?_); intro v4 w4 ho4 hg4 hn4; have HX4 := Lib.hid (HX2'.out.mat HPM.out ho4 hg4 hn4); clear ho4 hg4 hn4))
            go_roundw
            case rel => exact ⟨N + 1, 0, i + L, f, _, _, [], by go_num, by omega, by omega, by omega, Lib.hid ⟨rfl, fun b hb => by cases hb⟩, Lib.hid (by rw [HT.out, HTM.out, HL0.out]; simp [toks, TkV.tk, flush]), HX4⟩
            case measure => simp [intOf]; omega
          · have hKp : (0 : Int) < (K : Int) := by omega
            have HFL : Hid (flush lit = [⟨lit, 0, 0⟩]) := Lib.hid (flush_one (by rw [HK.out.1]; omega))
            have hKl := HK.out.1
            subst hKl
            have HPL : Hid (PlTk ⟨A5, c5, lit, 0, 0⟩) := Lib.hid ⟨HK.out.2, by simp only; omega, by simp only; omega, by simp only; omega⟩
            clear hK
            go_wp2_with (first
              | (at_builtin; go_loud ((refine pushT wo rfl (.tmp 36) (.tmp 39) (by rfl) w.heap.size (.slice A9 N c9) N l (by rfl) HX2.out.ts.row ⟨A5, c5, lit, 0, 0⟩ wo.heap.size (by rfl) (by rfl) (by omega) hszo ?_); intro v3 w3 ho3 hg3 hn3; have HX3 := Lib.hid (HX2.out.flush HPL.out ho3 hg3 hn3); have hs3 := HX3.out.size; clear ho3 hg3 hn3))
              | (at_builtin; go_loud ((refine pushT w3 rfl (.tmp 41) (.tmp 45) (by rfl) w.heap.size v3 (N + 1) (l ++ [⟨A5, c5, lit, 0, 0⟩]) (by rfl) HX3.out.ts.row ⟨none, 0, [], (D : Int), (L : Int)⟩ w3.heap.size (by rfl) (by rfl) (by omega) hs3 ?_); intro v4 w4 ho4 hg4 hn4; have HX4 := Lib.hid (HX3.out.mat HPM.out ho4 hg4 hn4); clear ho4 hg4 hn4)))
            go_roundw
            case rel => exact ⟨N + 1 + 1, 0, i + L, f, _, _, [], by go_num, by omega, by omega, by omega, Lib.hid ⟨rfl, fun b hb => by cases hb⟩, Lib.hid (by rw [HT.out, HTM.out, HFL.out]; simp [toks, TkV.tk]), HX4⟩
            case measure => simp [intOf]; omega
      · have hie : i = n := by omega
        subst hie
        have HTE : Hid (T = toks l ++ flush lit) := Lib.hid (by have h := HT.out; rw [tok_end (by rw [HN.out]; exact Nat.le_refl _)] at h; exact h)
        by_cases hK : K = 0
        · have HE : Hid (q = (toks l, 0)) := Lib.hid (by have hl0 : lit = [] := List.eq_nil_of_length_eq_zero (by rw [HK.out.1]; exact hK); rw [HQ.out, HTE.out, hl0]; simp [flush])
          subst hK
          go_wp2_with fail
          go_ret2
          exact ansT_some _ _ _ A9 c9 N _ _ HE.out HX.out.ts HX.out.bel
        · have hKp : (0 : Int) < (K : Int) := by omega
          have hKl := HK.out.1
          subst hKl
          have HPL : Hid (PlTk ⟨A5, c5, lit, 0, 0⟩) := Lib.hid ⟨HK.out.2, by simp only; omega, by simp only; omega, by simp only; omega⟩
          have HTF : Hid (q = (toks (l ++ [⟨A5, c5, lit, 0, 0⟩]), 0)) := Lib.hid (by rw [HQ.out, HTE.out, flush_one (by omega)]; simp [toks, TkV.tk])
          go_wp2_with (at_builtin; go_loud ((refine pushT wr rfl (.tmp 53) (.tmp 56) (by rfl) w.heap.size (.slice A9 N c9) N l (by rfl) HX.out.ts.row ⟨A5, c5, lit, 0, 0⟩ wr.heap.size (by rfl) (by rfl) (by omega) hsz ?_); intro v3 w3 ho3 hg3 hn3; have HX3 := Lib.hid (HX.out.flush HPL.out ho3 hg3 hn3); clear ho3 hg3 hn3))
          obtain ⟨A6, c6, hv6, _⟩ := own_shape HX3.out.ts.row
          subst hv6
          go_ret2
          exact ansT_some _ _ _ A6 c6 (N + 1) _ _ HTF.out HX3.out.ts HX3.out.bel
end Go.Proofs.Ytljfmcgeiceagaa
