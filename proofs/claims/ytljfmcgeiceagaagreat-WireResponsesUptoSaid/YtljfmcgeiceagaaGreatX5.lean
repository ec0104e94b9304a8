/- Several texts in one: SqTokens, SqRBest, SqRTokens, SqEnc, SqDec, SqBack. -/
import Derived.Test.YtljfmcgeiceagaaGreatX4
import Derived.Test.YtljfmcgeiceagaaGreatX3
/- Tokens, the program's. -/
namespace Go.Proofs.YtljfmcgeiceagaaGreat
open Go Go.RowKit
set_option linter.unusedVariables false
set_option linter.unusedSimpArgs false

/-- A text's own tokens, or that it is too long. -/
def tks (t : List Nat) : List Tk × Int := if 4096 < t.length then ([], 2) else (tokens t, 0)
theorem tks_long {t : List Nat} (h : 4096 < t.length) : tks t = ([], 2) := if_pos h
theorem tks_short {t : List Nat} (h : ¬ 4096 < t.length) : tks t = (tokens t, 0) := if_neg h
theorem rd_sub {W : World} {ga off b : Nat} {bs : List Nat} (h : Rd W (some ⟨ga, off, none⟩) (b8 bs)) (i : Nat) : Rd W (some ⟨ga, off + b, none⟩) (b8 ((bs.take i).drop b)) := by
  intro hne
  have hl : b8 bs ≠ [] := by
    intro e
    have : bs = [] := by simpa [b8] using e
    subst this
    simp [b8] at hne
  obtain ⟨g', off', e, hg, hc⟩ := h hl
  simp only [Option.some.injEq, Addr.mk.injEq, and_true] at e
  obtain ⟨rfl, rfl⟩ := e
  refine ⟨ga, off + b, rfl, hg, fun k u hu => ?_⟩
  rw [Nat.add_assoc]
  apply hc
  rw [b8_get, List.getElem?_drop, List.getElem?_take] at hu
  rw [b8_get]
  split at hu
  · exact hu
  · cases hu

/-- A finder that has passed m places, and tokens behind it. -/
structure TF (w0 W : World) (g : Nat) (A : Option Addr) (n c : Nat) (t : List Nat) (m : Nat) (v : Value) (N : Nat) (l : List TkV) : Prop where
  f : Fnd W g A n c t m
  ts : Ts W (g + 1) v N l
  bel : Below g w0 W
section
variable {w0 W W' : World} {g : Nat} {A : Option Addr} {n c : Nat} {t : List Nat} {m : Nat} {v v' : Value} {N : Nat} {l : List TkV}
theorem TF.below (h : TF w0 W g A n c t m v N l) (hb : Below W.heap.size W W') : TF w0 W' g A n c t m v N l := ⟨h.f.below hb, h.ts.below hb, h.bel.trans (hb.mono (Nat.le_of_lt h.f.lt))⟩
theorem TF.passed (h : TF w0 W g A n c t m v N l) {m' : Nat} (hf : Fnd W' g A n c t m') (hk : KeptS W W' (fun q => q = g)) : TF w0 W' g A n c t m' v N l := by
  refine ⟨hf, h.ts.keptS hk (fun q hq e => ?_) (fun x hx a ha e => ?_), h.bel.trans (hk.below (fun q hq => by omega) (Nat.le_of_lt h.f.lt))⟩
  · have := (h.ts.row.lt q hq).1; omega
  · have := ((h.ts.lit x hx).lt ha).1; omega
theorem TF.bounds (h : TF w0 W g A n c t m v N l) : (∀ x ∈ l, ∀ a : Addr, x.A = some a → a.block < W.heap.size) ∧ ∀ q, v.ownBlock = some q → q < W.heap.size := ⟨fun x hx a ha => ((h.ts.lit x hx).lt ha).2, fun q hq => (h.ts.row.lt q hq).2⟩
theorem TF.push (h : TF w0 W g A n c t m v N l) {y : TkV} {bb : Nat} (hb : (∀ x ∈ l, ∀ a : Addr, x.A = some a → a.block < bb) ∧ ∀ q, v.ownBlock = some q → q < bb) (hy : OwnTk W bb y) (hB : g + 1 ≤ bb) (hpl : PlTk y)
    (hrow : W'.ownsRow (g + 1) 125 3 v' (N + 1) (tkCells (l ++ [y]))) (hg : W.grownBy W' v.ownBlock) (hn : v'.ownBlock = v.ownBlock ∨ ∃ k, v'.ownBlock = some k ∧ W.heap.size ≤ k) : TF w0 W' g A n c t m v' (N + 1) (l ++ [y]) := by
  have hv : ∀ q, v.ownBlock = some q → g + 1 ≤ q := fun q hq => (h.ts.row.lt q hq).1
  refine ⟨?_, h.ts.push hb.1 hb.2 hy hB hpl hrow hg hn, h.bel.trans (below_of_grown hg (Nat.le_of_lt h.f.lt) (fun k hk => by have := hv k hk; omega))⟩
  exact (hg.block g h.f.lt (fun e => by have := hv g e.symm; omega)).trans h.f
end

theorem tok_step {bs : List Nat} {f i b n : Nat} (hn : bs.length = n) (hi : i < n) (hb : b ≤ i) (h0 : (best bs i).1 = 0) : tok bs (f + 1) i ((bs.take i).drop b) = tok bs f (i + 1) ((bs.take (i + 1)).drop b) := by
  rw [tok_lit (by omega) h0, List.take_succ_eq_append_getElem (by omega), List.drop_append_of_le_length (by rw [List.length_take]; omega), List.getD_eq_getElem?_getD, List.getElem?_eq_getElem (by omega)]
  rfl
theorem lit_len {bs : List Nat} {i b n : Nat} (hn : bs.length = n) (hi : i ≤ n) (hb : b ≤ i) : ((bs.take i).drop b).length = i - b := by rw [List.length_drop, List.length_take]; omega
theorem flush_one {lit : List Nat} (h : 0 < lit.length) : flush lit = [⟨lit, 0, 0⟩] := by unfold flush; rw [if_neg (by intro e; rw [e] at h; simp at h)]
theorem flush_none {lit : List Nat} (h : lit.length = 0) : flush lit = [] := by unfold flush; rw [if_pos (List.eq_nil_of_length_eq_zero h)]
theorem drop_all {bs : List Nat} {i : Nat} : (bs.take i).drop i = [] := by apply List.drop_eq_nil_of_le; rw [List.length_take]; omega

set_option maxHeartbeats 4000000 in
set_option maxRecDepth 100000 in
theorem tokens_is (A : Option Addr) (n c : Nat) (bs : List Nat) (w : World) (hr : Rd w A (b8 bs)) (hn : bs.length = n) (hby : By bs) (hl : n ≤ 140737488351232) (hc : n ≤ c) :
    Calls Tryz.prog 121 #[.slice A n c] w (AnsT w (tks bs)) := by
  have HN := Lib.hid hn
  by_cases hlong : 4096 < n
  · have HE : Hid (tks bs = ([], 2)) := Lib.hid (tks_long (by rw [hn]; exact hlong))
    obtain ⟨q, hq⟩ : ∃ q, q = tks bs := ⟨_, rfl⟩
    rw [← hq] at HE ⊢
    clear hr hn hby hq
    go_enter Tryz.func121, Tryz.ntmps121
    go_wp2_with fail
    go_ret2
    exact ansT_none _ _ _ _ HE.out (Below.refl _ _)
  · have HQ : Hid (tks bs = (tokens bs, 0)) := Lib.hid (tks_short (by rw [hn]; exact hlong))
    have HQ0 : Hid (tokens bs = toks [] ++ tok bs n 0 ((bs.take 0).drop 0)) := Lib.hid (by unfold tokens; rw [hn]; rfl)
    obtain ⟨q, hq⟩ : ∃ q, q = tks bs := ⟨_, rfl⟩
    obtain ⟨T, hT⟩ : ∃ T, T = tokens bs := ⟨_, rfl⟩
    rw [← hq, ← hT] at HQ
    rw [← hT] at HQ0
    rw [← hq]
    have hn4 : n ≤ 4096 := by omega
    have HR := Lib.hid hr
    have HY := Lib.hid hby
    have hbu := fun W => run_buildF A n c W
    have hbx := fun W => run_boxF (.slice A n c) W
    have HF0 : Hid (TF w (w.alloc (.cells (fz (.slice A n c)) 137)) w.heap.size A n c bs 0 (.slice none 0 0) 0 []) := Lib.hid ⟨Fnd.new w A n c bs, Ts.nil _ _, (Below.refl _ _).alloc (Nat.le_refl _) _⟩
    have PM : Hid (∀ W i v N l, TF w W w.heap.size A n c bs i v N l → i < n → Calls Tryz.prog 127 #[.pointer (some ⟨w.heap.size, 0, none⟩), .int .i64 (i : Int)] W fun e w' => e = .returned (.agg #[.slice none 0 0, .int .i64 (((best bs i).2 : Nat) : Int), .int .i64 (((best bs i).1 : Nat) : Int)]) ∧ Below W.heap.size W w') :=
      Lib.hid (fun W i v N l h hi => match_is w.heap.size A n c i bs W h.f (hr.below h.bel) hn hby hn4 hc hi)
    have PP : Hid (∀ W i v N l, TF w W w.heap.size A n c bs i v N l → i < n → Calls Tryz.prog 128 #[.pointer (some ⟨w.heap.size, 0, none⟩), .int .i64 (i : Int)] W fun e w' => e = .returned (.tuple #[]) ∧ TF w w' w.heap.size A n c bs (i + 1) v N l ∧ w'.heap.size = W.heap.size) :=
      Lib.hid (fun W i v N l h hi => (passes_is w.heap.size A n c i bs W h.f (hr.below h.bel) hn hby hn4 hc hi).mono (fun e w' h' => ⟨h'.1, h.passed h'.2.1 h'.2.2.1, h'.2.2.2⟩))
    obtain ⟨g, hg⟩ : ∃ g, g = w.heap.size := ⟨_, rfl⟩
    have HG := Lib.hid hg
    clear hr hn hby hq hT hlong
    go_enter Tryz.func121, Tryz.ntmps121
    go_wp2_with fail
    rw [← hg] at HF0 PM PP ⊢
    clear hbu hbx hg
    go_loopw [5, 6, 7, 8, 47] (fun v u6 u7 u8 u47 wr => ∃ (N b i f : Nat) (l : List TkV), u6 = .int .i64 b ∧ u7 = .int .i64 i ∧ b ≤ i ∧ i ≤ n ∧ N ≤ i ∧ n ≤ i + f ∧ Hid (T = toks l ++ tok bs f i ((bs.take i).drop b)) ∧ Hid (TF w wr g A n c bs i v N l)) (fun _ _ u7 _ _ _ => n - (intOf u7).toNat)
    case atStart => exact ⟨0, 0, 0, n, [], rfl, rfl, Nat.le_refl _, Nat.zero_le _, Nat.le_refl _, by omega, HQ0, HF0⟩
    case round =>
      clear HQ0 HF0
      obtain ⟨N, b, i, f, l, rfl, rfl, hb, hi, hN, hf, HT, HX⟩ := hrel
      obtain ⟨A9, c9, rfl, _⟩ := own_shape HX.out.ts.row
      by_cases hlt : i < n
      · obtain ⟨f, rfl⟩ : ∃ f', f = f' + 1 := ⟨f - 1, by omega⟩
        have P1 := Lib.hid (PM.out wr i _ N l HX.out hlt)
        have HBI := Lib.hid (best_is bs i (by rw [HN.out]; omega))
        obtain ⟨⟨L, D⟩, hbe⟩ : ∃ p, p = best bs i := ⟨_, rfl⟩
        have HBE := Lib.hid hbe.symm
        rw [← hbe] at P1
        simp only at P1
        clear hbe
        go_wp2_with fail
        refine P1.out.mono ?_
        rintro e w2 ⟨rfl, hb2⟩
        have HX2 := Lib.hid (HX.out.below hb2)
        by_cases h0 : L = 0
        · have HB3 : Hid (TF w (w2.alloc (.cells #[.slice none 0 0, .int .i64 (D : Int), .int .i64 0] 125)) g A n c bs i (.slice A9 N c9) N l) := Lib.hid (HX2.out.below ((Below.refl _ _).alloc (Nat.le_refl _) _))
          have HST : Hid (toks l ++ tok bs (f + 1) i ((bs.take i).drop b) = toks l ++ tok bs f (i + 1) ((bs.take (i + 1)).drop b)) := Lib.hid (by rw [tok_step HN.out hlt hb (by rw [HBE.out]; exact h0)])
          subst h0
          clear hb2 P1 HX HX2
          go_wp2_with fail
          refine (PP.out _ i _ N l HB3.out hlt).mono ?_
          rintro e w3 ⟨rfl, hx3, hs3⟩
          have HX3 := Lib.hid hx3
          clear hx3 hs3 HB3
          go_wp2_with fail
          go_roundw
          case rel => exact ⟨N, b, i + 1, f, l, rfl, by go_num, by omega, by omega, by omega, by omega, Lib.hid (HT.out.trans HST.out), HX3⟩
          case measure => simp [intOf]; omega
        · have hbx : 5 ≤ L ∧ L ≤ 258 ∧ 1 ≤ D ∧ D ≤ 2048 ∧ i + L ≤ n := by
            rcases HBI.out with h | ⟨n', d', h1, h2⟩
            · have h3 := h.1
              rw [HBE.out] at h3
              injection h3 with h3 _
              exact absurd h3 h0
            · rw [HBE.out] at h1
              injection h1 with h3 h4
              subst h3 h4
              rw [HN.out] at h2
              omega
          obtain ⟨hL5, hL258, hD1, hD2, hiL⟩ := hbx
          have HBT : Hid (Bt (w2.alloc (.cells #[.slice none 0 0, .int .i64 (D : Int), .int .i64 (L : Int)] 125)) w2.heap.size ⟨none, 0, [], (D : Int), (L : Int)⟩) := Lib.hid (Bt.new w2 ⟨none, 0, [], (D : Int), (L : Int)⟩)
          have HVB := Lib.hid HX2.out.bounds
          have HB3 : Hid (TF w (w2.alloc (.cells #[.slice none 0 0, .int .i64 (D : Int), .int .i64 (L : Int)] 125)) g A n c bs i (.slice A9 N c9) N l) := Lib.hid (HX2.out.below ((Below.refl _ _).alloc (Nat.le_refl _) _))
          have HPM : Hid (PlTk ⟨none, 0, [], (D : Int), (L : Int)⟩) := Lib.hid ⟨(fun b hb => by cases hb), by simp, by simp only; omega, by simp only; omega⟩
          have HTM : Hid (tok bs (f + 1) i ((bs.take i).drop b) = flush ((bs.take i).drop b) ++ ⟨[], (D : Int), (L : Int)⟩ :: tok bs f (i + L) []) := Lib.hid (by rw [tok_match (by rw [HN.out]; exact hlt) (by rw [HBE.out]; exact h0), HBE.out])
          have HDA : Hid ((bs.take (i + L)).drop (i + L) = []) := Lib.hid drop_all
          have hgs : g < w2.heap.size := HX2.out.f.lt
          have hne : ((L : Int) == 0) = false := by rw [beq_eq_false_iff_ne]; omega
          clear hb2 P1 HX HX2 HBI HBE h0
          by_cases hbi : b < i
          · have j0 : (0 : Int) ≤ (b : Int) := by omega
            have j1 : (b : Int) ≤ (i : Int) := by omega
            have j2 : (i : Int) ≤ (c : Int) := by omega
            have j3 : ¬ c = b := by omega
            obtain ⟨lit, hlit⟩ : ∃ lit, lit = (bs.take i).drop b := ⟨_, rfl⟩
            have hll : lit.length = i - b := by rw [hlit]; exact lit_len HN.out hi hb
            obtain ⟨x0, hx0⟩ : ∃ x, bs[b]? = some x := ⟨_, List.getElem?_eq_getElem (by rw [HN.out]; omega)⟩
            obtain ⟨ga, off, rfl, hga, _⟩ := HR.out.at_ hx0
            have HLB : Hid (By lit) := Lib.hid (by rw [hlit]; exact (HY.out.take i).drop b)
            have PL : Hid (∀ W, Below g w W → Calls Tryz.prog 129 #[.slice (some ⟨ga, off + b, none⟩) (i - b) (c - b)] W fun e w' => ∃ A' c', e = .returned (.agg #[.slice A' lit.length c', .int .i64 0, .int .i64 0]) ∧ w'.ownsRow (W.heap.size + 1) 5 1 (.slice A' lit.length c') lit.length (b8 lit) ∧ Below W.heap.size W w') := Lib.hid (fun W hb => by
              have := literal_is (some ⟨ga, off + b, none⟩) lit.length (c - b) lit W (by rw [hlit]; exact rd_sub (HR.out.below (HG.out ▸ hb)) i) rfl (by omega)
              rw [hll] at this ⊢
              exact this)
            have HPL : Hid (∀ A' c', PlTk ⟨A', c', lit, 0, 0⟩) := Lib.hid (fun A' c' => ⟨HLB.out, by simp only; omega, by simp only; omega, by simp only; omega⟩)
            have HFL : Hid (flush lit = [⟨lit, 0, 0⟩]) := Lib.hid (flush_one (by omega))
            rw [← hlit] at HTM HT
            have HLL := Lib.hid hll
            clear hlit hx0 hga hll
            go_wp2_with fail
            refine (PL.out _ HB3.out.bel).mono ?_
            rintro e w3 ⟨A3, c3, rfl, ho3, hb3⟩
            have HX3 := Lib.hid (HB3.out.below hb3)
            have HBT3 := Lib.hid (HBT.out.below hb3 (by simp))
            have hs3 : w2.heap.size + 1 ≤ w3.heap.size := by have := hb3.size; simpa using this
            have HO3 : Hid (OwnTk w3 (w2.heap.size + 2) ⟨A3, c3, lit, 0, 0⟩) := Lib.hid (own_mono ho3 (by simp))
            have HV3 : Hid ((∀ x ∈ l, ∀ a : Addr, x.A = some a → a.block < w2.heap.size + 2) ∧ ∀ q, (Value.slice A9 N c9).ownBlock = some q → q < w2.heap.size + 2) := Lib.hid ⟨fun x hx a ha => by have := HVB.out.1 x hx a ha; omega, fun q hq => by have := HVB.out.2 q hq; omega⟩
            have HNE : Hid ((Value.slice A9 N c9).ownBlock ≠ some w2.heap.size) := Lib.hid (fun e => by have := HVB.out.2 _ e; omega)
            clear ho3 hb3 HB3 HBT
            go_wp2_with (first
              | (at_builtin; go_loud ((refine pushT w3 rfl (.tmp 33) (.tmp 39) (by rfl) (g + 1) (.slice A9 N c9) N l (by rfl) HX3.out.ts.row ⟨A3, c3, lit, 0, 0⟩ w3.heap.size (by rfl) (by rfl) (by omega) HX3.out.f.lt ?_); intro v5 w5 ho5 hg5 hn5; have HX5 := Lib.hid (HX3.out.push (bb := w2.heap.size + 2) HV3.out HO3.out (by omega) (HPL.out _ _) ho5 hg5 hn5); have HBT5 := Lib.hid (HBT3.out.grown hg5 HNE.out); have HNE5 : Hid (v5.ownBlock ≠ some w2.heap.size) := Lib.hid (by rcases hn5 with h | ⟨k, h, hk⟩; { rw [h]; exact HNE.out }; { rw [h]; intro e; injection e with e; omega }); obtain ⟨m0, m1, m2⟩ := HBT5.out.facts; simp only [List.length_nil] at m0 m1 m2; clear ho5 hg5 hn5))
              | (at_builtin; go_loud ((refine pushT w5 rfl (.tmp 41) (.tmp 43) (by rfl) (g + 1) v5 (N + 1) (l ++ [⟨A3, c3, lit, 0, 0⟩]) (by rfl) HX5.out.ts.row ⟨none, 0, [], (D : Int), (L : Int)⟩ w5.heap.size (by rfl) (by rfl) (by omega) HX5.out.f.lt ?_); intro v6 w6 ho6 hg6 hn6; have HX6 := Lib.hid (HX5.out.push (y := ⟨none, 0, [], (D : Int), (L : Int)⟩) (bb := w5.heap.size) HX5.out.bounds (World.ownsRow_nil _ _ _ _) HX5.out.f.lt HPM.out ho6 hg6 hn6); have HBT6 := Lib.hid (HBT5.out.grown hg6 HNE5.out); obtain ⟨q0, q1, q2⟩ := HBT6.out.facts; simp only [List.length_nil] at q0 q1 q2; clear ho6 hg6 hn6)))
            have HT6 : Hid (T = toks ((l ++ [⟨A3, c3, lit, 0, 0⟩]) ++ [⟨none, 0, [], (D : Int), (L : Int)⟩]) ++ tok bs f (i + L) []) := Lib.hid (by
              have h := HT.out.trans (by rw [HTM.out])
              rw [HFL.out] at h
              rw [h]
              simp [toks, TkV.tk])
            clear q0 q1 q2
            obtain ⟨wo, hwo⟩ : ∃ wo : World, wo = w6 := ⟨_, rfl⟩
            go_loopw [7, 47] (fun u7 u47 wi => ∃ (j p : Nat), j ≤ L ∧ u47 = .int .i64 j ∧ u7 = .int .i64 p ∧ Hid (p = i + j) ∧ p ≤ n ∧ Hid (TF w wi g (some ⟨ga, off, none⟩) n c bs p v6 (N + 1 + 1) ((l ++ [⟨A3, c3, lit, 0, 0⟩]) ++ [⟨none, 0, [], (D : Int), (L : Int)⟩]))) (fun _ u47 _ => L - (intOf u47).toNat)
            case atStart => exact ⟨0, i, Nat.zero_le _, rfl, rfl, Lib.hid rfl, by omega, HX6⟩
            case round =>
              clear HX6 hwo
              obtain ⟨j, p, hj, rfl, rfl, HP, hp, HX7⟩ := hrel
              by_cases hjl : j < L
              · have hpn : p < n := by have := HP.out; omega
                go_wp2_with fail
                refine (PP.out _ p _ _ _ HX7.out hpn).mono ?_
                rintro e w8 ⟨rfl, hx8, hs8⟩
                have HX8 := Lib.hid hx8
                clear hx8 hs8 HX7
                go_wp2_with fail
                go_roundw
                case rel => exact ⟨j + 1, p + 1, by omega, by go_num, by go_num, Lib.hid (by have := HP.out; omega), by omega, HX8⟩
                case measure => simp [intOf]; omega
              · have hjL : j = L := by omega
                have hpe : p = i + L := by have := HP.out; omega
                have HT7 : Hid (T = toks ((l ++ [⟨A3, c3, lit, 0, 0⟩]) ++ [⟨none, 0, [], (D : Int), (L : Int)⟩]) ++ tok bs f p ((bs.take p).drop p)) := Lib.hid (by rw [drop_all, hpe]; exact HT6.out)
                have hnn : N + 1 + 1 ≤ p := by omega
                have hpf : n ≤ p + f := by omega
                have hip : i < p := by omega
                clear hpe HP
                go_wp2_with fail
                go_roundw
                case rel => exact ⟨N + 1 + 1, p, p, f, _, rfl, rfl, Nat.le_refl _, hp, hnn, hpf, HT7, HX7⟩
                case measure => simp [intOf]; omega
          · have hbe : b = i := by omega
            obtain ⟨x0, hx0⟩ : ∃ x, bs[i]? = some x := ⟨_, List.getElem?_eq_getElem (by rw [HN.out]; exact hlt)⟩
            obtain ⟨ga, off, rfl, hga, _⟩ := HR.out.at_ hx0
            have HFL : Hid (flush ((bs.take i).drop b) = []) := Lib.hid (flush_none (by rw [hbe, drop_all]; rfl))
            have HNE5 : Hid ((Value.slice A9 N c9).ownBlock ≠ some w2.heap.size) := Lib.hid (fun e => by have := HVB.out.2 _ e; omega)
            obtain ⟨m0, m1, m2⟩ := HBT.out.facts
            simp only [List.length_nil] at m0 m1 m2
            clear hx0 hga hbe
            go_wp2_with (first
              | (at_builtin; go_loud ((refine pushT (w2.alloc (.cells #[.slice none 0 0, .int .i64 (D : Int), .int .i64 (L : Int)] 125)) rfl (.tmp 41) (.tmp 43) (by rfl) (g + 1) (.slice A9 N c9) (N) (l) (by rfl) HB3.out.ts.row ⟨none, 0, [], (D : Int), (L : Int)⟩ (w2.heap.size + 1) (by simp) (by rfl) (by omega) HB3.out.f.lt ?_); intro v6 w6 ho6 hg6 hn6; have HX6 := Lib.hid (HB3.out.push (y := ⟨none, 0, [], (D : Int), (L : Int)⟩) (bb := (w2.alloc (.cells #[.slice none 0 0, .int .i64 (D : Int), .int .i64 (L : Int)] 125)).heap.size) HB3.out.bounds (World.ownsRow_nil _ _ _ _) HB3.out.f.lt HPM.out ho6 hg6 hn6); have HBT6 := Lib.hid (HBT.out.grown hg6 HNE5.out); obtain ⟨q0, q1, q2⟩ := HBT6.out.facts; simp only [List.length_nil] at q0 q1 q2; clear ho6 hg6 hn6)))
            have HT6 : Hid (T = toks ((l) ++ [⟨none, 0, [], (D : Int), (L : Int)⟩]) ++ tok bs f (i + L) []) := Lib.hid (by
              have h := HT.out.trans (by rw [HTM.out])
              rw [HFL.out] at h
              rw [h]
              simp [toks, TkV.tk])
            clear q0 q1 q2
            obtain ⟨wo, hwo⟩ : ∃ wo : World, wo = w6 := ⟨_, rfl⟩
            go_loopw [7, 47] (fun u7 u47 wi => ∃ (j p : Nat), j ≤ L ∧ u47 = .int .i64 j ∧ u7 = .int .i64 p ∧ Hid (p = i + j) ∧ p ≤ n ∧ Hid (TF w wi g (some ⟨ga, off, none⟩) n c bs p v6 (N + 1) ((l) ++ [⟨none, 0, [], (D : Int), (L : Int)⟩]))) (fun _ u47 _ => L - (intOf u47).toNat)
            case atStart => exact ⟨0, i, Nat.zero_le _, rfl, rfl, Lib.hid rfl, by omega, HX6⟩
            case round =>
              clear HX6 hwo
              obtain ⟨j, p, hj, rfl, rfl, HP, hp, HX7⟩ := hrel
              by_cases hjl : j < L
              · have hpn : p < n := by have := HP.out; omega
                go_wp2_with fail
                refine (PP.out _ p _ _ _ HX7.out hpn).mono ?_
                rintro e w8 ⟨rfl, hx8, hs8⟩
                have HX8 := Lib.hid hx8
                clear hx8 hs8 HX7
                go_wp2_with fail
                go_roundw
                case rel => exact ⟨j + 1, p + 1, by omega, by go_num, by go_num, Lib.hid (by have := HP.out; omega), by omega, HX8⟩
                case measure => simp [intOf]; omega
              · have hjL : j = L := by omega
                have hpe : p = i + L := by have := HP.out; omega
                have HT7 : Hid (T = toks ((l) ++ [⟨none, 0, [], (D : Int), (L : Int)⟩]) ++ tok bs f p ((bs.take p).drop p)) := Lib.hid (by rw [drop_all, hpe]; exact HT6.out)
                have hnn : N + 1 ≤ p := by omega
                have hpf : n ≤ p + f := by omega
                have hip : i < p := by omega
                clear hpe HP
                go_wp2_with fail
                go_roundw
                case rel => exact ⟨N + 1, p, p, f, _, rfl, rfl, Nat.le_refl _, hp, hnn, hpf, HT7, HX7⟩
                case measure => simp [intOf]; omega
      · have hie : i = n := by omega
        subst hie
        have HTE : Hid (T = toks l ++ flush ((bs.take i).drop b)) := Lib.hid (by have h := HT.out; rw [tok_end (by rw [HN.out]; exact Nat.le_refl _)] at h; exact h)
        by_cases hbi : b < i
        · have j0 : (0 : Int) ≤ (b : Int) := by omega
          have j1 : (b : Int) ≤ (i : Int) := by omega
          have j2 : (i : Int) ≤ (c : Int) := by omega
          have j3 : ¬ c = b := by omega
          obtain ⟨lit, hlit⟩ : ∃ lit, lit = (bs.take i).drop b := ⟨_, rfl⟩
          have hll : lit.length = i - b := by rw [hlit]; exact lit_len HN.out (Nat.le_refl _) hb
          obtain ⟨x0, hx0⟩ : ∃ x, bs[b]? = some x := ⟨_, List.getElem?_eq_getElem (by rw [HN.out]; omega)⟩
          obtain ⟨ga, off, rfl, hga, _⟩ := HR.out.at_ hx0
          have HLB : Hid (By lit) := Lib.hid (by rw [hlit]; exact (HY.out.take i).drop b)
          have PL : Hid (∀ W, Below g w W → Calls Tryz.prog 129 #[.slice (some ⟨ga, off + b, none⟩) (i - b) (c - b)] W fun e w' => ∃ A' c', e = .returned (.agg #[.slice A' lit.length c', .int .i64 0, .int .i64 0]) ∧ w'.ownsRow (W.heap.size + 1) 5 1 (.slice A' lit.length c') lit.length (b8 lit) ∧ Below W.heap.size W w') := Lib.hid (fun W hb => by
            have := literal_is (some ⟨ga, off + b, none⟩) lit.length (c - b) lit W (by rw [hlit]; exact rd_sub (HR.out.below (HG.out ▸ hb)) i) rfl (by omega)
            rw [hll] at this ⊢
            exact this)
          have HPL : Hid (∀ A' c', PlTk ⟨A', c', lit, 0, 0⟩) := Lib.hid (fun A' c' => ⟨HLB.out, by simp only; omega, by simp only; omega, by simp only; omega⟩)
          have HFL : Hid (flush lit = [⟨lit, 0, 0⟩]) := Lib.hid (flush_one (by omega))
          have HTF : Hid (∀ A' c', q = (toks (l ++ [⟨A', c', lit, 0, 0⟩]), 0)) := Lib.hid (fun A' c' => by rw [HQ.out, HTE.out, ← hlit, HFL.out]; simp [toks, TkV.tk])
          have HLL := Lib.hid hll
          have HVB := Lib.hid HX.out.bounds
          clear hlit hx0 hga hll
          go_wp2_with fail
          refine (PL.out _ HX.out.bel).mono ?_
          rintro e w3 ⟨A3, c3, rfl, ho3, hb3⟩
          have HX3 := Lib.hid (HX.out.below hb3)
          have hs3 := hb3.size
          have HO3 : Hid (OwnTk w3 (wr.heap.size + 1) ⟨A3, c3, lit, 0, 0⟩) := Lib.hid ho3
          have HV3 : Hid ((∀ x ∈ l, ∀ a : Addr, x.A = some a → a.block < wr.heap.size + 1) ∧ ∀ q, (Value.slice A9 N c9).ownBlock = some q → q < wr.heap.size + 1) := Lib.hid ⟨fun x hx a ha => by have := HVB.out.1 x hx a ha; omega, fun q hq => by have := HVB.out.2 q hq; omega⟩
          have hgl : g < wr.heap.size := HX.out.f.lt
          clear ho3 hb3 HX
          go_wp2_with (at_builtin; go_loud ((refine pushT w3 rfl (.tmp 60) (.tmp 65) (by rfl) (g + 1) (.slice A9 N c9) N l (by rfl) HX3.out.ts.row ⟨A3, c3, lit, 0, 0⟩ w3.heap.size (by rfl) (by rfl) (by omega) HX3.out.f.lt ?_); intro v5 w5 ho5 hg5 hn5; have HX5 := Lib.hid (HX3.out.push (bb := wr.heap.size + 1) HV3.out HO3.out (by omega) (HPL.out _ _) ho5 hg5 hn5); clear ho5 hg5 hn5))
          obtain ⟨A6, c6, hv6, _⟩ := own_shape HX5.out.ts.row
          subst hv6
          go_ret2
          exact ansT_some _ _ _ A6 c6 (N + 1) _ _ (HTF.out _ _) (HX5.out.ts.mono (by rw [← HG.out]; omega)) (HG.out ▸ HX5.out.bel)
        · have HE : Hid (q = (toks l, 0)) := Lib.hid (by rw [HQ.out, HTE.out, show b = i by omega, drop_all]; simp [flush])
          go_wp2_with fail
          go_ret2
          exact ansT_some _ _ _ A9 c9 N _ _ HE.out (HX.out.ts.mono (by rw [← HG.out]; omega)) (HG.out ▸ HX.out.bel)
end Go.Proofs.YtljfmcgeiceagaaGreat

/- The document's best. -/
namespace Go.Proofs.YtljfmcgeiceagaaGreat
open Go Go.RowKit
set_option linter.unusedVariables false
set_option linter.unusedSimpArgs false

theorem best_fin {t : List Nat} {i a b : Nat} (h : bst t i (min i 2048) = (a, b)) : best t i = if a < 5 then (0, 0) else (a, b) := by unfold best; rw [h]
theorem bst_up {t : List Nat} {i D a b m : Nat} (h : bst t i D = (a, b)) (hm : m = ml t i (D + 1)) (hlt : a < m) : bst t i (D + 1) = (m, D + 1) := by subst hm; rw [bst, h, if_pos hlt]
theorem bst_no {t : List Nat} {i D a b m : Nat} (h : bst t i D = (a, b)) (hm : m = ml t i (D + 1)) (hlt : ¬ a < m) : bst t i (D + 1) = (a, b) := by subst hm; rw [bst, h, if_neg hlt]

set_option maxHeartbeats 2000000 in
set_option maxRecDepth 100000 in
theorem rbest_is (A : Option Addr) (n c i : Nat) (t : List Nat) (w : World) (hr : Rd w A (b8 t)) (hn : t.length = n) (hl : n ≤ 4096) (hi : i < n) :
    Calls Tryz.prog 125 #[.slice A n c, .int .i64 (i : Int)] w fun e w' => e = .returned (.tuple #[.int .i64 (((best t i).1 : Nat) : Int), .int .i64 (((best t i).2 : Nat) : Int)]) ∧ ∃ m, w' = w.drewN m := by
  have HN := Lib.hid hn
  have PL : Hid (∀ j d, 1 ≤ d → d ≤ i → Calls Tryz.prog 130 #[.slice A n c, .int .i64 (i : Int), .int .i64 (d : Int)] (w.drewN j) fun e w' => e = .returned (.int .i64 ((ml t i d : Nat) : Int)) ∧ ∃ m, w' = w.drewN m) :=
    Lib.hid (fun j d h1 h2 => (rlength_is A n c i d t (w.drewN j) (hr.below (below_drewN (Below.refl _ _) j)) hn (by omega) (by omega) h1 h2).mono (fun e w' h => ⟨h.1, by obtain ⟨m, hm⟩ := h.2; exact ⟨_, by rw [hm]; exact World.drewN_drewN ..⟩⟩))
  obtain ⟨q, hq⟩ : ∃ q, q = best t i := ⟨_, rfl⟩
  have HQ := Lib.hid hq
  rw [← hq]
  clear hr hn hq
  go_enter Tryz.func125, Tryz.ntmps125
  go_wp2
  go_loopw [6, 7, 8, 9] (fun u6 u7 u8 u9 wr => ∃ (D a b j : Nat), u6 = .int .i64 a ∧ u7 = .int .i64 b ∧ u8 = .int .i64 ((D : Int) + 1) ∧ D ≤ min i 2048 ∧ a ≤ 258 ∧ Hid (bst t i D = (a, b)) ∧ wr = w.drewN j) (fun _ _ u8 _ _ => 5000 - (intOf u8).toNat)
  case atStart => exact ⟨0, 0, 0, 0, rfl, rfl, rfl, Nat.zero_le _, by omega, Lib.hid rfl, rfl⟩
  case round =>
    obtain ⟨D, a, b, j, rfl, rfl, rfl, hD, ha, HB, rfl⟩ := hrel
    by_cases hd : D + 1 ≤ i
    · have hd1 : (D : Int) + 1 ≤ (i : Int) := by omega
      by_cases hw : D + 1 ≤ 2048
      · have hw1 : (D : Int) + 1 ≤ 2048 := by omega
        have P1 := Lib.hid (PL.out j (D + 1) (by omega) hd)
        have hm := ml_le t i (D + 1)
        have hml := ml_len (t := t) (i := i) (D + 1) (by rw [HN.out]; omega)
        rw [HN.out] at hml
        obtain ⟨m, hm'⟩ : ∃ m, m = ml t i (D + 1) := ⟨_, rfl⟩
        have HM := Lib.hid hm'
        rw [← hm'] at P1 hm hml
        rw [show ((D + 1 : Nat) : Int) = (D : Int) + 1 by omega] at P1
        clear hm'
        go_wp2_with fail
        refine P1.out.mono ?_
        rintro e w1 ⟨rfl, j1, rfl⟩
        by_cases hlt : a < m
        · have HBN := Lib.hid (bst_up HB.out HM.out hlt)
          clear HB
          by_cases hfull : m = 258
          · have HFIN := Lib.hid ((bst_stop (t := t) (i := i) (D' := min i 2048) (by rw [HN.out]; omega) (.inl (by rw [HBN.out]; exact hfull)) (by omega)).trans HBN.out)
            have HFU : Hid (q = (m, (D + 1))) := Lib.hid (by rw [HQ.out, best_fin HFIN.out, if_neg (by omega)])
            have hsub : ((258 : Nat) : Int) = 258 := rfl
            subst hfull
            go_wp2_with fail
            go_ret2
            exact ⟨by rw [HFU.out]; rfl, _, rfl⟩
          · have hfb : ((m : Int) == 258) = false := by rw [beq_eq_false_iff_ne]; omega
            by_cases hend : i + m = n
            · have heb : ((i : Int) + (m : Int) == (n : Int)) = true := by rw [beq_iff_eq]; omega
              have HFIN := Lib.hid ((bst_stop (t := t) (i := i) (D' := min i 2048) (by rw [HN.out]; omega) (.inr (by rw [HBN.out, HN.out]; exact hend)) (by omega)).trans HBN.out)
              clear hend hfull
              by_cases hs : m < 5
              · have HE : Hid (q = (0, 0)) := Lib.hid (by rw [HQ.out, best_fin HFIN.out, if_pos hs])
                go_wp2_with fail
                go_ret2
                exact ⟨by rw [HE.out]; rfl, _, rfl⟩
              · have HE : Hid (q = (m, (D + 1))) := Lib.hid (by rw [HQ.out, best_fin HFIN.out, if_neg hs])
                go_wp2_with fail
                go_ret2
                exact ⟨by rw [HE.out]; rfl, _, rfl⟩
            · have heb : ((i : Int) + (m : Int) == (n : Int)) = false := by rw [beq_eq_false_iff_ne]; omega
              clear hend hfull
              go_wp2_with fail
              go_roundw
              case rel => exact ⟨D + 1, m, (D + 1), _, rfl, by first | rfl | go_num, by go_num, by omega, by omega, HBN, rfl⟩
              case measure => simp [intOf]; omega
        · have HBN := Lib.hid (bst_no HB.out HM.out hlt)
          clear HB
          by_cases hfull : a = 258
          · have HFIN := Lib.hid ((bst_stop (t := t) (i := i) (D' := min i 2048) (by rw [HN.out]; omega) (.inl (by rw [HBN.out]; exact hfull)) (by omega)).trans HBN.out)
            have HFU : Hid (q = (a, b)) := Lib.hid (by rw [HQ.out, best_fin HFIN.out, if_neg (by omega)])
            have hsub : ((258 : Nat) : Int) = 258 := rfl
            subst hfull
            go_wp2_with fail
            go_ret2
            exact ⟨by rw [HFU.out]; rfl, _, rfl⟩
          · have hfb : ((a : Int) == 258) = false := by rw [beq_eq_false_iff_ne]; omega
            by_cases hend : i + a = n
            · have heb : ((i : Int) + (a : Int) == (n : Int)) = true := by rw [beq_iff_eq]; omega
              have HFIN := Lib.hid ((bst_stop (t := t) (i := i) (D' := min i 2048) (by rw [HN.out]; omega) (.inr (by rw [HBN.out, HN.out]; exact hend)) (by omega)).trans HBN.out)
              clear hend hfull
              by_cases hs : a < 5
              · have HE : Hid (q = (0, 0)) := Lib.hid (by rw [HQ.out, best_fin HFIN.out, if_pos hs])
                go_wp2_with fail
                go_ret2
                exact ⟨by rw [HE.out]; rfl, _, rfl⟩
              · have HE : Hid (q = (a, b)) := Lib.hid (by rw [HQ.out, best_fin HFIN.out, if_neg hs])
                go_wp2_with fail
                go_ret2
                exact ⟨by rw [HE.out]; rfl, _, rfl⟩
            · have heb : ((i : Int) + (a : Int) == (n : Int)) = false := by rw [beq_eq_false_iff_ne]; omega
              clear hend hfull
              go_wp2_with fail
              go_roundw
              case rel => exact ⟨D + 1, a, b, _, rfl, by first | rfl | go_num, by go_num, by omega, by omega, HBN, rfl⟩
              case measure => simp [intOf]; omega
      · have hw1 : ¬ (D : Int) + 1 ≤ 2048 := by omega
        have HFIN := Lib.hid (show bst t i (min i 2048) = (a, b) by rw [show min i 2048 = D by omega]; exact HB.out)
        by_cases hs : a < 5
        · have HE : Hid (q = (0, 0)) := Lib.hid (by rw [HQ.out, best_fin HFIN.out, if_pos hs])
          go_wp2_with fail
          go_ret2
          exact ⟨by rw [HE.out]; rfl, _, rfl⟩
        · have HE : Hid (q = (a, b)) := Lib.hid (by rw [HQ.out, best_fin HFIN.out, if_neg hs])
          go_wp2_with fail
          go_ret2
          exact ⟨by rw [HE.out]; rfl, _, rfl⟩
    · have hd1 : ¬ (D : Int) + 1 ≤ (i : Int) := by omega
      have HFIN := Lib.hid (show bst t i (min i 2048) = (a, b) by rw [show min i 2048 = D by omega]; exact HB.out)
      by_cases hs : a < 5
      · have HE : Hid (q = (0, 0)) := Lib.hid (by rw [HQ.out, best_fin HFIN.out, if_pos hs])
        go_wp2_with fail
        go_ret2
        exact ⟨by rw [HE.out]; rfl, _, rfl⟩
      · have HE : Hid (q = (a, b)) := Lib.hid (by rw [HQ.out, best_fin HFIN.out, if_neg hs])
        go_wp2_with fail
        go_ret2
        exact ⟨by rw [HE.out]; rfl, _, rfl⟩
end Go.Proofs.YtljfmcgeiceagaaGreat

/- Tokens, the document's. -/
namespace Go.Proofs.YtljfmcgeiceagaaGreat
open Go Go.RowKit
set_option linter.unusedVariables false
set_option linter.unusedSimpArgs false

/-- Tokens, and bytes behind them that are being gathered. -/
structure TL (w0 W : World) (v : Value) (N : Nat) (l : List TkV) (u : Value) (K : Nat) (lit : List Nat) (B : Nat) : Prop where
  ts : Ts W w0.heap.size v N l
  row : W.ownsRow B 5 1 u K (b8 lit)
  lb : ∀ x ∈ l, ∀ a : Addr, x.A = some a → a.block < B
  vb : ∀ q, v.ownBlock = some q → q < B
  wB : w0.heap.size ≤ B
  BW : B ≤ W.heap.size
  nil0 : K = 0 → u = .slice none 0 0
  bel : Below w0.heap.size w0 W
section
variable {w0 W W' : World} {v v' : Value} {N : Nat} {l : List TkV} {u u' : Value} {K : Nat} {lit : List Nat} {B : Nat}
theorem TL.start (w : World) : TL w w (.slice none 0 0) 0 [] (.slice none 0 0) 0 [] w.heap.size :=
  ⟨Ts.nil _ _, World.ownsRow_nil _ _ _ _, (fun x hx => by cases hx), (fun q hq => by simp [Value.ownBlock] at hq), Nat.le_refl _, Nat.le_refl _, fun _ => rfl, Below.refl _ _⟩
theorem TL.size (h : TL w0 W v N l u K lit B) : w0.heap.size ≤ W.heap.size := h.bel.size
theorem TL.below (h : TL w0 W v N l u K lit B) (hb : Below W.heap.size W W') : TL w0 W' v N l u K lit B :=
  ⟨h.ts.below hb, own_below h.row hb, h.lb, h.vb, h.wB, Nat.le_trans h.BW hb.size, h.nil0, h.bel.trans (hb.mono h.size)⟩
theorem TL.byte (h : TL w0 W v N l u K lit B) {x : Nat} (hrow : W'.ownsRow B 5 1 u' (K + 1) (b8 (lit ++ [x]))) (hg : W.grownBy W' u.ownBlock) : TL w0 W' v N l u' (K + 1) (lit ++ [x]) B := by
  have hu : ∀ q, u.ownBlock = some q → B ≤ q := fun q hq => (h.row.lt q hq).1
  have hk : KeptS W W' (fun q => u.ownBlock = some q) := KeptS.of_grown hg (fun q hq => hq)
  exact ⟨h.ts.keptS hk (fun q hq e => by have := hu q e; have := h.vb q hq; omega) (fun x hx a ha e => by have := hu _ e; have := h.lb x hx a ha; omega), hrow, h.lb, h.vb, h.wB, Nat.le_trans h.BW hg.size, (fun e => by omega), h.bel.trans (below_of_grown hg h.size (fun k hk => Nat.le_trans h.wB (hu k hk)))⟩
/-- The gathered bytes become a token. -/
theorem TL.flush {A5 : Option Addr} {c5 : Nat} (h : TL w0 W v N l (.slice A5 lit.length c5) lit.length lit B) (hpl : PlTk ⟨A5, c5, lit, 0, 0⟩) (hrow : W'.ownsRow w0.heap.size 125 3 v' (N + 1) (tkCells (l ++ [⟨A5, c5, lit, 0, 0⟩]))) (hg : W.grownBy W' v.ownBlock) (hn : v'.ownBlock = v.ownBlock ∨ ∃ k, v'.ownBlock = some k ∧ W.heap.size ≤ k) :
    TL w0 W' v' (N + 1) (l ++ [⟨A5, c5, lit, 0, 0⟩]) (.slice none 0 0) 0 [] W'.heap.size := by
  have hv : ∀ q, v.ownBlock = some q → w0.heap.size ≤ q := fun q hq => (h.ts.row.lt q hq).1
  have hts := h.ts.push (bb := B) h.lb h.vb (y := ⟨A5, c5, lit, 0, 0⟩) h.row h.wB hpl hrow hg hn
  exact ⟨hts, World.ownsRow_nil _ _ _ _, (fun x hx a ha => ((hts.lit x hx).lt ha).2), (fun q hq => (hts.row.lt q hq).2), Nat.le_trans h.size hg.size, Nat.le_refl _, (fun _ => rfl), h.bel.trans (below_of_grown hg h.size hv)⟩
/-- A match behind them, where nothing is gathered. -/
theorem TL.mat (h : TL w0 W v N l (.slice none 0 0) 0 [] B) {d m : Int} (hpl : PlTk ⟨none, 0, [], d, m⟩) (hrow : W'.ownsRow w0.heap.size 125 3 v' (N + 1) (tkCells (l ++ [⟨none, 0, [], d, m⟩]))) (hg : W.grownBy W' v.ownBlock) (hn : v'.ownBlock = v.ownBlock ∨ ∃ k, v'.ownBlock = some k ∧ W.heap.size ≤ k) :
    TL w0 W' v' (N + 1) (l ++ [⟨none, 0, [], d, m⟩]) (.slice none 0 0) 0 [] W'.heap.size := by
  have hv : ∀ q, v.ownBlock = some q → w0.heap.size ≤ q := fun q hq => (h.ts.row.lt q hq).1
  have hts := h.ts.push (bb := B) h.lb h.vb (y := ⟨none, 0, [], d, m⟩) (World.ownsRow_nil _ _ _ _) h.wB hpl hrow hg hn
  exact ⟨hts, World.ownsRow_nil _ _ _ _, (fun x hx a ha => ((hts.lit x hx).lt ha).2), (fun q hq => (hts.row.lt q hq).2), Nat.le_trans h.size hg.size, Nat.le_refl _, (fun _ => rfl), h.bel.trans (below_of_grown hg h.size hv)⟩
end

set_option maxHeartbeats 4000000 in
set_option maxRecDepth 100000 in
theorem rtokens_is (A : Option Addr) (n c : Nat) (bs : List Nat) (w : World) (hr : Rd w A (b8 bs)) (hn : bs.length = n) (hby : By bs) (hl : n ≤ 140737488351232) :
    Calls Tryz.prog 117 #[.slice A n c] w (AnsT w (tks bs)) := by
  have HN := Lib.hid hn
  by_cases hlong : 4096 < n
  · have HE : Hid (tks bs = ([], 2)) := Lib.hid (tks_long (by rw [hn]; exact hlong))
    obtain ⟨q, hq⟩ : ∃ q, q = tks bs := ⟨_, rfl⟩
    rw [← hq] at HE ⊢
    clear hr hn hby hq
    go_enter Tryz.func117, Tryz.ntmps117
    go_wp2_with fail
    go_ret2
    exact ansT_none _ _ _ _ HE.out (Below.refl _ _)
  · have HQ : Hid (tks bs = (tokens bs, 0)) := Lib.hid (tks_short (by rw [hn]; exact hlong))
    have HQ0 : Hid (tokens bs = toks [] ++ tok bs n 0 []) := Lib.hid (by unfold tokens; rw [hn]; rfl)
    obtain ⟨q, hq⟩ : ∃ q, q = tks bs := ⟨_, rfl⟩
    obtain ⟨T, hT⟩ : ∃ T, T = tokens bs := ⟨_, rfl⟩
    rw [← hq, ← hT] at HQ
    rw [← hT] at HQ0
    rw [← hq]
    have hn4 : n ≤ 4096 := by omega
    have HR := Lib.hid hr
    have HY := Lib.hid hby
    have PB : Hid (∀ W i, Below w.heap.size w W → i < n → Calls Tryz.prog 125 #[.slice A n c, .int .i64 (i : Int)] W fun e w' => e = .returned (.tuple #[.int .i64 (((best bs i).1 : Nat) : Int), .int .i64 (((best bs i).2 : Nat) : Int)]) ∧ ∃ m, w' = W.drewN m) :=
      Lib.hid (fun W i hb hi => rbest_is A n c i bs W (hr.below hb) hn hn4 hi)
    clear hr hn hby hq hT hlong
    go_enter Tryz.func117, Tryz.ntmps117
    go_wp2_with fail
    go_loopw [4, 5, 6, 7, 8] (fun v u u6 u7 u8 wr => ∃ (N K i f B : Nat) (l : List TkV) (lit : List Nat), u6 = .int .i64 i ∧ i ≤ n ∧ N + K ≤ i ∧ n ≤ i + f ∧ Hid (lit.length = K ∧ By lit) ∧ Hid (T = toks l ++ tok bs f i lit) ∧ Hid (TL w wr v N l u K lit B)) (fun _ _ u6 _ _ _ => n - (intOf u6).toNat)
    case atStart => exact ⟨0, 0, 0, n, _, [], [], rfl, Nat.zero_le _, Nat.le_refl _, by omega, Lib.hid ⟨rfl, fun b hb => by cases hb⟩, HQ0, Lib.hid (TL.start w)⟩
    case round =>
      clear HQ0
      obtain ⟨N, K, i, f, B, l, lit, rfl, hi, hN, hf, HK, HT, HX⟩ := hrel
      obtain ⟨A9, c9, rfl, _⟩ := own_shape HX.out.ts.row
      obtain ⟨A5, c5, rfl, _⟩ := own_shape HX.out.row
      have hsz := HX.out.size
      have hBW := HX.out.BW
      by_cases hlt : i < n
      · obtain ⟨f, rfl⟩ : ∃ f', f = f' + 1 := ⟨f - 1, by omega⟩
        have P1 := Lib.hid (PB.out wr i HX.out.bel hlt)
        have HBI := Lib.hid (best_is bs i (by rw [HN.out]; omega))
        obtain ⟨⟨L, D⟩, hbe⟩ : ∃ p, p = best bs i := ⟨_, rfl⟩
        have HBE := Lib.hid hbe.symm
        rw [← hbe] at P1
        simp only at P1
        obtain ⟨x, hx⟩ : ∃ x, bs[i]? = some x := ⟨_, List.getElem?_eq_getElem (by rw [HN.out]; exact hlt)⟩
        obtain ⟨ga, off, rfl, hga, hcx0⟩ := HR.out.at_ hx
        have HX8 : Hid (x < 256) := Lib.hid (HY.out x (List.mem_of_getElem? hx))
        have HGD : Hid (bs.getD i 0 = x) := Lib.hid (by rw [List.getD_eq_getElem?_getD, hx]; rfl)
        clear hbe hx
        go_wp2_with fail
        refine P1.out.mono ?_
        rintro e w2 ⟨rfl, d2, rfl⟩
        have HX2 := Lib.hid (HX.out.below (below_drewN (Below.refl _ _) d2))
        have hcx : (wr.drewN d2).cell? ⟨ga, off + i, none⟩ = some (.int .u8 (x : Int)) := (HX2.out.bel.cell (p := ⟨ga, off + i, none⟩) hga).trans hcx0
        clear P1 HX hcx0
        obtain ⟨wo, hwo⟩ : ∃ wo : World, wo = wr.drewN d2 := ⟨_, rfl⟩
        have hszo : w.heap.size ≤ wo.heap.size := by rw [hwo]; simpa using hsz
        have hBo : B ≤ wo.heap.size := by rw [hwo]; simpa using hBW
        rw [← hwo] at HX2 hcx ⊢
        clear hwo
        by_cases h0 : L = 0
        · have HST : Hid (tok bs (f + 1) i lit = tok bs f (i + 1) (lit ++ [x])) := Lib.hid (by rw [tok_lit (by rw [HN.out]; exact hlt) (by rw [HBE.out]; exact h0), HGD.out])
          subst h0
          go_wp2_with (at_builtin; go_loud ((refine push8 wo rfl (.tmp 24) (.tmp 29) (by rfl) B (.slice A5 K c5) K lit (by rfl) HX2.out.row _ x rfl (by rfl) (by omega) hBo ?_); intro v3 w3 ho3 hg3 hn3; have HX3 := Lib.hid (HX2.out.byte ho3 hg3); clear ho3 hg3 hn3))
          go_roundw
          case rel => exact ⟨N, K + 1, i + 1, f, B, l, lit ++ [x], by go_num, by omega, by omega, by omega, Lib.hid ⟨by rw [List.length_append, HK.out.1]; rfl, by intro b hb; rcases List.mem_append.1 hb with h | h; { exact HK.out.2 b h }; { rw [List.mem_singleton] at h; rw [h]; exact HX8.out }⟩, Lib.hid (by rw [HT.out, HST.out]), HX3⟩
          case measure => simp [intOf]; omega
        · have hbx : 5 ≤ L ∧ L ≤ 258 ∧ 1 ≤ D ∧ D ≤ 2048 ∧ i + L ≤ n := by
            rcases HBI.out with h | ⟨n', d', h1, h2⟩
            · have h3 := h.1
              rw [HBE.out] at h3
              injection h3 with h3 _
              exact absurd h3 h0
            · rw [HBE.out] at h1
              injection h1 with h3 h4
              subst h3 h4
              rw [HN.out] at h2
              omega
          obtain ⟨hL5, hL258, hD1, hD2, hiL⟩ := hbx
          have HPM : Hid (PlTk ⟨none, 0, [], (D : Int), (L : Int)⟩) := Lib.hid ⟨(fun b hb => by cases hb), by simp, by simp only; omega, by simp only; omega⟩
          have HTM : Hid (tok bs (f + 1) i lit = flush lit ++ ⟨[], (D : Int), (L : Int)⟩ :: tok bs f (i + L) []) := Lib.hid (by rw [tok_match (by rw [HN.out]; exact hlt) (by rw [HBE.out]; exact h0), HBE.out])
          have hne : ((L : Int) == 0) = false := by rw [beq_eq_false_iff_ne]; omega
          clear h0
          by_cases hK : K = 0
          · have HL0 : Hid (lit = []) := Lib.hid (List.eq_nil_of_length_eq_zero (by rw [HK.out.1]; exact hK))
            have hu := HX2.out.nil0 hK
            injection hu with hu1 hu2 hu3
            subst hu1 hu2 hu3
            have HX2' : Hid (TL w wo (.slice A9 N c9) N l (.slice none 0 0) 0 [] B) := Lib.hid (by have h := HX2.out; rw [HL0.out] at h; exact h)
            clear HX2 hK
            go_wp2_with (at_builtin; go_loud ((refine pushT wo rfl (.tmp 41) (.tmp 45) (by rfl) w.heap.size (.slice A9 N c9) N l (by rfl) HX2'.out.ts.row ⟨none, 0, [], (D : Int), (L : Int)⟩ wo.heap.size (by rfl) (by rfl) (by omega) hszo ?_); intro v4 w4 ho4 hg4 hn4; have HX4 := Lib.hid (HX2'.out.mat HPM.out ho4 hg4 hn4); clear ho4 hg4 hn4))
            go_roundw
            case rel => exact ⟨N + 1, 0, i + L, f, _, _, [], by go_num, by omega, by omega, by omega, Lib.hid ⟨rfl, fun b hb => by cases hb⟩, Lib.hid (by rw [HT.out, HTM.out, HL0.out]; simp [toks, TkV.tk, flush]), HX4⟩
            case measure => simp [intOf]; omega
          · have hKp : (0 : Int) < (K : Int) := by omega
            have HFL : Hid (flush lit = [⟨lit, 0, 0⟩]) := Lib.hid (flush_one (by rw [HK.out.1]; omega))
            have hKl := HK.out.1
            subst hKl
            have HPL : Hid (PlTk ⟨A5, c5, lit, 0, 0⟩) := Lib.hid ⟨HK.out.2, by simp only; omega, by simp only; omega, by simp only; omega⟩
            clear hK
            go_wp2_with (first
              | (at_builtin; go_loud ((refine pushT wo rfl (.tmp 36) (.tmp 39) (by rfl) w.heap.size (.slice A9 N c9) N l (by rfl) HX2.out.ts.row ⟨A5, c5, lit, 0, 0⟩ wo.heap.size (by rfl) (by rfl) (by omega) hszo ?_); intro v3 w3 ho3 hg3 hn3; have HX3 := Lib.hid (HX2.out.flush HPL.out ho3 hg3 hn3); have hs3 := HX3.out.size; clear ho3 hg3 hn3))
              | (at_builtin; go_loud ((refine pushT w3 rfl (.tmp 41) (.tmp 45) (by rfl) w.heap.size v3 (N + 1) (l ++ [⟨A5, c5, lit, 0, 0⟩]) (by rfl) HX3.out.ts.row ⟨none, 0, [], (D : Int), (L : Int)⟩ w3.heap.size (by rfl) (by rfl) (by omega) hs3 ?_); intro v4 w4 ho4 hg4 hn4; have HX4 := Lib.hid (HX3.out.mat HPM.out ho4 hg4 hn4); clear ho4 hg4 hn4)))
            go_roundw
            case rel => exact ⟨N + 1 + 1, 0, i + L, f, _, _, [], by go_num, by omega, by omega, by omega, Lib.hid ⟨rfl, fun b hb => by cases hb⟩, Lib.hid (by rw [HT.out, HTM.out, HFL.out]; simp [toks, TkV.tk]), HX4⟩
            case measure => simp [intOf]; omega
      · have hie : i = n := by omega
        subst hie
        have HTE : Hid (T = toks l ++ flush lit) := Lib.hid (by have h := HT.out; rw [tok_end (by rw [HN.out]; exact Nat.le_refl _)] at h; exact h)
        by_cases hK : K = 0
        · have HE : Hid (q = (toks l, 0)) := Lib.hid (by have hl0 : lit = [] := List.eq_nil_of_length_eq_zero (by rw [HK.out.1]; exact hK); rw [HQ.out, HTE.out, hl0]; simp [flush])
          subst hK
          go_wp2_with fail
          go_ret2
          exact ansT_some _ _ _ A9 c9 N _ _ HE.out HX.out.ts HX.out.bel
        · have hKp : (0 : Int) < (K : Int) := by omega
          have hKl := HK.out.1
          subst hKl
          have HPL : Hid (PlTk ⟨A5, c5, lit, 0, 0⟩) := Lib.hid ⟨HK.out.2, by simp only; omega, by simp only; omega, by simp only; omega⟩
          have HTF : Hid (q = (toks (l ++ [⟨A5, c5, lit, 0, 0⟩]), 0)) := Lib.hid (by rw [HQ.out, HTE.out, flush_one (by omega)]; simp [toks, TkV.tk])
          go_wp2_with (at_builtin; go_loud ((refine pushT wr rfl (.tmp 53) (.tmp 56) (by rfl) w.heap.size (.slice A9 N c9) N l (by rfl) HX.out.ts.row ⟨A5, c5, lit, 0, 0⟩ wr.heap.size (by rfl) (by rfl) (by omega) hsz ?_); intro v3 w3 ho3 hg3 hn3; have HX3 := Lib.hid (HX.out.flush HPL.out ho3 hg3 hn3); clear ho3 hg3 hn3))
          obtain ⟨A6, c6, hv6, _⟩ := own_shape HX3.out.ts.row
          subst hv6
          go_ret2
          exact ansT_some _ _ _ A6 c6 (N + 1) _ _ HTF.out HX3.out.ts HX3.out.bel
end Go.Proofs.YtljfmcgeiceagaaGreat

/- Encode, the program's and the document's (printed by gen_sqenc.py). -/
namespace Go.Proofs.YtljfmcgeiceagaaGreat
open Go Go.RowKit
set_option linter.unusedVariables false
set_option linter.unusedSimpArgs false

/-- The block of a text, or that it is too long. -/
def enc (t : List Nat) : List Nat × Int := if 4096 < t.length then ([], 2) else (blk t.length (tokens t), 0)
theorem enc_long {t : List Nat} (h : 4096 < t.length) : enc t = ([], 2) := if_pos h
theorem enc_short {t : List Nat} (h : ¬ 4096 < t.length) : enc t = (blk t.length (tokens t), 0) := if_neg h
theorem blk_len {t : List Nat} (h : ¬ 4096 < t.length) : (blk t.length (tokens t)).length ≤ 100000000 := by
  have hx := exp_tokens (t := t) (by omega)
  have h1 := flat_len (tokens t) (fine_of_exp hx).1
  have h2 := fine_count hx
  have h3 := Uv.uv_len_64 t.length (by omega)
  unfold blk
  rw [List.length_append]
  omega
set_option maxHeartbeats 2000000 in
set_option maxRecDepth 100000 in
theorem encode_is (A : Option Addr) (n c : Nat) (bs : List Nat) (w : World) (hr : Rd w A (b8 bs)) (hn : bs.length = n) (hby : By bs) (hl : n ≤ 140737488351232) (hc : n ≤ c) :
    Calls Tryz.prog 111 #[.slice A n c] w (Ans8 w (enc bs)) := by
  have PT := Lib.hid (tokens_is A n c bs w hr hn hby hl hc)
  by_cases hlong : 4096 < n
  · have HE : Hid (enc bs = ([], 2)) := Lib.hid (enc_long (by rw [hn]; exact hlong))
    have HT : Hid (tks bs = ([], 2)) := Lib.hid (tks_long (by rw [hn]; exact hlong))
    rw [HT.out] at PT
    obtain ⟨q, hq⟩ : ∃ q, q = enc bs := ⟨_, rfl⟩
    rw [← hq] at HE ⊢
    clear hr hn hby hq
    go_enter Tryz.func111, Tryz.ntmps111
    go_wp2_with fail
    refine PT.out.mono ?_
    rintro e w1 ⟨A1, c1, N1, l1, rfl, hq1, ht1, hb1⟩
    have HB1 := Lib.hid hb1
    clear hq1 ht1 hb1
    go_wp2_with fail
    go_ret2
    exact ans8_none _ _ _ _ HE.out HB1.out
  · have HE : Hid (enc bs = (blk n (tokens bs), 0)) := Lib.hid (by rw [← hn]; exact enc_short (by rw [hn]; exact hlong))
    have HT : Hid (tks bs = (tokens bs, 0)) := Lib.hid (tks_short (by rw [hn]; exact hlong))
    have hx := exp_tokens (t := bs) (by omega)
    have HF := Lib.hid (fine_of_exp hx).1
    have HC := Lib.hid (fine_count hx)
    have HW := Lib.hid (wr_ok hx)
    rw [hn] at HW
    rw [HT.out] at PT
    have hn4 : n ≤ 4096 := by omega
    obtain ⟨q, hq⟩ : ∃ q, q = enc bs := ⟨_, rfl⟩
    rw [← hq] at HE ⊢
    obtain ⟨T, hT⟩ : ∃ T, T = tokens bs := ⟨_, rfl⟩
    rw [← hT] at PT HE HF HC HW
    clear hr hn hby hq hT hx HT hlong
    go_enter Tryz.func111, Tryz.ntmps111
    go_wp2_with fail
    refine PT.out.mono ?_
    rintro e w1 ⟨A1, c1, N1, l1, rfl, hq1, ht1, hb1⟩
    have HB1 := Lib.hid hb1
    have HT1 := Lib.hid ht1
    have HQ1 : Hid (toks l1 = T) := Lib.hid hq1
    have hN1 : N1 ≤ 4096 := by have h := HC.out; rw [← HQ1.out, toks_len, HT1.out.len] at h; exact h
    clear hq1 ht1 hb1 PT
    have P2 := Lib.hid (block_is n A1 N1 c1 l1 w1 hn4 HT1.out.rd HT1.out.len HT1.out.ok (fun x hx => HF.out _ (by rw [← HQ1.out]; exact List.mem_map.2 ⟨x, hx, rfl⟩)) hN1)
    rw [HQ1.out] at P2
    go_wp2_with fail
    refine P2.out.mono ?_
    rintro e w2 ⟨A2, c2, rfl, ho2, hb2⟩
    have HO2 := Lib.hid (own_mono ho2 HB1.out.size)
    have HB2 := Lib.hid (HB1.out.trans (hb2.mono HB1.out.size))
    clear ho2 hb2 P2
    go_wp2_with fail
    go_ret2
    exact ans8_some _ _ _ (blk n T) _ _ _ HE.out rfl HO2.out HB2.out

set_option maxHeartbeats 2000000 in
set_option maxRecDepth 100000 in
theorem rencode_is (A : Option Addr) (n c : Nat) (bs : List Nat) (w : World) (hr : Rd w A (b8 bs)) (hn : bs.length = n) (hby : By bs) (hl : n ≤ 140737488351232) :
    Calls Tryz.prog 107 #[.slice A n c] w (Ans8 w (enc bs)) := by
  have PT := Lib.hid (rtokens_is A n c bs w hr hn hby hl)
  by_cases hlong : 4096 < n
  · have HE : Hid (enc bs = ([], 2)) := Lib.hid (enc_long (by rw [hn]; exact hlong))
    have HT : Hid (tks bs = ([], 2)) := Lib.hid (tks_long (by rw [hn]; exact hlong))
    rw [HT.out] at PT
    obtain ⟨q, hq⟩ : ∃ q, q = enc bs := ⟨_, rfl⟩
    rw [← hq] at HE ⊢
    clear hr hn hby hq
    go_enter Tryz.func107, Tryz.ntmps107
    go_wp2_with fail
    refine PT.out.mono ?_
    rintro e w1 ⟨A1, c1, N1, l1, rfl, hq1, ht1, hb1⟩
    have HB1 := Lib.hid hb1
    clear hq1 ht1 hb1
    go_wp2_with fail
    go_ret2
    exact ans8_none _ _ _ _ HE.out HB1.out
  · have HE : Hid (enc bs = (blk n (tokens bs), 0)) := Lib.hid (by rw [← hn]; exact enc_short (by rw [hn]; exact hlong))
    have HT : Hid (tks bs = (tokens bs, 0)) := Lib.hid (tks_short (by rw [hn]; exact hlong))
    have hx := exp_tokens (t := bs) (by omega)
    have HF := Lib.hid (fine_of_exp hx).1
    have HC := Lib.hid (fine_count hx)
    have HW := Lib.hid (wr_ok hx)
    rw [hn] at HW
    rw [HT.out] at PT
    have hn4 : n ≤ 4096 := by omega
    obtain ⟨q, hq⟩ : ∃ q, q = enc bs := ⟨_, rfl⟩
    rw [← hq] at HE ⊢
    obtain ⟨T, hT⟩ : ∃ T, T = tokens bs := ⟨_, rfl⟩
    rw [← hT] at PT HE HF HC HW
    clear hr hn hby hq hT hx HT hlong
    go_enter Tryz.func107, Tryz.ntmps107
    go_wp2_with fail
    refine PT.out.mono ?_
    rintro e w1 ⟨A1, c1, N1, l1, rfl, hq1, ht1, hb1⟩
    have HB1 := Lib.hid hb1
    have HT1 := Lib.hid ht1
    have HQ1 : Hid (toks l1 = T) := Lib.hid hq1
    have hN1 : N1 ≤ 4096 := by have h := HC.out; rw [← HQ1.out, toks_len, HT1.out.len] at h; exact h
    clear hq1 ht1 hb1 PT
    have P2 := Lib.hid (rwrite_is A1 N1 c1 l1 w1 HT1.out.rd HT1.out.len HT1.out.ok (by omega))
    rw [HQ1.out, HW.out] at P2
    go_wp2_with fail
    refine P2.out.mono ?_
    rintro e w2 ⟨A2, c2, rfl, ho2, hb2⟩
    have HO2 := Lib.hid (own_mono ho2 HB1.out.size)
    have HB2 := Lib.hid (HB1.out.trans (hb2.mono HB1.out.size))
    clear ho2 hb2 P2
    go_wp2_with fail
    go_ret2
    exact ans8_some _ _ _ (blk n T) _ _ _ HE.out rfl HO2.out HB2.out
end Go.Proofs.YtljfmcgeiceagaaGreat

/- Decode, the program's and the document's (printed by gen_sqenc.py). -/
namespace Go.Proofs.YtljfmcgeiceagaaGreat
open Go Go.RowKit
set_option linter.unusedVariables false
set_option linter.unusedSimpArgs false

/-- The text of a block, or that it is none. -/
def dec (b : List Nat) : List Nat × Int := if (rd b).2 = 0 then (if (enc (exp [] (rd b).1).1).1 = b then ((exp [] (rd b).1).1, 0) else ([], 20)) else ([], 20)
theorem dec_bad {b : List Nat} (h : rd b = ([], 20)) : dec b = ([], 20) := by unfold dec; rw [h]; rfl
theorem dec_some {b T : List Nat} {ts : List Tk} (h : rd b = (ts, 0)) (hx : exp [] ts = (T, 0)) : dec b = if blk T.length (tokens T) = b then (T, 0) else ([], 20) := by
  have hT : T.length ≤ 4096 := by have h2 := exp_len ts [] (by simp); rw [hx] at h2; exact h2
  unfold dec
  rw [h]
  simp only [if_true]
  rw [hx]
  simp only
  rw [enc_short (by omega)]
theorem own_cap {w : World} {base n c : Nat} {e : TypeId} {A : Option Addr} {xs : List Value} (h : w.ownsRow base e 1 (.slice A n c) n xs) : n ≤ c ∧ c ≤ 9223372036854775807 := by
  obtain ⟨A', c', hv, h1, h2, _⟩ := own_shape h
  injection hv with _ _ h3
  subst h3
  exact ⟨h1, h2⟩
theorem by_copy {T : List Nat} (h : By T) (d : Nat) : ∀ k, By (copyN T d k)
  | 0 => h
  | k + 1 => by
    have ih := by_copy h d k
    rw [copyN, addOne]
    refine By.append ih ?_
    intro b hb
    rw [List.mem_singleton] at hb
    subst hb
    rw [List.getD_eq_getElem?_getD]
    cases e : (copyN T d k)[(copyN T d k).length - d]? with
    | none => simp
    | some x => simp only [Option.getD_some]; exact ih x (List.mem_of_getElem? e)
theorem by_exp0 : ∀ {ts : List Tk} {T Z : List Nat}, exp T ts = (Z, 0) → By T → (∀ t ∈ ts, By t.lit) → By Z
  | [], T, Z, h, hT, _ => by simp only [exp, Prod.mk.injEq, and_true] at h; subst h; exact hT
  | t :: r, T, Z, h, hT, hl => by
    unfold exp at h
    split at h
    · split at h
      · simp at h
      · refine by_exp0 h ?_ (fun x hx => hl x (List.mem_cons_of_mem _ hx))
        unfold addTk
        exact by_copy (By.append hT (hl t (List.mem_cons_self ..))) _ _
    · simp at h
theorem by_exp {ts : List Tk} {T : List Nat} (h : exp [] ts = (T, 0)) (hl : ∀ t ∈ ts, By t.lit) : By T := by_exp0 h (fun b hb => by cases hb) hl
theorem by_bt {t : Tk} (h : By t.lit) : By (bt t) := by
  unfold bt
  split
  · exact By.append (Uv.uv_lt _) h
  · exact By.append (Uv.uv_lt _) (Uv.uv_lt _)
theorem by_flat {ts : List Tk} (h : ∀ t ∈ ts, By t.lit) : By (ts.flatMap bt) := by
  intro b hb
  obtain ⟨t, ht, hb⟩ := List.mem_flatMap.1 hb
  exact by_bt (h t ht) b hb
theorem by_flush {lit : List Nat} (h : By lit) : ∀ t ∈ flush lit, By t.lit := by
  unfold flush
  split
  · intro t ht; cases ht
  · intro t ht; rw [List.mem_singleton] at ht; subst ht; exact h
theorem by_tok {t : List Nat} (h : By t) : ∀ f i lit, By lit → ∀ x ∈ tok t f i lit, By x.lit
  | 0, i, lit, hl => by_flush hl
  | f + 1, i, lit, hl => by
    unfold tok
    split
    · rename_i hi
      split
      · refine by_tok h f _ _ (By.append hl ?_)
        intro b hb
        rw [List.mem_singleton] at hb
        subst hb
        rw [List.getD_eq_getElem?_getD, List.getElem?_eq_getElem hi]
        exact h _ (List.getElem_mem hi)
      · intro x hx
        rcases List.mem_append.1 hx with hx | hx
        · exact by_flush hl x hx
        · rcases List.mem_cons.1 hx with rfl | hx
          · intro b hb; cases hb
          · exact by_tok h f _ _ (fun b hb => by cases hb) x hx
    · exact by_flush hl
theorem by_blk {T : List Nat} (h : By T) : By (blk T.length (tokens T)) := By.append (Uv.uv_lt _) (by_flat (by_tok h _ _ _ (fun b hb => by cases hb)))
theorem rdLoop_by (n : Nat) : ∀ (f : Nat) (s : Rs) (z : Nat) (ts : List Tk), s.Ok → (∀ t ∈ ts, By t.lit) → ∀ t ∈ (rdLoop n f s z ts).1, By t.lit
  | 0, s, z, ts, hs, h => by intro t ht; simp [rdLoop] at ht
  | f + 1, s, z, ts, hs, h => by
    unfold rdLoop
    split
    · split
      · exact h
      · intro t ht; simp at ht
    · split
      · intro t ht; simp at ht
      · split
        · split
          · intro t ht; simp at ht
          · refine rdLoop_by n f _ _ _ (rdTok_ok hs) ?_
            intro t ht
            rcases List.mem_append.1 ht with ht | ht
            · exact h t ht
            · rw [List.mem_singleton] at ht
              subst ht
              exact rdTok_by hs
        · intro t ht; simp at ht
theorem rd_by {b : List Nat} (hb : By b) {ts : List Tk} (h : rd b = (ts, 0)) (hl : b.length ≤ 140737488351232 := by omega) : ∀ t ∈ ts, By t.lit := by
  have h1 : ts = (rd b).1 := by rw [h]
  subst h1
  unfold rd
  split
  · intro t ht; simp at ht
  · exact rdLoop_by _ _ _ _ _ (ok0 hb hl).num.1 (fun t ht => by cases ht)

theorem run_str8 (w : World) (A : Option Addr) (n c : Nat) (bs : List Nat) (hr : Rd w A (b8 bs)) (hn : bs.length = n) (hby : By bs) : (convert 27 9 (.slice A n c)).run Tryz.prog w = .ok (.string (strOf bs)) w := by
  subst hn
  by_cases h0 : bs = []
  · subst h0
    rcases A with _ | g
    · rw [run_convert_bytes_string w 27 9 5 none _ c Tryz.underlying27 Tryz.underlying5 Tryz.underlying9]
      simp [Conv.bytesToString, strOf]
      rfl
    · exact run_convert_bytes_back w 27 9 5 g c [] Tryz.underlying27 Tryz.underlying5 Tryz.underlying9 (fun j hj => absurd hj (by simp))
  · obtain ⟨g, off, rfl, _, hc⟩ := hr (by simpa [b8] using h0)
    have hl : bs.length = (bs.map UInt8.ofNat).length := by simp
    rw [hl]
    refine run_convert_bytes_back w 27 9 5 ⟨g, off, none⟩ c (bs.map UInt8.ofNat) Tryz.underlying27 Tryz.underlying5 Tryz.underlying9 (fun j hj => ?_)
    rw [add_zero_off]
    have hj' : j < bs.length := by simpa using hj
    have := hc j (.int .u8 (bs[j] : Int)) (by rw [b8_get, List.getElem?_eq_getElem hj']; rfl)
    rw [this]
    have hb := hby _ (List.getElem_mem hj')
    simp only [List.getElem_map]
    rw [u8_nat hb]
theorem strOf_eq {xs ys : List Nat} (hx : By xs) (hy : By ys) : ((strOf xs).toList == (strOf ys).toList) = sameB xs ys := by
  unfold sameB
  rw [Bool.eq_iff_iff, beq_iff_eq, decide_eq_true_eq]
  constructor
  · intro h
    have h2 : (strOf xs).data.toList = (strOf ys).data.toList := by rw [← Lib.toList_data, ← Lib.toList_data, h]
    rw [← sb_strOf hx, ← sb_strOf hy]
    unfold sb
    rw [h2]
  · intro h
    rw [h]
set_option maxHeartbeats 400000 in
set_option maxRecDepth 100000 in
theorem bytes_equal_is (A B : Option Addr) (n m c d : Nat) (xs ys : List Nat) (w : World) (ha : Rd w A (b8 xs)) (hb : Rd w B (b8 ys)) (hn : xs.length = n) (hm : ys.length = m) (hx : By xs) (hy : By ys) :
    Calls Tryz.prog 112 #[.slice A n c, .slice B m d] w fun e w' => Looks w w' e (.bool (sameB xs ys)) := by
  have h1 := run_str8 w A n c xs ha hn hx
  have h2 := run_str8 w B m d ys hb hm hy
  have HE := Lib.hid (strOf_eq hx hy)
  obtain ⟨s, hs⟩ : ∃ s, s = strOf xs := ⟨_, rfl⟩
  obtain ⟨t, ht⟩ : ∃ t, t = strOf ys := ⟨_, rfl⟩
  rw [← hs, ← ht] at HE
  rw [← hs] at h1
  rw [← ht] at h2
  clear hs ht ha hb hn hm
  go_enter Tryz.func112, Tryz.ntmps112
  go_wp2
  go_ret
  exact ⟨by rw [← HE.out]; rfl, 0, rfl⟩

set_option maxHeartbeats 2000000 in
set_option maxRecDepth 100000 in
theorem decode_is (A : Option Addr) (n c : Nat) (bs : List Nat) (w : World) (hr : Rd w A (b8 bs)) (hn : bs.length = n) (hby : By bs) (hl : n ≤ 140737488351232) :
    Calls Tryz.prog 102 #[.slice A n c] w (Ans8 w (dec bs)) := by
  have PT := Lib.hid (read_is A n c bs w hr hn hby hl)
  have HR := Lib.hid hr
  have HN := Lib.hid hn
  have HY := Lib.hid hby
  rcases rd_code bs with hrd | ⟨ts, hrd⟩
  · have HE : Hid (dec bs = ([], 20)) := Lib.hid (dec_bad hrd)
    rw [hrd] at PT
    obtain ⟨q, hq⟩ : ∃ q, q = dec bs := ⟨_, rfl⟩
    rw [← hq] at HE ⊢
    clear hr hn hby hq hrd
    go_enter Tryz.func102, Tryz.ntmps102
    go_wp2_with fail
    refine PT.out.mono ?_
    rintro e w1 ⟨A1, c1, N1, l1, rfl, hq1, ht1, hb1⟩
    have HB1 := Lib.hid hb1
    clear hq1 ht1 hb1
    go_wp2_with fail
    go_ret2
    exact ans8_none _ _ _ _ HE.out HB1.out
  · obtain ⟨T, hx, hT4, hbs⟩ := wr_cases (wr_of_rd hby (by omega) hrd)
    have HTS := Lib.hid (dec_some hrd hx)
    have HX := Lib.hid hx
    have HC := Lib.hid (fine_count hx)
    have HTB : Hid (By T) := Lib.hid (by_exp hx (rd_by hby hrd))
    have HEN := Lib.hid (enc_short (t := T) (by omega))
    have HYB : Hid (By (blk T.length (tokens T))) := Lib.hid (by_blk HTB.out)
    have hYL : (blk T.length (tokens T)).length ≤ 100000000 := blk_len (by omega)
    rw [hrd] at PT
    obtain ⟨Y, hY⟩ : ∃ Y, Y = blk T.length (tokens T) := ⟨_, rfl⟩
    rw [← hY] at HTS HEN HYB hYL
    obtain ⟨q, hq⟩ : ∃ q, q = dec bs := ⟨_, rfl⟩
    rw [← hq] at HTS ⊢
    clear hr hn hby hq hrd hx hbs hY
    go_enter Tryz.func102, Tryz.ntmps102
    go_wp2_with fail
    refine PT.out.mono ?_
    rintro e w1 ⟨A1, c1, N1, l1, rfl, hq1, ht1, hb1⟩
    have HB1 := Lib.hid hb1
    have HT1 := Lib.hid ht1
    have HQ1 : Hid (toks l1 = ts) := Lib.hid hq1
    have hN1 : N1 ≤ 4096 := by have h := HC.out; rw [← HQ1.out, toks_len, HT1.out.len] at h; exact h
    have hs1 := hb1.size
    clear hq1 ht1 hb1 PT
    have P2 := Lib.hid (expand_is A1 N1 c1 l1 w1 HT1.out.rd HT1.out.len HT1.out.ok (by omega))
    rw [HQ1.out, HX.out] at P2
    go_wp2_with fail
    refine P2.out.mono ?_
    rintro e w3 ⟨A3, c3, rfl, ho3, hb3⟩
    simp only at ho3
    have HO3 := Lib.hid ho3
    have HB3 := Lib.hid (HB1.out.trans (hb3.mono hs1))
    obtain ⟨hnc, hcm⟩ := own_cap ho3
    have hs3 := HB3.out.size
    clear ho3 hb3 P2
    have P4 := Lib.hid (encode_is A3 T.length c3 T w3 (rd_own HO3.out) rfl HTB.out (by omega) hnc)
    rw [HEN.out] at P4
    go_wp2_with fail
    refine P4.out.mono ?_
    rintro e w4 ⟨A4, c4, rfl, ho4, hb4⟩
    simp only at ho4
    have HO4 := Lib.hid ho4
    have HB4 := Lib.hid (HB3.out.trans (hb4.mono hs3))
    have HO34 := Lib.hid (own_below HO3.out hb4)
    clear ho4 hb4 P4
    have P5 := Lib.hid (bytes_equal_is A4 A Y.length n c4 c Y bs w4 (rd_own HO4.out) (HR.out.below HB4.out) rfl HN.out HYB.out HY.out)
    by_cases hyb : Y = bs
    · have HE : Hid (q = (T, 0)) := Lib.hid (by rw [HTS.out, if_pos hyb])
      rw [show sameB Y bs = true from by simp [sameB, hyb]] at P5
      clear hyb
      go_wp2_with fail
      refine P5.out.mono ?_
      rintro e w5 ⟨rfl, d5, rfl⟩
      go_wp2_with fail
      go_ret2
      exact ans8_some _ _ _ T _ _ _ HE.out rfl (own_below (own_mono HO34.out (by omega)) (below_drewN (Below.refl _ _) d5)) (below_drewN HB4.out d5)
    · have HE : Hid (q = ([], 20)) := Lib.hid (by rw [HTS.out, if_neg hyb])
      rw [show sameB Y bs = false from by simp [sameB, hyb]] at P5
      clear hyb
      go_wp2_with fail
      refine P5.out.mono ?_
      rintro e w5 ⟨rfl, d5, rfl⟩
      go_wp2_with fail
      go_ret2
      exact ans8_none _ _ _ _ HE.out (below_drewN HB4.out d5)

set_option maxHeartbeats 2000000 in
set_option maxRecDepth 100000 in
theorem rdecode_is (A : Option Addr) (n c : Nat) (bs : List Nat) (w : World) (hr : Rd w A (b8 bs)) (hn : bs.length = n) (hby : By bs) (hl : n ≤ 3000000000000) :
    Calls Tryz.prog 104 #[.slice A n c] w (Ans8 w (dec bs)) := by
  have PT := Lib.hid (rread_is A n c bs w hr hn hby hl)
  have HR := Lib.hid hr
  have HN := Lib.hid hn
  have HY := Lib.hid hby
  rcases rd_code bs with hrd | ⟨ts, hrd⟩
  · have HE : Hid (dec bs = ([], 20)) := Lib.hid (dec_bad hrd)
    rw [hrd] at PT
    obtain ⟨q, hq⟩ : ∃ q, q = dec bs := ⟨_, rfl⟩
    rw [← hq] at HE ⊢
    clear hr hn hby hq hrd
    go_enter Tryz.func104, Tryz.ntmps104
    go_wp2_with fail
    refine PT.out.mono ?_
    rintro e w1 ⟨A1, c1, N1, l1, rfl, hq1, ht1, hb1⟩
    have HB1 := Lib.hid hb1
    clear hq1 ht1 hb1
    go_wp2_with fail
    go_ret2
    exact ans8_none _ _ _ _ HE.out HB1.out
  · obtain ⟨T, hx, hT4, hbs⟩ := wr_cases (wr_of_rd hby (by omega) hrd)
    have HTS := Lib.hid (dec_some hrd hx)
    have HX := Lib.hid hx
    have HC := Lib.hid (fine_count hx)
    have HTB : Hid (By T) := Lib.hid (by_exp hx (rd_by hby hrd))
    have HEN := Lib.hid (enc_short (t := T) (by omega))
    have HYB : Hid (By (blk T.length (tokens T))) := Lib.hid (by_blk HTB.out)
    have hYL : (blk T.length (tokens T)).length ≤ 100000000 := blk_len (by omega)
    rw [hrd] at PT
    obtain ⟨Y, hY⟩ : ∃ Y, Y = blk T.length (tokens T) := ⟨_, rfl⟩
    rw [← hY] at HTS HEN HYB hYL
    obtain ⟨q, hq⟩ : ∃ q, q = dec bs := ⟨_, rfl⟩
    rw [← hq] at HTS ⊢
    clear hr hn hby hq hrd hx hbs hY
    go_enter Tryz.func104, Tryz.ntmps104
    go_wp2_with fail
    refine PT.out.mono ?_
    rintro e w1 ⟨A1, c1, N1, l1, rfl, hq1, ht1, hb1⟩
    have HB1 := Lib.hid hb1
    have HT1 := Lib.hid ht1
    have HQ1 : Hid (toks l1 = ts) := Lib.hid hq1
    have hN1 : N1 ≤ 4096 := by have h := HC.out; rw [← HQ1.out, toks_len, HT1.out.len] at h; exact h
    have hs1 := hb1.size
    clear hq1 ht1 hb1 PT
    have P2 := Lib.hid (rexpand_is A1 N1 c1 l1 w1 HT1.out.rd HT1.out.len HT1.out.ok (by omega))
    rw [HQ1.out, HX.out] at P2
    go_wp2_with fail
    refine P2.out.mono ?_
    rintro e w3 ⟨A3, c3, rfl, ho3, hb3⟩
    simp only at ho3
    have HO3 := Lib.hid ho3
    have HB3 := Lib.hid (HB1.out.trans (hb3.mono hs1))
    obtain ⟨hnc, hcm⟩ := own_cap ho3
    have hs3 := HB3.out.size
    clear ho3 hb3 P2
    have P4 := Lib.hid (rencode_is A3 T.length c3 T w3 (rd_own HO3.out) rfl HTB.out (by omega))
    rw [HEN.out] at P4
    go_wp2_with fail
    refine P4.out.mono ?_
    rintro e w4 ⟨A4, c4, rfl, ho4, hb4⟩
    simp only at ho4
    have HO4 := Lib.hid ho4
    have HB4 := Lib.hid (HB3.out.trans (hb4.mono hs3))
    have HO34 := Lib.hid (own_below HO3.out hb4)
    clear ho4 hb4 P4
    have P5 := Lib.hid (rsame_any A4 A Y.length n c4 c Y bs w4 (rd_own HO4.out) (HR.out.below HB4.out) rfl HN.out (by omega) (by omega))
    by_cases hyb : Y = bs
    · have HE : Hid (q = (T, 0)) := Lib.hid (by rw [HTS.out, if_pos hyb])
      rw [show sameB Y bs = true from by simp [sameB, hyb]] at P5
      clear hyb
      go_wp2_with fail
      refine P5.out.mono ?_
      rintro e w5 ⟨rfl, d5, rfl⟩
      go_wp2_with fail
      go_ret2
      exact ans8_some _ _ _ T _ _ _ HE.out rfl (own_below (own_mono HO34.out (by omega)) (below_drewN (Below.refl _ _) d5)) (below_drewN HB4.out d5)
    · have HE : Hid (q = ([], 20)) := Lib.hid (by rw [HTS.out, if_neg hyb])
      rw [show sameB Y bs = false from by simp [sameB, hyb]] at P5
      clear hyb
      go_wp2_with fail
      refine P5.out.mono ?_
      rintro e w5 ⟨rfl, d5, rfl⟩
      go_wp2_with fail
      go_ret2
      exact ans8_none _ _ _ _ HE.out (below_drewN HB4.out d5)
end Go.Proofs.YtljfmcgeiceagaaGreat

/- What is squeezed comes back, and how long it is at most: in plain words. -/
namespace Go.Proofs.YtljfmcgeiceagaaGreat
open Go Go.RowKit
set_option linter.unusedVariables false
set_option linter.unusedSimpArgs false

theorem wr_tokens {t : List Nat} (h : t.length ≤ 4096) : wr (tokens t) = (blk t.length (tokens t), 0) := wr_ok (exp_tokens h)
theorem rd_enc {t : List Nat} (hb : By t) (h : t.length ≤ 4096) : rd (blk t.length (tokens t)) = (tokens t, 0) :=
  rd_of_wr (by_blk hb) (by have := blk_len (t := t) (by omega); omega) (wr_tokens h)
theorem dec_enc {t : List Nat} (hb : By t) (h : t.length ≤ 4096) : dec (blk t.length (tokens t)) = (t, 0) := by
  rw [dec_some (rd_enc hb h) (exp_tokens h), if_pos rfl]
theorem dec_cases {b : List Nat} (hb : By b) (hl : b.length ≤ 140737488351232) : dec b = ([], 20) ∨ ∃ t, dec b = (t, 0) ∧ enc t = (b, 0) ∧ t.length ≤ 4096 ∧ By t := by
  rcases rd_code b with h | ⟨ts, h⟩
  · exact .inl (dec_bad h)
  · obtain ⟨T, hx, hT4, hbs⟩ := wr_cases (wr_of_rd hb hl h)
    rw [dec_some h hx]
    by_cases hy : blk T.length (tokens T) = b
    · rw [if_pos hy]
      exact .inr ⟨T, rfl, by rw [enc_short (by omega), hy], hT4, by_exp hx (rd_by hb h hl)⟩
    · rw [if_neg hy]
      exact .inl rfl
/-- Literals, matches, and the bytes that they add up to. -/
def nl (ts : List Tk) : Nat := (ts.filter (fun t => decide (0 < t.lit.length))).length
end Go.Proofs.YtljfmcgeiceagaaGreat
