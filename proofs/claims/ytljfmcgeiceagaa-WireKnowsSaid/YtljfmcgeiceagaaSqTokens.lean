/- Tokens, the program's. -/
import Derived.Test.YtljfmcgeiceagaaSqMatch
import Derived.Test.YtljfmcgeiceagaaSqLit
namespace Go.Proofs.Ytljfmcgeiceagaa
open Go Go.RowKit
set_option linter.unusedVariables false
set_option linter.unusedSimpArgs false

/-- A text's own tokens, or that it is too long. -/
def tks (t : List Nat) : List Tk × Int := if 4096 < t.length then ([], 2) else (tokens t, 0)
theorem tks_long {t : List Nat} (h : 4096 < t.length) : tks t = ([], 2) := if_pos h
theorem tks_short {t : List Nat} (h : ¬ 4096 < t.length) : tks t = (tokens t, 0) := if_neg h
theorem tks_len {t : List Nat} (hb : By t) (hl : t.length ≤ 140737488351232) : (tks t).1.length ≤ 100000000 := by
  unfold tks
  split
  · simp
  · have := fine_count (exp_tokens (t := t) (by omega))
    simp only
    omega

theorem rd_sub {W : World} {ga off b : Nat} {bs : List Nat} (h : Rd W (some ⟨ga, off, none⟩) (b8 bs)) (i : Nat) : Rd W (some ⟨ga, off + b, none⟩) (b8 ((bs.take i).drop b)) := by
  intro hne
  have hl : b8 bs ≠ [] := by
    intro e
    have : bs = [] := by simpa [b8] using e
    subst this
    simp [b8] at hne
  obtain ⟨g', off', e, hg, hc⟩ := h hl
  simp only [Option.some.injEq, Addr.mk.injEq, and_true] at e
  obtain ⟨rfl, rfl⟩ := e
  refine ⟨ga, off + b, rfl, hg, fun k u hu => ?_⟩
  rw [Nat.add_assoc]
  apply hc
  rw [b8_get, List.getElem?_drop, List.getElem?_take] at hu
  rw [b8_get]
  split at hu
  · exact hu
  · cases hu

/-- A finder that has passed m places, and tokens behind it. -/
structure TF (w0 W : World) (g : Nat) (A : Option Addr) (n c : Nat) (t : List Nat) (m : Nat) (v : Value) (N : Nat) (l : List TkV) : Prop where
  f : Fnd W g A n c t m
  ts : Ts W (g + 1) v N l
  bel : Below g w0 W
section
variable {w0 W W' : World} {g : Nat} {A : Option Addr} {n c : Nat} {t : List Nat} {m : Nat} {v v' : Value} {N : Nat} {l : List TkV}
theorem TF.below (h : TF w0 W g A n c t m v N l) (hb : Below W.heap.size W W') : TF w0 W' g A n c t m v N l := ⟨h.f.below hb, h.ts.below hb, h.bel.trans (hb.mono (Nat.le_of_lt h.f.lt))⟩
theorem TF.passed (h : TF w0 W g A n c t m v N l) {m' : Nat} (hf : Fnd W' g A n c t m') (hk : KeptS W W' (fun q => q = g)) : TF w0 W' g A n c t m' v N l := by
  refine ⟨hf, h.ts.keptS hk (fun q hq e => ?_) (fun x hx a ha e => ?_), h.bel.trans (hk.below (fun q hq => by omega) (Nat.le_of_lt h.f.lt))⟩
  · have := (h.ts.row.lt q hq).1; omega
  · have := ((h.ts.lit x hx).lt ha).1; omega
theorem TF.bounds (h : TF w0 W g A n c t m v N l) : (∀ x ∈ l, ∀ a : Addr, x.A = some a → a.block < W.heap.size) ∧ ∀ q, v.ownBlock = some q → q < W.heap.size := ⟨fun x hx a ha => ((h.ts.lit x hx).lt ha).2, fun q hq => (h.ts.row.lt q hq).2⟩
theorem TF.push (h : TF w0 W g A n c t m v N l) {y : TkV} {bb : Nat} (hb : (∀ x ∈ l, ∀ a : Addr, x.A = some a → a.block < bb) ∧ ∀ q, v.ownBlock = some q → q < bb) (hy : OwnTk W bb y) (hB : g + 1 ≤ bb) (hpl : PlTk y)
    (hrow : W'.ownsRow (g + 1) 122 3 v' (N + 1) (tkCells (l ++ [y]))) (hg : W.grownBy W' v.ownBlock) (hn : v'.ownBlock = v.ownBlock ∨ ∃ k, v'.ownBlock = some k ∧ W.heap.size ≤ k) : TF w0 W' g A n c t m v' (N + 1) (l ++ [y]) := by
  have hv : ∀ q, v.ownBlock = some q → g + 1 ≤ q := fun q hq => (h.ts.row.lt q hq).1
  refine ⟨?_, h.ts.push hb.1 hb.2 hy hB hpl hrow hg hn, h.bel.trans (below_of_grown hg (Nat.le_of_lt h.f.lt) (fun k hk => by have := hv k hk; omega))⟩
  exact (hg.block g h.f.lt (fun e => by have := hv g e.symm; omega)).trans h.f
end

theorem tok_step {bs : List Nat} {f i b n : Nat} (hn : bs.length = n) (hi : i < n) (hb : b ≤ i) (h0 : (best bs i).1 = 0) : tok bs (f + 1) i ((bs.take i).drop b) = tok bs f (i + 1) ((bs.take (i + 1)).drop b) := by
  rw [tok_lit (by omega) h0, List.take_succ_eq_append_getElem (by omega), List.drop_append_of_le_length (by rw [List.length_take]; omega), List.getD_eq_getElem?_getD, List.getElem?_eq_getElem (by omega)]
  rfl
theorem lit_len {bs : List Nat} {i b n : Nat} (hn : bs.length = n) (hi : i ≤ n) (hb : b ≤ i) : ((bs.take i).drop b).length = i - b := by rw [List.length_drop, List.length_take]; omega
theorem flush_one {lit : List Nat} (h : 0 < lit.length) : flush lit = [⟨lit, 0, 0⟩] := by unfold flush; rw [if_neg (by intro e; rw [e] at h; simp at h)]
theorem flush_none {lit : List Nat} (h : lit.length = 0) : flush lit = [] := by unfold flush; rw [if_pos (List.eq_nil_of_length_eq_zero h)]
theorem drop_all {bs : List Nat} {i : Nat} : (bs.take i).drop i = [] := by apply List.drop_eq_nil_of_le; rw [List.length_take]; omega

set_option maxHeartbeats 4000000 in
set_option maxRecDepth 100000 in
theorem tokens_is (A : Option Addr) (n c : Nat) (bs : List Nat) (w : World) (hr : Rd w A (b8 bs)) (hn : bs.length = n) (hby : By bs) (hl : n ≤ 140737488351232) (hc : n ≤ c) :
    Calls Try.prog 104 #[.slice A n c] w (AnsT w (tks bs)) := by
  have HN := Lib.hid hn
  by_cases hlong : 4096 < n
  · have HE : Hid (tks bs = ([], 2)) := Lib.hid (tks_long (by rw [hn]; exact hlong))
    obtain ⟨q, hq⟩ : ∃ q, q = tks bs := ⟨_, rfl⟩
    rw [← hq] at HE ⊢
    clear hr hn hby hq
    go_enter Try.func104, Try.ntmps104
    go_wp2_with fail
    go_ret2
    exact ansT_none _ _ _ _ HE.out (Below.refl _ _)
  · have HQ : Hid (tks bs = (tokens bs, 0)) := Lib.hid (tks_short (by rw [hn]; exact hlong))
    have HQ0 : Hid (tokens bs = toks [] ++ tok bs n 0 ((bs.take 0).drop 0)) := Lib.hid (by unfold tokens; rw [hn]; rfl)
    obtain ⟨q, hq⟩ : ∃ q, q = tks bs := ⟨_, rfl⟩
    obtain ⟨T, hT⟩ : ∃ T, T = tokens bs := ⟨_, rfl⟩
    rw [← hq, ← hT] at HQ
    rw [← hT] at HQ0
    rw [← hq]
    have hn4 : n ≤ 4096 := by omega
    have HR := Lib.hid hr
    have HY := Lib.hid hby
    have hbu := fun W => run_buildF A n c W
    have hbx := fun W => run_boxF (.slice A n c) W
    have HF0 : Hid (TF w (w.alloc (.cells (fz (.slice A n c)) 132)) w.heap.size A n c bs 0 (.slice none 0 0) 0 []) := Lib.hid ⟨Fnd.new w A n c bs, Ts.nil _ _, (Below.refl _ _).alloc (Nat.le_refl _) _⟩
    have PM : Hid (∀ W i v N l, TF w W w.heap.size A n c bs i v N l → i < n → Calls Try.prog 109 #[.pointer (some ⟨w.heap.size, 0, none⟩), .int .i64 (i : Int)] W fun e w' => e = .returned (.agg #[.slice none 0 0, .int .i64 (((best bs i).2 : Nat) : Int), .int .i64 (((best bs i).1 : Nat) : Int)]) ∧ Below W.heap.size W w') :=
      Lib.hid (fun W i v N l h hi => match_is w.heap.size A n c i bs W h.f (hr.below h.bel) hn hby hn4 hc hi)
    have PP : Hid (∀ W i v N l, TF w W w.heap.size A n c bs i v N l → i < n → Calls Try.prog 110 #[.pointer (some ⟨w.heap.size, 0, none⟩), .int .i64 (i : Int)] W fun e w' => e = .returned (.tuple #[]) ∧ TF w w' w.heap.size A n c bs (i + 1) v N l ∧ w'.heap.size = W.heap.size) :=
      Lib.hid (fun W i v N l h hi => (passes_is w.heap.size A n c i bs W h.f (hr.below h.bel) hn hby hn4 hc hi).mono (fun e w' h' => ⟨h'.1, h.passed h'.2.1 h'.2.2.1, h'.2.2.2⟩))
    obtain ⟨g, hg⟩ : ∃ g, g = w.heap.size := ⟨_, rfl⟩
    have HG := Lib.hid hg
    clear hr hn hby hq hT hlong
    go_enter Try.func104, Try.ntmps104
    go_wp2_with fail
    rw [← hg] at HF0 PM PP ⊢
    clear hbu hbx hg
    go_loopw [5, 6, 7, 8, 47] (fun v u6 u7 u8 u47 wr => ∃ (N b i f : Nat) (l : List TkV), u6 = .int .i64 b ∧ u7 = .int .i64 i ∧ b ≤ i ∧ i ≤ n ∧ N ≤ i ∧ n ≤ i + f ∧ Hid (T = toks l ++ tok bs f i ((bs.take i).drop b)) ∧ Hid (TF w wr g A n c bs i v N l)) (fun _ _ u7 _ _ _ => n - (intOf u7).toNat)
    case atStart => exact ⟨0, 0, 0, n, [], rfl, rfl, Nat.le_refl _, Nat.zero_le _, Nat.le_refl _, by omega, HQ0, HF0⟩
    case round =>
      clear HQ0 HF0
      obtain ⟨N, b, i, f, l, rfl, rfl, hb, hi, hN, hf, HT, HX⟩ := hrel
      obtain ⟨A9, c9, rfl, _⟩ := own_shape HX.out.ts.row
      by_cases hlt : i < n
      · obtain ⟨f, rfl⟩ : ∃ f', f = f' + 1 := ⟨f - 1, by omega⟩
        have P1 := Lib.hid (PM.out wr i _ N l HX.out hlt)
        have HBI := Lib.hid (best_is bs i (by rw [HN.out]; omega))
        obtain ⟨⟨L, D⟩, hbe⟩ : ∃ p, p = best bs i := ⟨_, rfl⟩
        have HBE := Lib.hid hbe.symm
        rw [← hbe] at P1
        simp only at P1
        clear hbe
        go_wp2_with fail
        refine P1.out.mono ?_
        rintro e w2 ⟨rfl, hb2⟩
        have HX2 := Lib.hid (HX.out.below hb2)
        by_cases h0 : L = 0
        · have HB3 : Hid (TF w (w2.alloc (.cells #[.slice none 0 0, .int .i64 (D : Int), .int .i64 0] 122)) g A n c bs i (.slice A9 N c9) N l) := Lib.hid (HX2.out.below ((Below.refl _ _).alloc (Nat.le_refl _) _))
          have HST : Hid (toks l ++ tok bs (f + 1) i ((bs.take i).drop b) = toks l ++ tok bs f (i + 1) ((bs.take (i + 1)).drop b)) := Lib.hid (by rw [tok_step HN.out hlt hb (by rw [HBE.out]; exact h0)])
          subst h0
          clear hb2 P1 HX HX2
          go_wp2_with fail
          refine (PP.out _ i _ N l HB3.out hlt).mono ?_
          rintro e w3 ⟨rfl, hx3, hs3⟩
          have HX3 := Lib.hid hx3
          clear hx3 hs3 HB3
          go_wp2_with fail
          go_roundw
          case rel => exact ⟨N, b, i + 1, f, l, rfl, by go_num, by omega, by omega, by omega, by omega, Lib.hid (HT.out.trans HST.out), HX3⟩
          case measure => simp [intOf]; omega
        · have hbx : 5 ≤ L ∧ L ≤ 258 ∧ 1 ≤ D ∧ D ≤ 2048 ∧ i + L ≤ n := by
            rcases HBI.out with h | ⟨n', d', h1, h2⟩
            · have h3 := h.1
              rw [HBE.out] at h3
              injection h3 with h3 _
              exact absurd h3 h0
            · rw [HBE.out] at h1
              injection h1 with h3 h4
              subst h3 h4
              rw [HN.out] at h2
              omega
          obtain ⟨hL5, hL258, hD1, hD2, hiL⟩ := hbx
          have HBT : Hid (Bt (w2.alloc (.cells #[.slice none 0 0, .int .i64 (D : Int), .int .i64 (L : Int)] 122)) w2.heap.size ⟨none, 0, [], (D : Int), (L : Int)⟩) := Lib.hid (Bt.new w2 ⟨none, 0, [], (D : Int), (L : Int)⟩)
          have HVB := Lib.hid HX2.out.bounds
          have HB3 : Hid (TF w (w2.alloc (.cells #[.slice none 0 0, .int .i64 (D : Int), .int .i64 (L : Int)] 122)) g A n c bs i (.slice A9 N c9) N l) := Lib.hid (HX2.out.below ((Below.refl _ _).alloc (Nat.le_refl _) _))
          have HPM : Hid (PlTk ⟨none, 0, [], (D : Int), (L : Int)⟩) := Lib.hid ⟨(fun b hb => by cases hb), by simp, by simp only; omega, by simp only; omega⟩
          have HTM : Hid (tok bs (f + 1) i ((bs.take i).drop b) = flush ((bs.take i).drop b) ++ ⟨[], (D : Int), (L : Int)⟩ :: tok bs f (i + L) []) := Lib.hid (by rw [tok_match (by rw [HN.out]; exact hlt) (by rw [HBE.out]; exact h0), HBE.out])
          have HDA : Hid ((bs.take (i + L)).drop (i + L) = []) := Lib.hid drop_all
          have hgs : g < w2.heap.size := HX2.out.f.lt
          have hne : ((L : Int) == 0) = false := by rw [beq_eq_false_iff_ne]; omega
          clear hb2 P1 HX HX2 HBI HBE h0
          by_cases hbi : b < i
          · have j0 : (0 : Int) ≤ (b : Int) := by omega
            have j1 : (b : Int) ≤ (i : Int) := by omega
            have j2 : (i : Int) ≤ (c : Int) := by omega
            have j3 : ¬ c = b := by omega
            obtain ⟨lit, hlit⟩ : ∃ lit, lit = (bs.take i).drop b := ⟨_, rfl⟩
            have hll : lit.length = i - b := by rw [hlit]; exact lit_len HN.out hi hb
            obtain ⟨x0, hx0⟩ : ∃ x, bs[b]? = some x := ⟨_, List.getElem?_eq_getElem (by rw [HN.out]; omega)⟩
            obtain ⟨ga, off, rfl, hga, _⟩ := HR.out.at_ hx0
            have HLB : Hid (By lit) := Lib.hid (by rw [hlit]; exact (HY.out.take i).drop b)
            have PL : Hid (∀ W, Below g w W → Calls Try.prog 111 #[.slice (some ⟨ga, off + b, none⟩) (i - b) (c - b)] W fun e w' => ∃ A' c', e = .returned (.agg #[.slice A' lit.length c', .int .i64 0, .int .i64 0]) ∧ w'.ownsRow (W.heap.size + 1) 5 1 (.slice A' lit.length c') lit.length (b8 lit) ∧ Below W.heap.size W w') := Lib.hid (fun W hb => by
              have := literal_is (some ⟨ga, off + b, none⟩) lit.length (c - b) lit W (by rw [hlit]; exact rd_sub (HR.out.below (HG.out ▸ hb)) i) rfl (by omega)
              rw [hll] at this ⊢
              exact this)
            have HPL : Hid (∀ A' c', PlTk ⟨A', c', lit, 0, 0⟩) := Lib.hid (fun A' c' => ⟨HLB.out, by simp only; omega, by simp only; omega, by simp only; omega⟩)
            have HFL : Hid (flush lit = [⟨lit, 0, 0⟩]) := Lib.hid (flush_one (by omega))
            rw [← hlit] at HTM HT
            have HLL := Lib.hid hll
            clear hlit hx0 hga hll
            go_wp2_with fail
            refine (PL.out _ HB3.out.bel).mono ?_
            rintro e w3 ⟨A3, c3, rfl, ho3, hb3⟩
            have HX3 := Lib.hid (HB3.out.below hb3)
            have HBT3 := Lib.hid (HBT.out.below hb3 (by simp))
            have hs3 : w2.heap.size + 1 ≤ w3.heap.size := by have := hb3.size; simpa using this
            have HO3 : Hid (OwnTk w3 (w2.heap.size + 2) ⟨A3, c3, lit, 0, 0⟩) := Lib.hid (own_mono ho3 (by simp))
            have HV3 : Hid ((∀ x ∈ l, ∀ a : Addr, x.A = some a → a.block < w2.heap.size + 2) ∧ ∀ q, (Value.slice A9 N c9).ownBlock = some q → q < w2.heap.size + 2) := Lib.hid ⟨fun x hx a ha => by have := HVB.out.1 x hx a ha; omega, fun q hq => by have := HVB.out.2 q hq; omega⟩
            have HNE : Hid ((Value.slice A9 N c9).ownBlock ≠ some w2.heap.size) := Lib.hid (fun e => by have := HVB.out.2 _ e; omega)
            clear ho3 hb3 HB3 HBT
            go_wp2_with (first
              | (at_builtin; go_loud ((refine pushT w3 rfl (.tmp 33) (.tmp 39) (by rfl) (g + 1) (.slice A9 N c9) N l (by rfl) HX3.out.ts.row ⟨A3, c3, lit, 0, 0⟩ w3.heap.size (by rfl) (by rfl) (by omega) HX3.out.f.lt ?_); intro v5 w5 ho5 hg5 hn5; have HX5 := Lib.hid (HX3.out.push (bb := w2.heap.size + 2) HV3.out HO3.out (by omega) (HPL.out _ _) ho5 hg5 hn5); have HBT5 := Lib.hid (HBT3.out.grown hg5 HNE.out); have HNE5 : Hid (v5.ownBlock ≠ some w2.heap.size) := Lib.hid (by rcases hn5 with h | ⟨k, h, hk⟩; { rw [h]; exact HNE.out }; { rw [h]; intro e; injection e with e; omega }); obtain ⟨m0, m1, m2⟩ := HBT5.out.facts; simp only [List.length_nil] at m0 m1 m2; clear ho5 hg5 hn5))
              | (at_builtin; go_loud ((refine pushT w5 rfl (.tmp 41) (.tmp 43) (by rfl) (g + 1) v5 (N + 1) (l ++ [⟨A3, c3, lit, 0, 0⟩]) (by rfl) HX5.out.ts.row ⟨none, 0, [], (D : Int), (L : Int)⟩ w5.heap.size (by rfl) (by rfl) (by omega) HX5.out.f.lt ?_); intro v6 w6 ho6 hg6 hn6; have HX6 := Lib.hid (HX5.out.push (y := ⟨none, 0, [], (D : Int), (L : Int)⟩) (bb := w5.heap.size) HX5.out.bounds (World.ownsRow_nil _ _ _ _) HX5.out.f.lt HPM.out ho6 hg6 hn6); have HBT6 := Lib.hid (HBT5.out.grown hg6 HNE5.out); obtain ⟨q0, q1, q2⟩ := HBT6.out.facts; simp only [List.length_nil] at q0 q1 q2; clear ho6 hg6 hn6)))
            have HT6 : Hid (T = toks ((l ++ [⟨A3, c3, lit, 0, 0⟩]) ++ [⟨none, 0, [], (D : Int), (L : Int)⟩]) ++ tok bs f (i + L) []) := Lib.hid (by
              have h := HT.out.trans (by rw [HTM.out])
              rw [HFL.out] at h
              rw [h]
              simp [toks, TkV.tk])
            clear q0 q1 q2
            obtain ⟨wo, hwo⟩ : ∃ wo : World, wo = w6 := ⟨_, rfl⟩
            go_loopw [7, 47] (fun u7 u47 wi => ∃ (j p : Nat), j ≤ L ∧ u47 = .int .i64 j ∧ u7 = .int .i64 p ∧ Hid (p = i + j) ∧ p ≤ n ∧ Hid (TF w wi g (some ⟨ga, off, none⟩) n c bs p v6 (N + 1 + 1) ((l ++ [⟨A3, c3, lit, 0, 0⟩]) ++ [⟨none, 0, [], (D : Int), (L : Int)⟩]))) (fun _ u47 _ => L - (intOf u47).toNat)
            case atStart => exact ⟨0, i, Nat.zero_le _, rfl, rfl, Lib.hid rfl, by omega, HX6⟩
            case round =>
              clear HX6 hwo
              obtain ⟨j, p, hj, rfl, rfl, HP, hp, HX7⟩ := hrel
              by_cases hjl : j < L
              · have hpn : p < n := by have := HP.out; omega
                go_wp2_with fail
                refine (PP.out _ p _ _ _ HX7.out hpn).mono ?_
                rintro e w8 ⟨rfl, hx8, hs8⟩
                have HX8 := Lib.hid hx8
                clear hx8 hs8 HX7
                go_wp2_with fail
                go_roundw
                case rel => exact ⟨j + 1, p + 1, by omega, by go_num, by go_num, Lib.hid (by have := HP.out; omega), by omega, HX8⟩
                case measure => simp [intOf]; omega
              · have hjL : j = L := by omega
                have hpe : p = i + L := by have := HP.out; omega
                have HT7 : Hid (T = toks ((l ++ [⟨A3, c3, lit, 0, 0⟩]) ++ [⟨none, 0, [], (D : Int), (L : Int)⟩]) ++ tok bs f p ((bs.take p).drop p)) := Lib.hid (by rw [drop_all, hpe]; exact HT6.out)
                have hnn : N + 1 + 1 ≤ p := by omega
                have hpf : n ≤ p + f := by omega
                have hip : i < p := by omega
                clear hpe HP
                go_wp2_with fail
                go_roundw
                case rel => exact ⟨N + 1 + 1, p, p, f, _, rfl, rfl, Nat.le_refl _, hp, hnn, hpf, HT7, HX7⟩
                case measure => simp [intOf]; omega
          · have hbe : b = i := by omega
            obtain ⟨x0, hx0⟩ : ∃ x, bs[i]? = some x := ⟨_, List.getElem?_eq_getElem (by rw [HN.out]; exact hlt)⟩
            obtain ⟨ga, off, rfl, hga, _⟩ := HR.out.at_ hx0
            have HFL : Hid (flush ((bs.take i).drop b) = []) := Lib.hid (flush_none (by rw [hbe, drop_all]; rfl))
            have HNE5 : Hid ((Value.slice A9 N c9).ownBlock ≠ some w2.heap.size) := Lib.hid (fun e => by have := HVB.out.2 _ e; omega)
            obtain ⟨m0, m1, m2⟩ := HBT.out.facts
            simp only [List.length_nil] at m0 m1 m2
            clear hx0 hga hbe
            go_wp2_with (first
              | (at_builtin; go_loud ((refine pushT (w2.alloc (.cells #[.slice none 0 0, .int .i64 (D : Int), .int .i64 (L : Int)] 122)) rfl (.tmp 41) (.tmp 43) (by rfl) (g + 1) (.slice A9 N c9) (N) (l) (by rfl) HB3.out.ts.row ⟨none, 0, [], (D : Int), (L : Int)⟩ (w2.heap.size + 1) (by simp) (by rfl) (by omega) HB3.out.f.lt ?_); intro v6 w6 ho6 hg6 hn6; have HX6 := Lib.hid (HB3.out.push (y := ⟨none, 0, [], (D : Int), (L : Int)⟩) (bb := (w2.alloc (.cells #[.slice none 0 0, .int .i64 (D : Int), .int .i64 (L : Int)] 122)).heap.size) HB3.out.bounds (World.ownsRow_nil _ _ _ _) HB3.out.f.lt HPM.out ho6 hg6 hn6); have HBT6 := Lib.hid (HBT.out.grown hg6 HNE5.out); obtain ⟨q0, q1, q2⟩ := HBT6.out.facts; simp only [List.length_nil] at q0 q1 q2; clear ho6 hg6 hn6)))
            have HT6 : Hid (T = toks ((l) ++ [⟨none, 0, [], (D : Int), (L : Int)⟩]) ++ tok bs f (i + L) []) := Lib.hid (by
              have h := HT.out.trans (by rw [HTM.out])
              rw [HFL.out] at h
              rw [h]
              simp [toks, TkV.tk])
            clear q0 q1 q2
            obtain ⟨wo, hwo⟩ : ∃ wo : World, wo = w6 := ⟨_, rfl⟩
            go_loopw [7, 47] (fun u7 u47 wi => ∃ (j p : Nat), j ≤ L ∧ u47 = .int .i64 j ∧ u7 = .int .i64 p ∧ Hid (p = i + j) ∧ p ≤ n ∧ Hid (TF w wi g (some ⟨ga, off, none⟩) n c bs p v6 (N + 1) ((l) ++ [⟨none, 0, [], (D : Int), (L : Int)⟩]))) (fun _ u47 _ => L - (intOf u47).toNat)
            case atStart => exact ⟨0, i, Nat.zero_le _, rfl, rfl, Lib.hid rfl, by omega, HX6⟩
            case round =>
              clear HX6 hwo
              obtain ⟨j, p, hj, rfl, rfl, HP, hp, HX7⟩ := hrel
              by_cases hjl : j < L
              · have hpn : p < n := by have := HP.out; omega
                go_wp2_with fail
                refine (PP.out _ p _ _ _ HX7.out hpn).mono ?_
                rintro e w8 ⟨rfl, hx8, hs8⟩
                have HX8 := Lib.hid hx8
                clear hx8 hs8 HX7
                go_wp2_with fail
                go_roundw
                case rel => exact ⟨j + 1, p + 1, by omega, by go_num, by go_num, Lib.hid (by have := HP.out; omega), by omega, HX8⟩
                case measure => simp [intOf]; omega
              · have hjL : j = L := by omega
                have hpe : p = i + L := by have := HP.out; omega
                have HT7 : Hid (T = toks ((l) ++ [⟨none, 0, [], (D : Int), (L : Int)⟩]) ++ tok bs f p ((bs.take p).drop p)) := Lib.hid (by rw [drop_all, hpe]; exact HT6.out)
                have hnn : N + 1 ≤ p := by omega
                have hpf : n ≤ p + f := by omega
                have hip : i < p := by omega
                clear hpe HP
                go_wp2_with fail
                go_roundw
                case rel => exact ⟨N + 1, p, p, f, _, rfl, rfl, Nat.le_refl _, hp, hnn, hpf, HT7, HX7⟩
                case measure => simp [intOf]; omega
      · have hie : i = n := by omega
        subst hie
        have HTE : Hid (T = toks l ++ flush ((bs.take i).drop b)) := Lib.hid (by have h := HT.out; rw [tok_end (by rw [HN.out]; exact Nat.le_refl _)] at h; exact h)
        by_cases hbi : b < i
        · have j0 : (0 : Int) ≤ (b : Int) := by omega
          have j1 : (b : Int) ≤ (i : Int) := by omega
          have j2 : (i : Int) ≤ (c : Int) := by omega
          have j3 : ¬ c = b := by omega
          obtain ⟨lit, hlit⟩ : ∃ lit, lit = (bs.take i).drop b := ⟨_, rfl⟩
          have hll : lit.length = i - b := by rw [hlit]; exact lit_len HN.out (Nat.le_refl _) hb
          obtain ⟨x0, hx0⟩ : ∃ x, bs[b]? = some x := ⟨_, List.getElem?_eq_getElem (by rw [HN.out]; omega)⟩
          obtain ⟨ga, off, rfl, hga, _⟩ := HR.out.at_ hx0
          have HLB : Hid (By lit) := Lib.hid (by rw [hlit]; exact (HY.out.take i).drop b)
          have PL : Hid (∀ W, Below g w W → Calls Try.prog 111 #[.slice (some ⟨ga, off + b, none⟩) (i - b) (c - b)] W fun e w' => ∃ A' c', e = .returned (.agg #[.slice A' lit.length c', .int .i64 0, .int .i64 0]) ∧ w'.ownsRow (W.heap.size + 1) 5 1 (.slice A' lit.length c') lit.length (b8 lit) ∧ Below W.heap.size W w') := Lib.hid (fun W hb => by
            have := literal_is (some ⟨ga, off + b, none⟩) lit.length (c - b) lit W (by rw [hlit]; exact rd_sub (HR.out.below (HG.out ▸ hb)) i) rfl (by omega)
            rw [hll] at this ⊢
            exact this)
          have HPL : Hid (∀ A' c', PlTk ⟨A', c', lit, 0, 0⟩) := Lib.hid (fun A' c' => ⟨HLB.out, by simp only; omega, by simp only; omega, by simp only; omega⟩)
          have HFL : Hid (flush lit = [⟨lit, 0, 0⟩]) := Lib.hid (flush_one (by omega))
          have HTF : Hid (∀ A' c', q = (toks (l ++ [⟨A', c', lit, 0, 0⟩]), 0)) := Lib.hid (fun A' c' => by rw [HQ.out, HTE.out, ← hlit, HFL.out]; simp [toks, TkV.tk])
          have HLL := Lib.hid hll
          have HVB := Lib.hid HX.out.bounds
          clear hlit hx0 hga hll
          go_wp2_with fail
          refine (PL.out _ HX.out.bel).mono ?_
          rintro e w3 ⟨A3, c3, rfl, ho3, hb3⟩
          have HX3 := Lib.hid (HX.out.below hb3)
          have hs3 := hb3.size
          have HO3 : Hid (OwnTk w3 (wr.heap.size + 1) ⟨A3, c3, lit, 0, 0⟩) := Lib.hid ho3
          have HV3 : Hid ((∀ x ∈ l, ∀ a : Addr, x.A = some a → a.block < wr.heap.size + 1) ∧ ∀ q, (Value.slice A9 N c9).ownBlock = some q → q < wr.heap.size + 1) := Lib.hid ⟨fun x hx a ha => by have := HVB.out.1 x hx a ha; omega, fun q hq => by have := HVB.out.2 q hq; omega⟩
          have hgl : g < wr.heap.size := HX.out.f.lt
          clear ho3 hb3 HX
          go_wp2_with (at_builtin; go_loud ((refine pushT w3 rfl (.tmp 60) (.tmp 65) (by rfl) (g + 1) (.slice A9 N c9) N l (by rfl) HX3.out.ts.row ⟨A3, c3, lit, 0, 0⟩ w3.heap.size (by rfl) (by rfl) (by omega) HX3.out.f.lt ?_); intro v5 w5 ho5 hg5 hn5; have HX5 := Lib.hid (HX3.out.push (bb := wr.heap.size + 1) HV3.out HO3.out (by omega) (HPL.out _ _) ho5 hg5 hn5); clear ho5 hg5 hn5))
          obtain ⟨A6, c6, hv6, _⟩ := own_shape HX5.out.ts.row
          subst hv6
          go_ret2
          exact ansT_some _ _ _ A6 c6 (N + 1) _ _ (HTF.out _ _) (HX5.out.ts.mono (by rw [← HG.out]; omega)) (HG.out ▸ HX5.out.bel)
        · have HE : Hid (q = (toks l, 0)) := Lib.hid (by rw [HQ.out, HTE.out, show b = i by omega, drop_all]; simp [flush])
          go_wp2_with fail
          go_ret2
          exact ansT_some _ _ _ A9 c9 N _ _ HE.out (HX.out.ts.mono (by rw [← HG.out]; omega)) (HG.out ▸ HX.out.bel)
end Go.Proofs.Ytljfmcgeiceagaa
