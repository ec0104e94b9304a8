/- The finder's match: the longest at a place, the nearest of them. -/
import Derived.Test.YtljfmcgeiceagaaSqAlike
import Derived.Test.YtljfmcgeiceagaaSqAns
import Derived.Test.YtljfmcgeiceagaaSqRead
import Derived.WalkMore
namespace Go.Proofs.Ytljfmcgeiceagaa
open Go Go.RowKit
set_option linter.unusedVariables false
set_option linter.unusedSimpArgs false

theorem best_short {t : List Nat} {i : Nat} (hi : i ≤ t.length) (h : t.length < i + 5) : best t i = (0, 0) := best_none hi (fun d _ _ _ => by have := ml_len d hi; omega)
theorem best_of (t : List Nat) (i : Nat) {D : Nat} {q : Nat × Nat} (h : bs5 t i D = q) (h1 : bs5 t i (min i 2048) = bs5 t i D) : best t i = q := by rw [← bs5_best, h1, h]
theorem bs5_take {t : List Nat} {i D d : Nat} {q : Nat × Nat} (h : bs5 t i D = q) (hd : d = D + 1) (h5 : 5 ≤ ml t i d) (hq : q.1 < ml t i d) : bs5 t i d = (ml t i d, d) := by subst hd; rw [bs5, h, if_pos ⟨h5, hq⟩]
theorem bs5_pass {t : List Nat} {i D d : Nat} {q : Nat × Nat} (h : bs5 t i D = q) (hd : d = D + 1) (hn : ml t i d < 5 ∨ ml t i d ≤ q.1) : bs5 t i d = q := by subst hd; rw [bs5, h, if_neg (by omega)]

theorem Bt.set3 {W : World} {g : Nat} {x : TkV} (h : Bt W g x) (y : TkV) : Bt (((W.setCell ⟨g, 0, none⟩ (.slice y.A y.lit.length y.c)).setCell ⟨g, 1, none⟩ (.int .i64 y.d)).setCell ⟨g, 2, none⟩ (.int .i64 y.l)) g y := by
  have h1 := heap_setCell_same W g 0 _ _ (.slice y.A y.lit.length y.c) h
  have h2 := heap_setCell_same _ g 1 _ _ (.int .i64 y.d) h1
  exact heap_setCell_same _ g 2 _ _ (.int .i64 y.l) h2
theorem Below.set3 {B g : Nat} {w W : World} (h : Below B w W) (hg : B ≤ g) (u v x : Value) : Below B w (((W.setCell ⟨g, 0, none⟩ u).setCell ⟨g, 1, none⟩ v).setCell ⟨g, 2, none⟩ x) :=
  ((h.setCell (by exact hg) u).setCell (by exact hg) v).setCell (by exact hg) x
theorem Bt.other3 {W : World} {g b : Nat} {x : TkV} (h : Bt W b x) (hb : b ≠ g) (u v z : Value) : Bt (((W.setCell ⟨g, 0, none⟩ u).setCell ⟨g, 1, none⟩ v).setCell ⟨g, 2, none⟩ z) b x := by
  have h1 := (heap_setCell_other W ⟨g, 0, none⟩ b u hb).trans h
  have h2 := (heap_setCell_other _ ⟨g, 1, none⟩ b v hb).trans h1
  exact (heap_setCell_other _ ⟨g, 2, none⟩ b z hb).trans h2

set_option maxHeartbeats 4000000 in
set_option maxRecDepth 100000 in
theorem match_is (g : Nat) (A : Option Addr) (n c i : Nat) (t : List Nat) (w : World) (hf : Fnd w g A n c t i) (hr : Rd w A (b8 t)) (hn : t.length = n) (hby : By t) (hl : n ≤ 4096) (hc : n ≤ c) (hi : i < n) :
    Calls Try.prog 109 #[.pointer (some ⟨g, 0, none⟩), .int .i64 (i : Int)] w fun e w' => e = .returned (.agg #[.slice none 0 0, .int .i64 (((best t i).2 : Nat) : Int), .int .i64 (((best t i).1 : Nat) : Int)]) ∧ Below w.heap.size w w' := by
  have HR := Lib.hid hr
  have HN := Lib.hid hn
  have HY := Lib.hid hby
  have HF := Lib.hid hf
  have hg := hf.lt
  have HC : Hid (∀ W, Below w.heap.size w W → W.cell? ⟨g, 0, none⟩ = some (.slice A n c)) := Lib.hid (fun W hb => (hf.below hb).text)
  have PN : Hid (∀ W, Below w.heap.size w W → i + 5 ≤ n → Calls Try.prog 114 #[.pointer (some ⟨g, 0, none⟩), .int .i64 (i : Int)] W fun e w' => e = .returned (.int .i64 ((hs t i : Nat) : Int)) ∧ w' = W) :=
    Lib.hid (fun W hb h5 => (fnumber_is g A n c i i t W (hf.below hb) (hr.below hb) hn hby hl hc h5).mono (fun _ _ h => ⟨h.1, h.2.symm⟩))
  have PA : Hid (∀ W p, Below w.heap.size w W → p < i → Calls Try.prog 115 #[.pointer (some ⟨g, 0, none⟩), .int .i64 (p : Int), .int .i64 (i : Int)] W fun e w' => e = .returned (.int .i64 ((ml t i (i - p) : Nat) : Int)) ∧ ∃ d, w' = W.drewN d) :=
    Lib.hid (fun W p hb hp => alike_is g A n c p i i t W (hf.below hb) (hr.below hb) hn hl hp (by omega))
  obtain ⟨q, hq⟩ : ∃ q, q = best t i := ⟨_, rfl⟩
  have HQ := Lib.hid hq
  rw [← hq]
  have hg1 : g < w.heap.size + 1 := by omega
  clear hr hn hby hf hq
  by_cases h5 : i + 5 ≤ n
  · have hh := hs_lt t i
    have i0 : (0 : Int) ≤ ((hs t i : Nat) : Int) := by omega
    have i1 : ((hs t i : Nat) : Int) < 1024 := by omega
    have ct := HF.out.text
    have cl := HF.out.last hh
    have hB2 : Below w.heap.size w ((w.alloc (.cells #[.slice none 0 0, .int .i64 0, .int .i64 0] 122)).alloc (.cells #[.slice none 0 0, .int .i64 0, .int .i64 0] 122)) := ((Below.refl _ _).alloc (Nat.le_refl _) _).alloc (by simp) _
    have HB2 := Lib.hid hB2
    have HT2 : Hid (Bt ((w.alloc (.cells #[.slice none 0 0, .int .i64 0, .int .i64 0] 122)).alloc (.cells #[.slice none 0 0, .int .i64 0, .int .i64 0] 122)) (w.heap.size + 1) tkZero) := Lib.hid (by have := Bt.new (w.alloc (.cells #[.slice none 0 0, .int .i64 0, .int .i64 0] 122)) tkZero; rw [show (w.alloc (.cells #[.slice none 0 0, .int .i64 0, .int .i64 0] 122)).heap.size = w.heap.size + 1 by simp] at this; exact this)
    have HT1 : Hid (Bt ((w.alloc (.cells #[.slice none 0 0, .int .i64 0, .int .i64 0] 122)).alloc (.cells #[.slice none 0 0, .int .i64 0, .int .i64 0] 122)) w.heap.size tkZero) := Lib.hid ((Bt.new w tkZero).below ((Below.refl _ _).alloc (Nat.le_refl _) _) (by simp))
    clear hB2
    go_enter Try.func109, Try.ntmps109
    go_wp2_with fail
    go_step3
    go_wp2_with fail
    go_quiet ((go_at_call 114; exact Calls.quiet_of_same (PN.out _ (below_drewN HB2.out _) h5)))
    go_wp2_with fail
    go_step3
    go_wp2_with fail
    have HB3 := Lib.hid (below_drewN HB2.out nq)
    have HT3 : Hid (Bt (((w.alloc (.cells #[.slice none 0 0, .int .i64 0, .int .i64 0] 122)).alloc (.cells #[.slice none 0 0, .int .i64 0, .int .i64 0] 122)).drewN nq) (w.heap.size + 1) ⟨none, 0, [], ((0 : Nat) : Int), ((0 : Nat) : Int)⟩) := Lib.hid HT2.out
    have HT4 : Hid (Bt (((w.alloc (.cells #[.slice none 0 0, .int .i64 0, .int .i64 0] 122)).alloc (.cells #[.slice none 0 0, .int .i64 0, .int .i64 0] 122)).drewN nq) w.heap.size tkZero) := Lib.hid HT1.out
    clear HB2 HT2 HT1 ct cl
    go_loopw [6, 7, 8] (fun v u7 u8 wr => ∃ (x dd ll : Nat), v = .int .i64 ((lastOf t x (hs t i) : Nat) : Int) ∧ x ≤ i ∧ i - x ≤ 2048 ∧ Hid (bs5 t i (i - x) = (ll, dd)) ∧ Hid (Bt wr (w.heap.size + 1) ⟨none, 0, [], (dd : Int), (ll : Int)⟩) ∧ Hid (Bt wr w.heap.size tkZero) ∧ Hid (Below w.heap.size w wr)) (fun v _ _ _ => (intOf v).toNat)
    case atStart => exact ⟨i, 0, 0, rfl, Nat.le_refl _, by omega, Lib.hid (by rw [Nat.sub_self]; rfl), HT3, HT4, HB3⟩
    case round =>
      clear HT3 HT4 HB3
      obtain ⟨x, dd, ll, rfl, hx, hx2, HBS, HT, HT1, HB⟩ := hrel
      have HSK : Hid (∀ D', i - x ≤ D' → D' ≤ i - lastOf t x (hs t i) → bs5 t i D' = bs5 t i (i - x)) := Lib.hid (fun D' a b => chain_skip (by rw [HN.out]; omega) hx a b)
      have HLL : Hid (ll ≤ 258 ∧ dd ≤ i - x) := Lib.hid (by have := bs5_le t i (i - x); rw [HBS.out] at this; exact this)
      have hll := HLL.out.1
      have hdd := HLL.out.2
      obtain ⟨b0, b1, b2⟩ := HT.out.facts
      obtain ⟨f0, f1, f2⟩ := HT.out.thaw
      obtain ⟨a0, a1, a2⟩ := HT1.out.facts
      obtain ⟨e0, e1, e2⟩ := HT1.out.thaw
      simp only [List.length_nil, tkZero] at b0 b1 b2 a0 a1 a2
      by_cases h0 : lastOf t x (hs t i) = 0
      · have HE : Hid (q = (ll, dd)) := Lib.hid (by rw [HQ.out]; exact best_of t i HBS.out (HSK.out _ (by omega) (by omega)))
        rw [h0]
        go_wp2_with fail
        rw [Exit.noGoto_ret]
        refine bodyPost_ret (v := .agg #[.slice none 0 0, .int .i64 (dd : Int), .int .i64 (ll : Int)]) (by simp [results, Try.results109, go_sem, a0, a1, a2, e0, e1, e2]) rfl ⟨by rw [HE.out], ?_⟩
        exact Below.set3 HB.out (Nat.le_refl _) _ _ _
      · obtain ⟨p, hp⟩ : ∃ p, lastOf t x (hs t i) = p + 1 := ⟨lastOf t x (hs t i) - 1, by omega⟩
        obtain ⟨hpx, hp5, hph⟩ := lastOf_pos hp
        have HA : Hid (∀ W, Below w.heap.size w W → W.cell? ⟨g, 1025 + p, none⟩ = some (.int .i64 ((lastOf t p (hs t i) : Nat) : Int))) := Lib.hid (fun W hb => by
          have h := (HF.out.below hb).ahead (p := p) (by omega)
          unfold ahd at h
          rw [if_pos ⟨by omega, hp5⟩, hph] at h
          exact h)
        have hlast := lastOf_le t (hs t i) p
        have HPX := Lib.hid hp
        rw [hp, show ((p + 1 : Nat) : Int) = (p : Int) + 1 by omega]
        have ca := HA.out _ HB.out
        have p0 : (0 : Int) ≤ (p : Int) := by omega
        have p1 : (p : Int) < 4096 := by rw [HN.out] at hp5; omega
        clear hp hph hp5 h0
        by_cases hw : 2048 < i - p
        · have HE : Hid (q = (ll, dd)) := Lib.hid (by rw [HQ.out]; exact best_of t i HBS.out (HSK.out _ (by omega) (by rw [HPX.out]; omega)))
          have hw3 : (2048 : Int) < (i : Int) - (p : Int) := by omega
          go_wp2_with fail
          rw [Exit.noGoto_ret]
          refine bodyPost_ret (v := .agg #[.slice none 0 0, .int .i64 (dd : Int), .int .i64 (ll : Int)]) (by simp [results, Try.results109, go_sem, a0, a1, a2, e0, e1, e2]) rfl ⟨by rw [HE.out], ?_⟩
          exact Below.set3 HB.out (Nat.le_refl _) _ _ _
        · have hw3 : ¬ (2048 : Int) < (i : Int) - (p : Int) := by omega
          have HB6 : Hid (bs5 t i (i - p - 1) = (ll, dd)) := Lib.hid (by rw [HSK.out _ (by omega) (by rw [HPX.out]; omega), HBS.out])
          have hm := ml_le t i (i - p)
          have hpi : i - p = (i - p - 1) + 1 := by omega
          have HPI := Lib.hid hpi
          have P6 := Lib.hid (PA.out _ p HB.out (by omega))
          have HTK : Hid (5 ≤ ml t i (i - p) → ll < ml t i (i - p) → bs5 t i (i - p) = (ml t i (i - p), i - p)) := Lib.hid (fun h1 h2 => bs5_take HB6.out HPI.out h1 h2)
          have HPS : Hid (ml t i (i - p) < 5 ∨ ml t i (i - p) ≤ ll → bs5 t i (i - p) = (ll, dd)) := Lib.hid (fun h1 => bs5_pass HB6.out HPI.out h1)
          have HFU : Hid (bs5 t i (i - p) = (258, i - p) → q = (258, i - p)) := Lib.hid (fun h => by rw [HQ.out]; exact best_of t i h (bs5_full (by rw [h]) (by omega)))
          obtain ⟨M, hM⟩ : ∃ M, M = ml t i (i - p) := ⟨_, rfl⟩
          rw [← hM] at hm P6 HTK HPS
          clear hM hpi
          go_wp2_with fail
          refine P6.out.mono ?_
          rintro e w1 ⟨rfl, d1, rfl⟩
          by_cases h5' : M < 5
          · have HBN := Lib.hid (HPS.out (.inl h5'))
            go_wp2_with fail
            go_roundw
            case rel => exact ⟨p, dd, ll, rfl, by omega, by omega, HBN, Lib.hid HT.out, Lib.hid HT1.out, Lib.hid (below_drewN HB.out d1)⟩
            case measure => simp [intOf]; omega
          · by_cases h6 : M ≤ ll
            · have HBN := Lib.hid (HPS.out (.inr h6))
              go_wp2_with fail
              go_roundw
              case rel => exact ⟨p, dd, ll, rfl, by omega, by omega, HBN, Lib.hid HT.out, Lib.hid HT1.out, Lib.hid (below_drewN HB.out d1)⟩
              case measure => simp [intOf]; omega
            · have HBN := Lib.hid (HTK.out (by omega) (by omega))
              by_cases h7 : M = 258
              · subst h7
                have HE : Hid (q = (258, i - p)) := Lib.hid (HFU.out HBN.out)
                have hip : ((i - p : Nat) : Int) = (i : Int) - (p : Int) := by omega
                have HIP := Lib.hid hip
                clear hip
                go_wp2_with fail
                rw [Exit.noGoto_ret]
                refine bodyPost_ret (v := .agg #[.slice none 0 0, .int .i64 ((i : Int) - (p : Int)), .int .i64 (258)]) (by simp [results, Try.results109, go_sem, a0, a1, a2, e0, e1, e2]) rfl ⟨by rw [HE.out]; simp only [HIP.out]; rfl, ?_⟩
                exact Below.set3 (Below.set3 (below_drewN HB.out d1) (Nat.le_succ _) _ _ _) (Nat.le_refl _) _ _ _
              · have HIP : Hid (((i - p : Nat) : Int) = (i : Int) - (p : Int)) := Lib.hid (by omega)
                go_wp2_with fail
                go_roundw
                case rel => exact ⟨p, i - p, M, rfl, by omega, by omega, HBN, Lib.hid (by have h := Bt.set3 (W := wr.drewN d1) (g := w.heap.size + 1) HT.out ⟨none, 0, [], ((i - p : Nat) : Int), (M : Int)⟩; rw [HIP.out] at h ⊢; exact h), Lib.hid (Bt.other3 (W := wr.drewN d1) HT1.out (by omega) _ _ _), Lib.hid (Below.set3 (below_drewN HB.out d1) (Nat.le_succ _) _ _ _)⟩
                case measure => simp [intOf]; omega
  · have HE : Hid (q = (0, 0)) := Lib.hid (by rw [HQ.out]; exact best_short (by rw [HN.out]; omega) (by rw [HN.out]; omega))
    have ct := HF.out.text
    go_enter Try.func109, Try.ntmps109
    go_wp2_with fail
    go_step3
    go_wp2_with fail
    rw [Exit.noGoto_ret]
    refine bodyPost_ret (v := .agg #[.slice none 0 0, .int .i64 0, .int .i64 0]) (by simp [results, Try.results109, go_sem]) rfl ⟨by rw [HE.out]; rfl, ?_⟩
    exact ((Below.refl _ _).alloc (Nat.le_refl _) _).alloc (by simp) _
end Go.Proofs.Ytljfmcgeiceagaa
