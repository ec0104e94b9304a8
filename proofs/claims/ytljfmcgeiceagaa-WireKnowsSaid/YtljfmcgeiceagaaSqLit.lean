/- literal: a token of bytes of its own. -/
import Derived.Test.YtljfmcgeiceagaaSqAns
import Derived.Test.YtljfmcgeiceagaaSqRead
import Derived.Laws.CopyOwn
namespace Go.Proofs.Ytljfmcgeiceagaa
open Go Go.RowKit
set_option linter.unusedVariables false
set_option linter.unusedSimpArgs false

theorem own_cells {w : World} {base g n c : Nat} {e : TypeId} {xs : List Value} (h : w.ownsRow base e 1 (.slice (some ⟨g, 0, none⟩) n c) n xs) : ∃ cur : List Value, w.heap[g]? = some (.cells cur.toArray e (0, 0)) ∧ cur.length = c := by
  rcases h.2 with ⟨h', _⟩ | ⟨g', cap', cur, h', _, hg, hnc, _, hcs, _⟩
  · simp at h'
  · simp only [Value.slice.injEq, Option.some.injEq, Addr.mk.injEq, and_true, true_and] at h'
    obtain ⟨rfl, rfl⟩ := h'
    exact ⟨cur.toList, by simpa using hg, by simpa using hcs⟩
theorem own_full {w : World} {base g n : Nat} {e : TypeId} {xs : List Value} (h : w.heap[g]? = some (.cells xs.toArray e (0, 0))) (hl : xs.length = n) (hb : base ≤ g) (hm : n ≤ maxLen) : w.ownsRow base e 1 (.slice (some ⟨g, 0, none⟩) n n) n xs :=
  ⟨by simpa using hl, .inr ⟨g, n, xs.toArray, rfl, hb, h, Nat.le_refl _, hm, by simpa using hl, by simp [← hl]⟩⟩

theorem run_copy_full {W0 W1 : World} {g n c base : Nat} {A : Option Addr} {bs : List Nat} {cur : List Value} (hg : W1.heap[g]? = some (.cells cur.toArray 5 (0, 0))) (hcl : cur.length = n) (hn : bs.length = n) (hsrc : Rd W1 A (b8 bs)) (hB : Below base W0 W1) (hb : base ≤ g) (ty : TypeId) :
    ∃ W2, (Builtin.copy_ #[25, 25] ty #[.slice (some ⟨g, 0, none⟩) n n, .slice A n c]).run Try.prog W1 = .ok (.int .i64 (n : Int)) W2 ∧ W2.heap[g]? = some (.cells (b8 bs).toArray 5 (0, 0)) ∧ Below base W0 W2 := by
  have hsz : (Try.prog.info? 5).map (·.size) = some 1 := by kernel_rfl
  by_cases h0 : n = 0
  · subst h0
    have hbs : bs = [] := List.eq_nil_of_length_eq_zero hn
    have hcu : cur = [] := List.eq_nil_of_length_eq_zero hcl
    subst hbs hcu
    refine ⟨W1, run_copy_none (P := Try.prog) W1 25 25 ty 5 (some ⟨g, 0, none⟩) A 0 0 0 c Try.underlying25 hsz rfl, hg, hB⟩
  · obtain ⟨ga, off, rfl, _, hc⟩ := hsrc (by intro e; have := congrArg List.length e; rw [b8_length, List.length_nil] at this; omega)
    have hl : (b8 bs).length = n := by rw [b8_length, hn]
    have hr := run_copy_row (P := Try.prog) W1 25 25 ty 5 g 0 n n ⟨ga, off, none⟩ n c cur.toArray 5 (b8 bs) Try.underlying25 hsz hg (by rw [hl]; exact (Nat.min_self n).symm) (fun j v hv => by rw [add_zero_off]; exact hc j v hv) (by rw [hl]; simp [hcl]) (b8_one bs)
    rw [hl] at hr
    refine ⟨_, hr, ?_, below_setRow hB hb _⟩
    have h2 := setRow_heap W1 g cur.toArray (((cur.toArray.toList.take 0) ++ b8 bs ++ cur.toArray.toList.drop (0 + n)).toArray) _ _ hg
    rw [h2]
    simp [hcl]

set_option maxHeartbeats 1000000 in
set_option maxRecDepth 100000 in
theorem literal_is (A : Option Addr) (n c : Nat) (bs : List Nat) (w : World) (hr : Rd w A (b8 bs)) (hn : bs.length = n) (hl : n ≤ 4096) :
    Calls Try.prog 111 #[.slice A n c] w fun e w' => ∃ A' c', e = .returned (.agg #[.slice A' n c', .int .i64 0, .int .i64 0]) ∧ w'.ownsRow (w.heap.size + 1) 5 1 (.slice A' n c') n (b8 bs) ∧ Below w.heap.size w w' := by
  obtain ⟨inf, hi, hz0, hz1, hz2⟩ := info_parts info8
  have HI := Lib.hid hi
  have HZ0 := Lib.hid hz0
  have HZ1 := Lib.hid hz1
  have HZ2 := Lib.hid hz2
  have HN := Lib.hid hn
  have HR := Lib.hid hr
  have hsz : (Try.prog.info? 5).map (·.size) = some 1 := by kernel_rfl
  have HS := Lib.hid hsz
  have HPOS : Hid (∀ W, Below w.heap.size w W → 0 < (b8 bs).length → ∃ ad, A = some ad ∧ ∀ j v, (b8 bs)[j]? = some v → W.cell? (ad.add j) = some v) := Lib.hid (fun W hb h0 => by
    obtain ⟨g, off, e, hg, hc⟩ := (hr.below hb) (by intro e; rw [e] at h0; simp at h0)
    exact ⟨_, e, fun j v hv => by rw [add_zero_off]; exact hc j v hv⟩)
  clear hi hz0 hz1 hz2 hn hr hsz
  go_enter Try.func111, Try.ntmps111
  have HB0 : Hid (Below w.heap.size w (w.alloc (.cells #[.slice none 0 0, .int .i64 0, .int .i64 0] 122))) := Lib.hid ((Below.refl _ _).alloc (Nat.le_refl _) _)
  have HT0 := Lib.hid (Bt.new w tkZero)
  have HSZ : Hid ((w.alloc (.cells #[.slice none 0 0, .int .i64 0, .int .i64 0] 122)).heap.size = w.heap.size + 1) := Lib.hid (by simp)
  go_wp2_with (first
    | (at_make; refine wpList_make_full _ rfl (.tmp 5) (.tmp 5) 25 rfl (w.heap.size + 1) 5 inf (.int .u8 0) 1 Try.underlying25 HI.out HZ0.out HZ1.out .i64 .i64 _ _ n rfl rfl rfl rfl (by rw [HZ2.out]; omega) (by unfold maxLen; omega) (by simp) ?_; intro w1 hown1 hg1; obtain ⟨cur, hcur, hcl⟩ := own_cells hown1; have HCU : Hid (w1.heap[w.heap.size + 1]? = some (.cells cur.toArray 5 (0, 0))) := Lib.hid (HSZ.out ▸ hcur); have HCL := Lib.hid hcl; have HB1 : Hid (Below (w.heap.size + 1) (w.alloc (.cells #[.slice none 0 0, .int .i64 0, .int .i64 0] 122)) w1) := Lib.hid (below_of_grown hg1 (by simp) (fun k hk => by cases hk)); clear hown1 hg1 hcur hcl)
    | fail)
  obtain ⟨W2, hrun, hg2, hb2⟩ := run_copy_full (A := A) (c := c) (bs := bs) (n := n) HCU.out HCL.out HN.out (HR.out.below (HB0.out.trans (HB1.out.mono (by simp)))) HB1.out (Nat.le_refl _) 3
  rw [hrun]
  have HO2 := Lib.hid (own_full (base := w.heap.size + 1) hg2 (by rw [b8_length, HN.out]) (Nat.le_refl _) (by unfold maxLen; omega))
  have HB2 := Lib.hid hb2
  have HT2 := Lib.hid (HT0.out.below hb2 (Nat.lt_succ_self _))
  clear hrun hg2 hb2 HT0
  obtain ⟨c0, c1, c2⟩ := HT2.out.facts
  obtain ⟨f0, f1, f2⟩ := HT2.out.thaw
  simp only [List.length_nil, tkZero] at c0 c1 c2
  go_wp2
  have HK : Hid (KeptS W2 (((W2.setCell ⟨w.heap.size, 0, none⟩ (.slice (some ⟨w.heap.size + 1, 0, none⟩) n n)).setCell ⟨w.heap.size, 1, none⟩ (.int .i64 0)).setCell ⟨w.heap.size, 2, none⟩ (.int .i64 0)) (fun q => q = w.heap.size)) := Lib.hid (((kept1_set W2 w.heap.size 0 _).trans (kept1_set _ w.heap.size 1 _) (fun q hq => .inl hq)).trans (kept1_set _ w.heap.size 2 _) (fun q hq => .inl hq))
  refine bodyPost_ret (v := .agg #[.slice (some ⟨w.heap.size + 1, 0, none⟩) n n, .int .i64 0, .int .i64 0]) (by simp [results, Try.results111, go_sem, c0, c1, c2, f0, f1, f2]) rfl ⟨_, _, rfl, own_keptS HO2.out HK.out (fun q hq e => by simp only [Value.ownBlock, Option.some.injEq] at hq; omega), ?_⟩
  exact HB0.out.trans ((HB2.out.mono (Nat.le_succ _)).trans (HK.out.below (fun q hq => by omega) (by have := HB2.out.size; rw [HSZ.out] at this; omega)))
end Go.Proofs.Ytljfmcgeiceagaa
