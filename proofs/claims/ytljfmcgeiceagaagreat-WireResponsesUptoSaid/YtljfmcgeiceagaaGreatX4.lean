/- Several texts in one: SqAns, SqRdLen, SqMl, SqFnd, SqNum, SqAlike, SqMatch, SqLit. -/
import Derived.Test.YtljfmcgeiceagaaGreatX3
import Derived.Test.YtljfmcgeiceagaaGreatS2
import Derived.IntWalk
import Derived.RegionTactic
import Derived.ChangeAlike
import Derived.BigRegion
import Derived.Test.YtljfmcgeiceagaaGreatF3
import Derived.WalkMore
import Derived.Laws.CopyOwn
/- Answers: tokens of the call's own, as they are held over later calls. -/
namespace Go.Proofs.YtljfmcgeiceagaaGreat
open Go Go.RowKit
set_option linter.unusedVariables false
set_option linter.unusedSimpArgs false

/-- What a reader leaves, its number of tokens spelled by the answer. -/
def AnsT2 (w : World) (q : List Tk × Int) (e : Ending) (w' : World) : Prop :=
  ∃ A c l, e = .returned (.tuple #[.slice A q.1.length c, .int .i64 q.2]) ∧ toks l = q.1 ∧ Ts w' w.heap.size (.slice A q.1.length c) q.1.length l ∧ Below w.heap.size w w'
theorem AnsT.two {w w' : World} {q : List Tk × Int} {e : Ending} (h : AnsT w q e w') : AnsT2 w q e w' := by
  obtain ⟨A, c, N, l, rfl, hq, ht, hb⟩ := h
  have hN : N = q.1.length := by rw [← ht.len, ← hq]; simp [toks]
  subst hN
  exact ⟨A, c, l, rfl, hq, ht, hb⟩
theorem toks_len (l : List TkV) : (toks l).length = l.length := by simp [toks]
/-- Tokens of which a text is made are not too many. -/
theorem fine_count {ts : List Tk} {T : List Nat} (h : exp [] ts = (T, 0)) : ts.length ≤ 4096 := by
  have h1 := (fine_of_exp h).2
  have h2 := exp_len ts [] (by simp)
  rw [h] at h2
  simp only [List.length_nil] at h1 h2
  omega
end Go.Proofs.YtljfmcgeiceagaaGreat

/- How many tokens Read tells at most. -/
namespace Go.Proofs.YtljfmcgeiceagaaGreat
open Go Go.RowKit
end Go.Proofs.YtljfmcgeiceagaaGreat

/- How long a match is: the document's, and the statement's own (printed by gen_sqml.py). -/
namespace Go.Proofs.YtljfmcgeiceagaaGreat
open Go Go.RowKit
set_option linter.unusedVariables false
set_option linter.unusedSimpArgs false

set_option maxHeartbeats 1000000 in
set_option maxRecDepth 100000 in
theorem rlength_is (A : Option Addr) (n c i d : Nat) (t : List Nat) (w : World) (hr : Rd w A (b8 t)) (hn : t.length = n) (hl : n ≤ 140737488351232) (hi : i ≤ n) (hd : 1 ≤ d) (hdi : d ≤ i) :
    Calls Tryz.prog 130 #[.slice A n c, .int .i64 (i : Int), .int .i64 (d : Int)] w fun e w' => e = .returned (.int .i64 ((ml t i d : Nat) : Int)) ∧ ∃ m, w' = w.drewN m := by
  have HR := Lib.hid hr
  have HN := Lib.hid hn
  obtain ⟨q, hq⟩ : ∃ q, q = ml t i d := ⟨_, rfl⟩
  have HQ : Hid (q = mlF t i d (258 - 0) 0) := Lib.hid hq
  rw [← hq]
  clear hr hn hq
  go_enter Tryz.func130, Tryz.ntmps130
  go_wp2
  go_loopw [7] (fun v wr => ∃ (k j : Nat), k ≤ 258 ∧ i + k ≤ n ∧ v = .int .i64 k ∧ Hid (q = mlF t i d (258 - k) k) ∧ wr = w.drewN j) (fun v _ => 258 - (intOf v).toNat)
  case atStart => exact ⟨0, 0, by omega, by omega, rfl, HQ, rfl⟩
  case round =>
    clear HQ
    obtain ⟨k, j, hk, hik, rfl, HQ, rfl⟩ := hrel
    by_cases h1 : k < 258
    · by_cases h2 : i + k < n
      · obtain ⟨x, hx⟩ : ∃ x, t[i + k]? = some x := ⟨_, List.getElem?_eq_getElem (by rw [HN.out]; exact h2)⟩
        obtain ⟨y, hy⟩ : ∃ y, t[i + k - d]? = some y := ⟨_, List.getElem?_eq_getElem (by rw [HN.out]; omega)⟩
        obtain ⟨g, off, rfl, hg, hcx⟩ := HR.out.at_ hx
        obtain ⟨g', off', e, hg', hcy⟩ := HR.out.at_ hy
        simp only [Option.some.injEq, Addr.mk.injEq, and_true] at e
        obtain ⟨rfl, rfl⟩ := e
        have s1 : IntKind.i64.wrap ((i : Int) + (k : Int)) = (i : Int) + (k : Int) := IntWalk.i64_in _ (by omega)
        have s3 : IntKind.i64.wrap ((i : Int) + (k : Int) - (d : Int)) = (i : Int) + (k : Int) - (d : Int) := IntWalk.i64_in _ (by omega)
        have s2 : ((i : Int) + (k : Int)).toNat = i + k := by omega
        have s4 : ((i : Int) + (k : Int) - (d : Int)).toNat = i + k - d := by omega
        have b1 : (0 : Int) ≤ (i : Int) + (k : Int) := by omega
        have b2 : (i : Int) + (k : Int) < (n : Int) := by omega
        have b3 : (0 : Int) ≤ (i : Int) + (k : Int) - (d : Int) := by omega
        have b4 : (i : Int) + (k : Int) - (d : Int) < (n : Int) := by omega
        have b5 : (k : Int) < 258 := by omega
        have HF : Hid (258 - k = (258 - (k + 1)) + 1) := Lib.hid (by omega)
        have HX : Hid (t.getD (i + k) 0 = x ∧ t.getD (i + k - d) 0 = y) := Lib.hid (by simp [List.getD_eq_getElem?_getD, hx, hy])
        by_cases hxy : x = y
        · have he : ((x : Int) == (y : Int)) = true := by rw [beq_iff_eq]; omega
          have HQ2 : Hid (q = mlF t i d (258 - (k + 1)) (k + 1)) := Lib.hid (by rw [HQ.out, HF.out, mlF, if_pos ⟨by rw [HN.out]; exact h2, by rw [HX.out.1, HX.out.2, hxy]⟩])
          clear hx hy hxy HQ
          go_wp2
          go_quiet (fail)
          clear s1 s2 s3 s4
          go_wp2
          go_roundw
          case rel => exact ⟨k + 1, _, by omega, by omega, by go_num, HQ2, rfl⟩
          case measure => simp [intOf]; omega
        · have he : ((x : Int) == (y : Int)) = false := by rw [beq_eq_false_iff_ne]; omega
          have HQ2 : Hid (q = k) := Lib.hid (by rw [HQ.out, HF.out, mlF, if_neg (fun h => hxy (by rw [← HX.out.1, ← HX.out.2]; exact h.2))])
          clear hx hy hxy HQ
          go_wp2
          go_quiet (fail)
          clear s1 s2 s3 s4
          go_wp2
          go_ret
          exact ⟨by rw [HQ2.out]; rfl, _, World.drewN_drewN ..⟩
      · have hie : i + k = n := by omega
        have b5 : (k : Int) < 258 := by omega
        have s1 : IntKind.i64.wrap ((i : Int) + (k : Int)) = (i : Int) + (k : Int) := IntWalk.i64_in _ (by omega)
        have b2 : decide ((i : Int) + (k : Int) < (n : Int)) = false := by rw [decide_eq_false_iff_not]; omega
        have HQ2 : Hid (q = k) := Lib.hid (by rw [HQ.out, show 258 - k = (258 - (k + 1)) + 1 by omega, mlF, if_neg (fun h => by have h1 := h.1; rw [HN.out] at h1; omega)])
        clear hie HQ
        go_wp2
        go_quiet (fail)
        clear s1
        go_wp2
        go_ret
        exact ⟨by rw [HQ2.out]; rfl, _, World.drewN_drewN ..⟩
    · have hke : k = 258 := by omega
      have HQ2 : Hid (q = 258) := Lib.hid (by rw [HQ.out, hke]; rfl)
      subst hke
      clear HQ h1
      go_wp2
      go_quiet (fail)
      go_wp2
      go_ret
      exact ⟨by rw [HQ2.out]; rfl, _, World.drewN_drewN ..⟩

end Go.Proofs.YtljfmcgeiceagaaGreat

/- The finder in memory: one block of 5121 cells. -/
namespace Go.Proofs.YtljfmcgeiceagaaGreat
open Go Go.RowKit
set_option linter.unusedVariables false
set_option linter.unusedSimpArgs false

def fz (x : Value) : Array Value := ⟨x :: List.replicate 5120 (.int .i64 0)⟩
theorem run_buildF (A : Option Addr) (n c : Nat) (w : World) : (Instr.build 137 #[(0, .slice A n c)]).run Tryz.prog w = .ok (.agg (fz (.slice A n c))) w := by kernel_rfl
theorem run_boxF (x : Value) (w : World) : (Instr.box 137 (.agg (fz x))).run Tryz.prog w = .ok (.pointer (some ⟨w.heap.size, 0, none⟩)) (w.alloc (.cells (fz x) 137)) := by kernel_rfl

/-- The place ahead of a place (and 1), of those passed. -/
def ahd (t : List Nat) (m p : Nat) : Nat := if p < m ∧ p + 5 ≤ t.length then lastOf t p (hs t p) else 0
def fcl (x : Value) (t : List Nat) (m : Nat) : List Value := x :: ((List.range 1024).map (fun k => Value.int .i64 ((lastOf t m k : Nat) : Int)) ++ (List.range 4096).map (fun p => Value.int .i64 ((ahd t m p : Nat) : Int)))
/-- A finder that has passed m places. -/
def Fnd (W : World) (g : Nat) (A : Option Addr) (n c : Nat) (t : List Nat) (m : Nat) : Prop := W.heap[g]? = some (.cells ⟨fcl (.slice A n c) t m⟩ 137 (0, 0))

theorem fcl_text (x : Value) (t : List Nat) (m : Nat) : (fcl x t m)[0]? = some x := rfl
theorem fcl_last (x : Value) (t : List Nat) (m : Nat) {k : Nat} (hk : k < 1024) : (fcl x t m)[1 + k]? = some (.int .i64 ((lastOf t m k : Nat) : Int)) := by
  unfold fcl
  rw [Nat.add_comm, List.getElem?_cons_succ, List.getElem?_append_left (by simp; exact hk), List.getElem?_map, List.getElem?_range hk]
  rfl
theorem fcl_ahead (x : Value) (t : List Nat) (m : Nat) {p : Nat} (hp : p < 4096) : (fcl x t m)[1025 + p]? = some (.int .i64 ((ahd t m p : Nat) : Int)) := by
  have h1 : ∀ (l1 l2 : List Value) (q N : Nat), l1.length = N → (l1 ++ l2)[N + q]? = l2[q]? := fun l1 l2 q N h => by subst h; rw [List.getElem?_append_right (by omega), Nat.add_sub_cancel_left]
  unfold fcl
  rw [show 1025 + p = (1024 + p) + 1 by omega, List.getElem?_cons_succ, h1 _ _ p 1024 (by rw [List.length_map, List.length_range]), List.getElem?_map, List.getElem?_range hp]
  rfl
theorem fcl_length (x : Value) (t : List Nat) (m : Nat) : (fcl x t m).length = 5121 := by
  simp [fcl]
theorem fcl_new0 (x : Value) (t : List Nat) : (x :: List.replicate 5120 (.int .i64 0)) = fcl x t 0 := by
  apply List.ext_getElem?
  intro j
  rcases Nat.lt_or_ge j 5121 with h | h
  · rcases Nat.eq_zero_or_pos j with h0 | h0
    · subst h0; rw [fcl_text, List.getElem?_cons_zero]
    · obtain ⟨i, rfl⟩ : ∃ i, j = i + 1 := ⟨j - 1, by omega⟩
      rw [List.getElem?_cons_succ, List.getElem?_replicate, if_pos (by omega)]
      rcases Nat.lt_or_ge i 1024 with h1 | h1
      · rw [Nat.add_comm, fcl_last x t 0 h1]; rfl
      · obtain ⟨p, rfl⟩ : ∃ p, i = 1024 + p := ⟨i - 1024, by omega⟩
        rw [show 1024 + p + 1 = 1025 + p by omega, fcl_ahead x t 0 (by omega)]
        simp [ahd]
  · rw [List.getElem?_eq_none (by rw [List.length_cons, List.length_replicate]; omega), List.getElem?_eq_none (by rw [fcl_length]; exact h)]
theorem fcl_new (x : Value) (t : List Nat) : fz x = ⟨fcl x t 0⟩ := by
  unfold fz
  rw [fcl_new0 x t]
/-- One place more is passed. -/
theorem fcl_pass (x : Value) (t : List Nat) {m : Nat} (hm : m + 5 ≤ t.length) (h4 : t.length ≤ 4096) : ((fcl x t m).set (1025 + m) (.int .i64 ((lastOf t m (hs t m) : Nat) : Int))).set (1 + hs t m) (.int .i64 ((m : Int) + 1)) = fcl x t (m + 1) := by
  have hh := hs_lt t m
  apply List.ext_getElem?
  intro j
  rw [List.getElem?_set, List.getElem?_set, List.length_set, fcl_length]
  rcases Nat.lt_or_ge j 5121 with h | h
  · rcases Nat.eq_zero_or_pos j with h0 | h0
    · subst h0
      rw [if_neg (by omega), if_neg (by omega), fcl_text, fcl_text]
    · obtain ⟨i, rfl⟩ : ∃ i, j = 1 + i := ⟨j - 1, by omega⟩
      rcases Nat.lt_or_ge i 1024 with h1 | h1
      · rw [fcl_last x t (m + 1) h1, if_neg (by omega : ¬ 1025 + m = 1 + i), fcl_last x t m h1]
        by_cases e : hs t m = i
        · rw [if_pos (by omega), if_pos (by omega)]
          have : lastOf t (m + 1) i = m + 1 := by unfold lastOf; rw [if_pos ⟨hm, e⟩]
          rw [this]
          rfl
        · rw [if_neg (by omega)]
          have : lastOf t (m + 1) i = lastOf t m i := by conv => lhs; unfold lastOf; rw [if_neg (fun h => e h.2)]
          rw [this]
      · obtain ⟨p, rfl⟩ : ∃ p, i = 1024 + p := ⟨i - 1024, by omega⟩
        rw [show 1 + (1024 + p) = 1025 + p by omega, fcl_ahead x t (m + 1) (by omega), if_neg (by omega), fcl_ahead x t m (by omega)]
        by_cases e : m = p
        · subst e
          rw [if_pos rfl, if_pos (by omega)]
          unfold ahd
          rw [if_pos ⟨by omega, hm⟩]
        · rw [if_neg (by omega)]
          unfold ahd
          by_cases h2 : p < m ∧ p + 5 ≤ t.length
          · rw [if_pos h2, if_pos ⟨by omega, h2.2⟩]
          · rw [if_neg h2, if_neg (by omega)]
  · rw [List.getElem?_eq_none (by rw [fcl_length]; exact h), List.getElem?_eq_none (by rw [fcl_length]; exact h)]
    rw [if_neg (by omega), if_neg (by omega)]
theorem fcl_late (x : Value) (t : List Nat) {m : Nat} (hm : t.length < m + 5) : fcl x t (m + 1) = fcl x t m := by
  have h1 : ∀ k, lastOf t (m + 1) k = lastOf t m k := fun k => by conv => lhs; unfold lastOf; rw [if_neg (fun h => by omega)]
  have h2 : ∀ p, ahd t (m + 1) p = ahd t m p := fun p => by
    unfold ahd
    by_cases h : p < m ∧ p + 5 ≤ t.length
    · rw [if_pos h, if_pos ⟨by omega, h.2⟩]
    · rw [if_neg h, if_neg (by omega)]
  unfold fcl
  simp only [h1, h2]

section
variable {W W' : World} {g : Nat} {A : Option Addr} {n c : Nat} {t : List Nat} {m : Nat}
theorem Fnd.lt (h : Fnd W g A n c t m) : g < W.heap.size := (Array.getElem?_eq_some_iff.1 h).1
theorem Fnd.cell (h : Fnd W g A n c t m) (k : Nat) : W.cell? ⟨g, k, none⟩ = (fcl (.slice A n c) t m)[k]? := by
  have := cell_of_row W g k _ _ (0, 0) h
  rw [this]
  simp
theorem Fnd.text (h : Fnd W g A n c t m) : W.cell? ⟨g, 0, none⟩ = some (.slice A n c) := by rw [h.cell, fcl_text]
theorem Fnd.last (h : Fnd W g A n c t m) {k : Nat} (hk : k < 1024) : W.cell? ⟨g, 1 + k, none⟩ = some (.int .i64 ((lastOf t m k : Nat) : Int)) := by rw [h.cell, fcl_last _ _ _ hk]
theorem Fnd.ahead (h : Fnd W g A n c t m) {p : Nat} (hp : p < 4096) : W.cell? ⟨g, 1025 + p, none⟩ = some (.int .i64 ((ahd t m p : Nat) : Int)) := by rw [h.cell, fcl_ahead _ _ _ hp]
theorem Fnd.free (h : Fnd W g A n c t m) (k : Nat) : W.frozen? ⟨g, k, none⟩ = false := frozen_of_row W g k _ _ h
theorem Fnd.below (h : Fnd W g A n c t m) (hb : Below W.heap.size W W') : Fnd W' g A n c t m := (hb.block g h.lt).trans h
theorem Fnd.keptS {S : Nat → Prop} (h : Fnd W g A n c t m) (hk : KeptS W W' S) (hg : ¬ S g) : Fnd W' g A n c t m := (hk.block g h.lt hg).trans h
theorem Fnd.new (W : World) (A : Option Addr) (n c : Nat) (t : List Nat) : Fnd (W.alloc (.cells (fz (.slice A n c)) 137)) W.heap.size A n c t 0 := by
  unfold Fnd
  rw [fcl_new _ t]
  exact heap_alloc_new W _
theorem Fnd.pass (h : Fnd W g A n c t m) (hm : m + 5 ≤ t.length) (h4 : t.length ≤ 4096) : Fnd ((W.setCell ⟨g, 1025 + m, none⟩ (.int .i64 ((lastOf t m (hs t m) : Nat) : Int))).setCell ⟨g, 1 + hs t m, none⟩ (.int .i64 ((m : Int) + 1))) g A n c t (m + 1) := by
  unfold Fnd
  have h1 := heap_setCell_same W g (1025 + m) _ _ (.int .i64 ((lastOf t m (hs t m) : Nat) : Int)) h
  have h2 := heap_setCell_same _ g (1 + hs t m) _ _ (.int .i64 ((m : Int) + 1)) h1
  rw [h2, ← fcl_pass _ t hm h4]
  simp
end
end Go.Proofs.YtljfmcgeiceagaaGreat

/- The number of the five bytes at a place. -/
namespace Go.Proofs.YtljfmcgeiceagaaGreat
open Go Go.RowKit
set_option linter.unusedVariables false
set_option linter.unusedSimpArgs false

theorem hsF_lt (t : List Nat) (p k : Nat) : hsF t p k < 4294967296 := by
  cases k with
  | zero => simp [hsF]
  | succ k => unfold hsF; omega

set_option maxHeartbeats 1000000 in
set_option maxRecDepth 100000 in
theorem fnumber_is (g : Nat) (A : Option Addr) (n c p m : Nat) (t : List Nat) (w : World) (hf : Fnd w g A n c t m) (hr : Rd w A (b8 t)) (hn : t.length = n) (hby : By t) (hl : n ≤ 4096) (hc : n ≤ c) (hp : p + 5 ≤ n) :
    Calls Tryz.prog 131 #[.pointer (some ⟨g, 0, none⟩), .int .i64 (p : Int)] w fun e w' => e = .returned (.int .i64 ((hs t p : Nat) : Int)) ∧ w = w' := by
  obtain ⟨x0, hx0⟩ : ∃ x, t[p]? = some x := ⟨_, List.getElem?_eq_getElem (by omega)⟩
  obtain ⟨ga, off, rfl, hga, _⟩ := hr.at_ hx0
  have HR := Lib.hid hr
  have HN := Lib.hid hn
  have HY := Lib.hid hby
  have ht := hf.text
  have i0 : (0 : Int) ≤ (p : Int) := by omega
  have i1 : (p : Int) + 5 ≤ (c : Int) := by omega
  have i2 : (p : Int) ≤ (p : Int) + 5 := by omega
  have HH : Hid (hs t p = hsF t p 5 % 1024) := Lib.hid rfl
  clear hr hn hby hx0 hf
  go_enter Tryz.func131, Tryz.ntmps131
  go_wp2
  go_loop [5, 17] (fun h i => ∃ k : Nat, k ≤ 5 ∧ i = .int .i64 k ∧ h = .int .u32 ((hsF t p k : Nat) : Int)) (fun _ i => 5 - (intOf i).toNat)
  case atStart => exact ⟨0, by omega, rfl, rfl⟩
  case round =>
    obtain ⟨k, hk, rfl, rfl⟩ := hrel
    have hh := hsF_lt t p k
    by_cases hlt : k < 5
    · obtain ⟨x, hx⟩ : ∃ x, t[p + k]? = some x := ⟨_, List.getElem?_eq_getElem (by rw [HN.out]; omega)⟩
      obtain ⟨ga', off', e, hg', hcx⟩ := HR.out.at_ hx
      simp only [Option.some.injEq, Addr.mk.injEq, and_true] at e
      obtain ⟨rfl, rfl⟩ := e
      rw [← Nat.add_assoc] at hcx
      have hx8 : x < 256 := HY.out x (List.mem_of_getElem? hx)
      have HS : Hid (((hsF t p (k + 1) : Nat) : Int) = (((hsF t p k : Nat) : Int) * 31 + (x : Int)) % 4294967296) := Lib.hid (by
        rw [hsF, List.getD_eq_getElem?_getD, hx]
        simp)
      obtain ⟨h0, hh0⟩ : ∃ h0, h0 = hsF t p k := ⟨_, rfl⟩
      rw [← hh0] at HS hh ⊢
      clear hh0 hx
      go_wp2
      go_round
      case rel => exact ⟨k + 1, by omega, by go_num, by rw [HS.out]; congr 1; omega⟩
      case measure => simp [intOf]; omega
    · have hk5 : k = 5 := by omega
      subst hk5
      obtain ⟨h0, hh0⟩ : ∃ h0, h0 = hsF t p 5 := ⟨_, rfl⟩
      have HE : Hid (((hs t p : Nat) : Int) = (h0 : Int) % 1024) := Lib.hid (by rw [HH.out, ← hh0]; omega)
      rw [← hh0] at hh ⊢
      clear hh0
      go_wp2
      go_ret
      exact ⟨by rw [HE.out]; rfl, rfl⟩
end Go.Proofs.YtljfmcgeiceagaaGreat

/- The finder: how long a match is; a place is passed. -/
namespace Go.Proofs.YtljfmcgeiceagaaGreat
open Go Go.RowKit
set_option linter.unusedVariables false
set_option linter.unusedSimpArgs false

set_option maxHeartbeats 1000000 in
set_option maxRecDepth 100000 in
theorem alike_is (g : Nat) (A : Option Addr) (n c p i m : Nat) (t : List Nat) (w : World) (hf : Fnd w g A n c t m) (hr : Rd w A (b8 t)) (hn : t.length = n) (hl : n ≤ 4096) (hp : p < i) (hi : i ≤ n) :
    Calls Tryz.prog 132 #[.pointer (some ⟨g, 0, none⟩), .int .i64 (p : Int), .int .i64 (i : Int)] w fun e w' => e = .returned (.int .i64 ((ml t i (i - p) : Nat) : Int)) ∧ ∃ d, w' = w.drewN d := by
  have HR := Lib.hid hr
  have HN := Lib.hid hn
  have ht := hf.text
  obtain ⟨d, hd⟩ : ∃ d, d = i - p := ⟨_, rfl⟩
  rw [← hd]
  obtain ⟨q, hq⟩ : ∃ q, q = ml t i d := ⟨_, rfl⟩
  have HQ : Hid (q = mlF t i d (258 - 0) 0) := Lib.hid hq
  rw [← hq]
  clear hr hn hq hf
  go_enter Tryz.func132, Tryz.ntmps132
  go_wp2
  go_loopw [7] (fun v wr => ∃ (k j : Nat), k ≤ 258 ∧ i + k ≤ n ∧ v = .int .i64 k ∧ Hid (q = mlF t i d (258 - k) k) ∧ wr = w.drewN j) (fun v _ => 258 - (intOf v).toNat)
  case atStart => exact ⟨0, 0, by omega, by omega, rfl, HQ, rfl⟩
  case round =>
    clear HQ
    obtain ⟨k, j, hk, hik, rfl, HQ, rfl⟩ := hrel
    by_cases h1 : k < 258
    · by_cases h2 : i + k < n
      · obtain ⟨x, hx⟩ : ∃ x, t[i + k]? = some x := ⟨_, List.getElem?_eq_getElem (by rw [HN.out]; exact h2)⟩
        obtain ⟨y, hy⟩ : ∃ y, t[p + k]? = some y := ⟨_, List.getElem?_eq_getElem (by rw [HN.out]; omega)⟩
        obtain ⟨ga, off, rfl, hg, hcx⟩ := HR.out.at_ hx
        obtain ⟨g', off', e, hg', hcy⟩ := HR.out.at_ hy
        simp only [Option.some.injEq, Addr.mk.injEq, and_true] at e
        obtain ⟨rfl, rfl⟩ := e
        have s1 : IntKind.i64.wrap ((i : Int) + (k : Int)) = (i : Int) + (k : Int) := IntWalk.i64_in _ (by omega)
        have s3 : IntKind.i64.wrap ((p : Int) + (k : Int)) = (p : Int) + (k : Int) := IntWalk.i64_in _ (by omega)
        have s2 : ((i : Int) + (k : Int)).toNat = i + k := by omega
        have s4 : ((p : Int) + (k : Int)).toNat = p + k := by omega
        have b1 : (0 : Int) ≤ (i : Int) + (k : Int) := by omega
        have b2 : (i : Int) + (k : Int) < (n : Int) := by omega
        have b3 : (0 : Int) ≤ (p : Int) + (k : Int) := by omega
        have b4 : (p : Int) + (k : Int) < (n : Int) := by omega
        have b5 : (k : Int) < 258 := by omega
        have HF : Hid (258 - k = (258 - (k + 1)) + 1) := Lib.hid (by omega)
        have HX : Hid (t.getD (i + k) 0 = x ∧ t.getD (i + k - d) 0 = y) := Lib.hid (by rw [show i + k - d = p + k by omega]; simp [List.getD_eq_getElem?_getD, hx, hy])
        have HD := Lib.hid hd
        clear hd
        by_cases hxy : x = y
        · have he : ((y : Int) == (x : Int)) = true := by rw [beq_iff_eq]; omega
          have HQ2 : Hid (q = mlF t i d (258 - (k + 1)) (k + 1)) := Lib.hid (by rw [HQ.out, HF.out, mlF, if_pos ⟨by rw [HN.out]; exact h2, by rw [HX.out.1, HX.out.2, hxy]⟩])
          clear hx hy hxy HQ
          go_wp2
          go_quiet (fail)
          clear s1 s2 s3 s4
          go_wp2
          go_roundw
          case rel => exact ⟨k + 1, _, by omega, by omega, by go_num, HQ2, rfl⟩
          case measure => simp [intOf]; omega
        · have he : ((y : Int) == (x : Int)) = false := by rw [beq_eq_false_iff_ne]; omega
          have HQ2 : Hid (q = k) := Lib.hid (by rw [HQ.out, HF.out, mlF, if_neg (fun h => hxy (by rw [← HX.out.1, ← HX.out.2]; exact h.2))])
          clear hx hy hxy HQ
          go_wp2
          go_quiet (fail)
          clear s1 s2 s3 s4
          go_wp2
          go_ret
          exact ⟨by rw [HQ2.out]; rfl, _, World.drewN_drewN ..⟩
      · have hie : i + k = n := by omega
        have b5 : (k : Int) < 258 := by omega
        have s1 : IntKind.i64.wrap ((i : Int) + (k : Int)) = (i : Int) + (k : Int) := IntWalk.i64_in _ (by omega)
        have b2 : decide ((i : Int) + (k : Int) < (n : Int)) = false := by rw [decide_eq_false_iff_not]; omega
        have HQ2 : Hid (q = k) := Lib.hid (by rw [HQ.out, show 258 - k = (258 - (k + 1)) + 1 by omega, mlF, if_neg (fun h => by have h1 := h.1; rw [HN.out] at h1; omega)])
        clear hie HQ hd
        go_wp2
        go_quiet (fail)
        clear s1
        go_wp2
        go_ret
        exact ⟨by rw [HQ2.out]; rfl, _, World.drewN_drewN ..⟩
    · have hke : k = 258 := by omega
      have HQ2 : Hid (q = 258) := Lib.hid (by rw [HQ.out, hke]; rfl)
      subst hke
      clear HQ h1 hd
      go_wp2
      go_quiet (fail)
      go_wp2
      go_ret
      exact ⟨by rw [HQ2.out]; rfl, _, World.drewN_drewN ..⟩

set_option maxHeartbeats 1000000 in
set_option maxRecDepth 100000 in
theorem passes_is (g : Nat) (A : Option Addr) (n c m : Nat) (t : List Nat) (w : World) (hf : Fnd w g A n c t m) (hr : Rd w A (b8 t)) (hn : t.length = n) (hby : By t) (hl : n ≤ 4096) (hc : n ≤ c) (hm : m < n) :
    Calls Tryz.prog 128 #[.pointer (some ⟨g, 0, none⟩), .int .i64 (m : Int)] w fun e w' => e = .returned (.tuple #[]) ∧ Fnd w' g A n c t (m + 1) ∧ KeptS w w' (fun q => q = g) ∧ w'.heap.size = w.heap.size := by
  have HN := Lib.hid hn
  have ht := hf.text
  by_cases h5 : m + 5 ≤ n
  · have PN := Lib.hid (fnumber_is g A n c m m t w hf hr hn hby hl hc h5)
    have hh := hs_lt t m
    have ca := hf.ahead (p := m) (by omega)
    have cl := hf.last hh
    have fa := hf.free (1025 + m)
    have fl := hf.free (1 + hs t m)
    have HP := Lib.hid (hf.pass (by omega) (by omega))
    have HF := Lib.hid hf
    clear hr hn hby hf
    go_enter Tryz.func128, Tryz.ntmps128
    go_wp2_with (go_at_call 131; refine PN.out.mono ?_; rintro e w1 ⟨rfl, rfl⟩)
    have i0 : (0 : Int) ≤ ((hs t m : Nat) : Int) := by omega
    have i1 : ((hs t m : Nat) : Int) < 1024 := by omega
    have i2 : (0 : Int) ≤ (m : Int) := by omega
    have i3 : (m : Int) < 4096 := by omega
    go_region
    go_wp2
    go_end0
    refine ⟨rfl, HP.out, ?_, by simp⟩
    have k := (kept1_set w g (1025 + m) (.int .i64 ((lastOf t m (hs t m) : Nat) : Int))).trans (kept1_set _ g (1 + hs t m) (.int .i64 ((m : Int) + 1))) (fun q hq => .inl hq)
    exact ⟨k.os, k.tape, k.output, k.size, k.block⟩
  · have HE : Hid (Fnd w g A n c t (m + 1)) := Lib.hid (by unfold Fnd; rw [fcl_late _ t (by omega)]; exact hf)
    clear hr hn hby hf
    go_enter Tryz.func128, Tryz.ntmps128
    go_wp2_with fail
    exact bodyPost_ret (v := .tuple #[]) (by simp [results, Tryz.results128, go_sem]) rfl ⟨rfl, HE.out, KeptS.refl _ _, rfl⟩
end Go.Proofs.YtljfmcgeiceagaaGreat

/- The finder's match: the longest at a place, the nearest of them. -/
namespace Go.Proofs.YtljfmcgeiceagaaGreat
open Go Go.RowKit
set_option linter.unusedVariables false
set_option linter.unusedSimpArgs false

theorem best_short {t : List Nat} {i : Nat} (hi : i ≤ t.length) (h : t.length < i + 5) : best t i = (0, 0) := best_none hi (fun d _ _ _ => by have := ml_len d hi; omega)
theorem best_of (t : List Nat) (i : Nat) {D : Nat} {q : Nat × Nat} (h : bs5 t i D = q) (h1 : bs5 t i (min i 2048) = bs5 t i D) : best t i = q := by rw [← bs5_best, h1, h]
theorem bs5_take {t : List Nat} {i D d : Nat} {q : Nat × Nat} (h : bs5 t i D = q) (hd : d = D + 1) (h5 : 5 ≤ ml t i d) (hq : q.1 < ml t i d) : bs5 t i d = (ml t i d, d) := by subst hd; rw [bs5, h, if_pos ⟨h5, hq⟩]
theorem bs5_pass {t : List Nat} {i D d : Nat} {q : Nat × Nat} (h : bs5 t i D = q) (hd : d = D + 1) (hn : ml t i d < 5 ∨ ml t i d ≤ q.1) : bs5 t i d = q := by subst hd; rw [bs5, h, if_neg (by omega)]

theorem Bt.set3 {W : World} {g : Nat} {x : TkV} (h : Bt W g x) (y : TkV) : Bt (((W.setCell ⟨g, 0, none⟩ (.slice y.A y.lit.length y.c)).setCell ⟨g, 1, none⟩ (.int .i64 y.d)).setCell ⟨g, 2, none⟩ (.int .i64 y.l)) g y := by
  have h1 := heap_setCell_same W g 0 _ _ (.slice y.A y.lit.length y.c) h
  have h2 := heap_setCell_same _ g 1 _ _ (.int .i64 y.d) h1
  exact heap_setCell_same _ g 2 _ _ (.int .i64 y.l) h2
theorem Below.set3 {B g : Nat} {w W : World} (h : Below B w W) (hg : B ≤ g) (u v x : Value) : Below B w (((W.setCell ⟨g, 0, none⟩ u).setCell ⟨g, 1, none⟩ v).setCell ⟨g, 2, none⟩ x) :=
  ((h.setCell (by exact hg) u).setCell (by exact hg) v).setCell (by exact hg) x
theorem Bt.other3 {W : World} {g b : Nat} {x : TkV} (h : Bt W b x) (hb : b ≠ g) (u v z : Value) : Bt (((W.setCell ⟨g, 0, none⟩ u).setCell ⟨g, 1, none⟩ v).setCell ⟨g, 2, none⟩ z) b x := by
  have h1 := (heap_setCell_other W ⟨g, 0, none⟩ b u hb).trans h
  have h2 := (heap_setCell_other _ ⟨g, 1, none⟩ b v hb).trans h1
  exact (heap_setCell_other _ ⟨g, 2, none⟩ b z hb).trans h2

set_option maxHeartbeats 4000000 in
set_option maxRecDepth 100000 in
theorem match_is (g : Nat) (A : Option Addr) (n c i : Nat) (t : List Nat) (w : World) (hf : Fnd w g A n c t i) (hr : Rd w A (b8 t)) (hn : t.length = n) (hby : By t) (hl : n ≤ 4096) (hc : n ≤ c) (hi : i < n) :
    Calls Tryz.prog 127 #[.pointer (some ⟨g, 0, none⟩), .int .i64 (i : Int)] w fun e w' => e = .returned (.agg #[.slice none 0 0, .int .i64 (((best t i).2 : Nat) : Int), .int .i64 (((best t i).1 : Nat) : Int)]) ∧ Below w.heap.size w w' := by
  have HR := Lib.hid hr
  have HN := Lib.hid hn
  have HY := Lib.hid hby
  have HF := Lib.hid hf
  have hg := hf.lt
  have HC : Hid (∀ W, Below w.heap.size w W → W.cell? ⟨g, 0, none⟩ = some (.slice A n c)) := Lib.hid (fun W hb => (hf.below hb).text)
  have PN : Hid (∀ W, Below w.heap.size w W → i + 5 ≤ n → Calls Tryz.prog 131 #[.pointer (some ⟨g, 0, none⟩), .int .i64 (i : Int)] W fun e w' => e = .returned (.int .i64 ((hs t i : Nat) : Int)) ∧ w' = W) :=
    Lib.hid (fun W hb h5 => (fnumber_is g A n c i i t W (hf.below hb) (hr.below hb) hn hby hl hc h5).mono (fun _ _ h => ⟨h.1, h.2.symm⟩))
  have PA : Hid (∀ W p, Below w.heap.size w W → p < i → Calls Tryz.prog 132 #[.pointer (some ⟨g, 0, none⟩), .int .i64 (p : Int), .int .i64 (i : Int)] W fun e w' => e = .returned (.int .i64 ((ml t i (i - p) : Nat) : Int)) ∧ ∃ d, w' = W.drewN d) :=
    Lib.hid (fun W p hb hp => alike_is g A n c p i i t W (hf.below hb) (hr.below hb) hn hl hp (by omega))
  obtain ⟨q, hq⟩ : ∃ q, q = best t i := ⟨_, rfl⟩
  have HQ := Lib.hid hq
  rw [← hq]
  have hg1 : g < w.heap.size + 1 := by omega
  clear hr hn hby hf hq
  by_cases h5 : i + 5 ≤ n
  · have hh := hs_lt t i
    have i0 : (0 : Int) ≤ ((hs t i : Nat) : Int) := by omega
    have i1 : ((hs t i : Nat) : Int) < 1024 := by omega
    have ct := HF.out.text
    have cl := HF.out.last hh
    have hB2 : Below w.heap.size w ((w.alloc (.cells #[.slice none 0 0, .int .i64 0, .int .i64 0] 125)).alloc (.cells #[.slice none 0 0, .int .i64 0, .int .i64 0] 125)) := ((Below.refl _ _).alloc (Nat.le_refl _) _).alloc (by simp) _
    have HB2 := Lib.hid hB2
    have HT2 : Hid (Bt ((w.alloc (.cells #[.slice none 0 0, .int .i64 0, .int .i64 0] 125)).alloc (.cells #[.slice none 0 0, .int .i64 0, .int .i64 0] 125)) (w.heap.size + 1) tkZero) := Lib.hid (by have := Bt.new (w.alloc (.cells #[.slice none 0 0, .int .i64 0, .int .i64 0] 125)) tkZero; rw [show (w.alloc (.cells #[.slice none 0 0, .int .i64 0, .int .i64 0] 125)).heap.size = w.heap.size + 1 by simp] at this; exact this)
    have HT1 : Hid (Bt ((w.alloc (.cells #[.slice none 0 0, .int .i64 0, .int .i64 0] 125)).alloc (.cells #[.slice none 0 0, .int .i64 0, .int .i64 0] 125)) w.heap.size tkZero) := Lib.hid ((Bt.new w tkZero).below ((Below.refl _ _).alloc (Nat.le_refl _) _) (by simp))
    clear hB2
    go_enter Tryz.func127, Tryz.ntmps127
    go_wp2_with fail
    go_step3
    go_wp2_with fail
    go_quiet ((go_at_call 131; exact Calls.quiet_of_same (PN.out _ (below_drewN HB2.out _) h5)))
    go_wp2_with fail
    go_step3
    go_wp2_with fail
    have HB3 := Lib.hid (below_drewN HB2.out nq)
    have HT3 : Hid (Bt (((w.alloc (.cells #[.slice none 0 0, .int .i64 0, .int .i64 0] 125)).alloc (.cells #[.slice none 0 0, .int .i64 0, .int .i64 0] 125)).drewN nq) (w.heap.size + 1) ⟨none, 0, [], ((0 : Nat) : Int), ((0 : Nat) : Int)⟩) := Lib.hid HT2.out
    have HT4 : Hid (Bt (((w.alloc (.cells #[.slice none 0 0, .int .i64 0, .int .i64 0] 125)).alloc (.cells #[.slice none 0 0, .int .i64 0, .int .i64 0] 125)).drewN nq) w.heap.size tkZero) := Lib.hid HT1.out
    clear HB2 HT2 HT1 ct cl
    go_loopw [6, 7, 8] (fun v u7 u8 wr => ∃ (x dd ll : Nat), v = .int .i64 ((lastOf t x (hs t i) : Nat) : Int) ∧ x ≤ i ∧ i - x ≤ 2048 ∧ Hid (bs5 t i (i - x) = (ll, dd)) ∧ Hid (Bt wr (w.heap.size + 1) ⟨none, 0, [], (dd : Int), (ll : Int)⟩) ∧ Hid (Bt wr w.heap.size tkZero) ∧ Hid (Below w.heap.size w wr)) (fun v _ _ _ => (intOf v).toNat)
    case atStart => exact ⟨i, 0, 0, rfl, Nat.le_refl _, by omega, Lib.hid (by rw [Nat.sub_self]; rfl), HT3, HT4, HB3⟩
    case round =>
      clear HT3 HT4 HB3
      obtain ⟨x, dd, ll, rfl, hx, hx2, HBS, HT, HT1, HB⟩ := hrel
      have HSK : Hid (∀ D', i - x ≤ D' → D' ≤ i - lastOf t x (hs t i) → bs5 t i D' = bs5 t i (i - x)) := Lib.hid (fun D' a b => chain_skip (by rw [HN.out]; omega) hx a b)
      have HLL : Hid (ll ≤ 258 ∧ dd ≤ i - x) := Lib.hid (by have := bs5_le t i (i - x); rw [HBS.out] at this; exact this)
      have hll := HLL.out.1
      have hdd := HLL.out.2
      obtain ⟨b0, b1, b2⟩ := HT.out.facts
      obtain ⟨f0, f1, f2⟩ := HT.out.thaw
      obtain ⟨a0, a1, a2⟩ := HT1.out.facts
      obtain ⟨e0, e1, e2⟩ := HT1.out.thaw
      simp only [List.length_nil, tkZero] at b0 b1 b2 a0 a1 a2
      by_cases h0 : lastOf t x (hs t i) = 0
      · have HE : Hid (q = (ll, dd)) := Lib.hid (by rw [HQ.out]; exact best_of t i HBS.out (HSK.out _ (by omega) (by omega)))
        rw [h0]
        go_wp2_with fail
        rw [Exit.noGoto_ret]
        refine bodyPost_ret (v := .agg #[.slice none 0 0, .int .i64 (dd : Int), .int .i64 (ll : Int)]) (by simp [results, Tryz.results127, go_sem, a0, a1, a2, e0, e1, e2]) rfl ⟨by rw [HE.out], ?_⟩
        exact Below.set3 HB.out (Nat.le_refl _) _ _ _
      · obtain ⟨p, hp⟩ : ∃ p, lastOf t x (hs t i) = p + 1 := ⟨lastOf t x (hs t i) - 1, by omega⟩
        obtain ⟨hpx, hp5, hph⟩ := lastOf_pos hp
        have HA : Hid (∀ W, Below w.heap.size w W → W.cell? ⟨g, 1025 + p, none⟩ = some (.int .i64 ((lastOf t p (hs t i) : Nat) : Int))) := Lib.hid (fun W hb => by
          have h := (HF.out.below hb).ahead (p := p) (by omega)
          unfold ahd at h
          rw [if_pos ⟨by omega, hp5⟩, hph] at h
          exact h)
        have hlast := lastOf_le t (hs t i) p
        have HPX := Lib.hid hp
        rw [hp, show ((p + 1 : Nat) : Int) = (p : Int) + 1 by omega]
        have ca := HA.out _ HB.out
        have p0 : (0 : Int) ≤ (p : Int) := by omega
        have p1 : (p : Int) < 4096 := by rw [HN.out] at hp5; omega
        clear hp hph hp5 h0
        by_cases hw : 2048 < i - p
        · have HE : Hid (q = (ll, dd)) := Lib.hid (by rw [HQ.out]; exact best_of t i HBS.out (HSK.out _ (by omega) (by rw [HPX.out]; omega)))
          have hw3 : (2048 : Int) < (i : Int) - (p : Int) := by omega
          go_wp2_with fail
          rw [Exit.noGoto_ret]
          refine bodyPost_ret (v := .agg #[.slice none 0 0, .int .i64 (dd : Int), .int .i64 (ll : Int)]) (by simp [results, Tryz.results127, go_sem, a0, a1, a2, e0, e1, e2]) rfl ⟨by rw [HE.out], ?_⟩
          exact Below.set3 HB.out (Nat.le_refl _) _ _ _
        · have hw3 : ¬ (2048 : Int) < (i : Int) - (p : Int) := by omega
          have HB6 : Hid (bs5 t i (i - p - 1) = (ll, dd)) := Lib.hid (by rw [HSK.out _ (by omega) (by rw [HPX.out]; omega), HBS.out])
          have hm := ml_le t i (i - p)
          have hpi : i - p = (i - p - 1) + 1 := by omega
          have HPI := Lib.hid hpi
          have P6 := Lib.hid (PA.out _ p HB.out (by omega))
          have HTK : Hid (5 ≤ ml t i (i - p) → ll < ml t i (i - p) → bs5 t i (i - p) = (ml t i (i - p), i - p)) := Lib.hid (fun h1 h2 => bs5_take HB6.out HPI.out h1 h2)
          have HPS : Hid (ml t i (i - p) < 5 ∨ ml t i (i - p) ≤ ll → bs5 t i (i - p) = (ll, dd)) := Lib.hid (fun h1 => bs5_pass HB6.out HPI.out h1)
          have HFU : Hid (bs5 t i (i - p) = (258, i - p) → q = (258, i - p)) := Lib.hid (fun h => by rw [HQ.out]; exact best_of t i h (bs5_full (by rw [h]) (by omega)))
          obtain ⟨M, hM⟩ : ∃ M, M = ml t i (i - p) := ⟨_, rfl⟩
          rw [← hM] at hm P6 HTK HPS
          clear hM hpi
          go_wp2_with fail
          refine P6.out.mono ?_
          rintro e w1 ⟨rfl, d1, rfl⟩
          by_cases h5' : M < 5
          · have HBN := Lib.hid (HPS.out (.inl h5'))
            go_wp2_with fail
            go_roundw
            case rel => exact ⟨p, dd, ll, rfl, by omega, by omega, HBN, Lib.hid HT.out, Lib.hid HT1.out, Lib.hid (below_drewN HB.out d1)⟩
            case measure => simp [intOf]; omega
          · by_cases h6 : M ≤ ll
            · have HBN := Lib.hid (HPS.out (.inr h6))
              go_wp2_with fail
              go_roundw
              case rel => exact ⟨p, dd, ll, rfl, by omega, by omega, HBN, Lib.hid HT.out, Lib.hid HT1.out, Lib.hid (below_drewN HB.out d1)⟩
              case measure => simp [intOf]; omega
            · have HBN := Lib.hid (HTK.out (by omega) (by omega))
              by_cases h7 : M = 258
              · subst h7
                have HE : Hid (q = (258, i - p)) := Lib.hid (HFU.out HBN.out)
                have hip : ((i - p : Nat) : Int) = (i : Int) - (p : Int) := by omega
                have HIP := Lib.hid hip
                clear hip
                go_wp2_with fail
                rw [Exit.noGoto_ret]
                refine bodyPost_ret (v := .agg #[.slice none 0 0, .int .i64 ((i : Int) - (p : Int)), .int .i64 (258)]) (by simp [results, Tryz.results127, go_sem, a0, a1, a2, e0, e1, e2]) rfl ⟨by rw [HE.out]; simp only [HIP.out]; rfl, ?_⟩
                exact Below.set3 (Below.set3 (below_drewN HB.out d1) (Nat.le_succ _) _ _ _) (Nat.le_refl _) _ _ _
              · have HIP : Hid (((i - p : Nat) : Int) = (i : Int) - (p : Int)) := Lib.hid (by omega)
                go_wp2_with fail
                go_roundw
                case rel => exact ⟨p, i - p, M, rfl, by omega, by omega, HBN, Lib.hid (by have h := Bt.set3 (W := wr.drewN d1) (g := w.heap.size + 1) HT.out ⟨none, 0, [], ((i - p : Nat) : Int), (M : Int)⟩; rw [HIP.out] at h ⊢; exact h), Lib.hid (Bt.other3 (W := wr.drewN d1) HT1.out (by omega) _ _ _), Lib.hid (Below.set3 (below_drewN HB.out d1) (Nat.le_succ _) _ _ _)⟩
                case measure => simp [intOf]; omega
  · have HE : Hid (q = (0, 0)) := Lib.hid (by rw [HQ.out]; exact best_short (by rw [HN.out]; omega) (by rw [HN.out]; omega))
    have ct := HF.out.text
    go_enter Tryz.func127, Tryz.ntmps127
    go_wp2_with fail
    go_step3
    go_wp2_with fail
    rw [Exit.noGoto_ret]
    refine bodyPost_ret (v := .agg #[.slice none 0 0, .int .i64 0, .int .i64 0]) (by simp [results, Tryz.results127, go_sem]) rfl ⟨by rw [HE.out]; rfl, ?_⟩
    exact ((Below.refl _ _).alloc (Nat.le_refl _) _).alloc (by simp) _
end Go.Proofs.YtljfmcgeiceagaaGreat

/- literal: a token of bytes of its own. -/
namespace Go.Proofs.YtljfmcgeiceagaaGreat
open Go Go.RowKit
set_option linter.unusedVariables false
set_option linter.unusedSimpArgs false

theorem own_cells {w : World} {base g n c : Nat} {e : TypeId} {xs : List Value} (h : w.ownsRow base e 1 (.slice (some ⟨g, 0, none⟩) n c) n xs) : ∃ cur : List Value, w.heap[g]? = some (.cells cur.toArray e (0, 0)) ∧ cur.length = c := by
  rcases h.2 with ⟨h', _⟩ | ⟨g', cap', cur, h', _, hg, hnc, _, hcs, _⟩
  · simp at h'
  · simp only [Value.slice.injEq, Option.some.injEq, Addr.mk.injEq, and_true, true_and] at h'
    obtain ⟨rfl, rfl⟩ := h'
    exact ⟨cur.toList, by simpa using hg, by simpa using hcs⟩
theorem own_full {w : World} {base g n : Nat} {e : TypeId} {xs : List Value} (h : w.heap[g]? = some (.cells xs.toArray e (0, 0))) (hl : xs.length = n) (hb : base ≤ g) (hm : n ≤ maxLen) : w.ownsRow base e 1 (.slice (some ⟨g, 0, none⟩) n n) n xs :=
  ⟨by simpa using hl, .inr ⟨g, n, xs.toArray, rfl, hb, h, Nat.le_refl _, hm, by simpa using hl, by simp [← hl]⟩⟩

theorem run_copy_full {W0 W1 : World} {g n c base : Nat} {A : Option Addr} {bs : List Nat} {cur : List Value} (hg : W1.heap[g]? = some (.cells cur.toArray 5 (0, 0))) (hcl : cur.length = n) (hn : bs.length = n) (hsrc : Rd W1 A (b8 bs)) (hB : Below base W0 W1) (hb : base ≤ g) (ty : TypeId) :
    ∃ W2, (Builtin.copy_ #[27, 27] ty #[.slice (some ⟨g, 0, none⟩) n n, .slice A n c]).run Tryz.prog W1 = .ok (.int .i64 (n : Int)) W2 ∧ W2.heap[g]? = some (.cells (b8 bs).toArray 5 (0, 0)) ∧ Below base W0 W2 := by
  have hsz : (Tryz.prog.info? 5).map (·.size) = some 1 := by kernel_rfl
  by_cases h0 : n = 0
  · subst h0
    have hbs : bs = [] := List.eq_nil_of_length_eq_zero hn
    have hcu : cur = [] := List.eq_nil_of_length_eq_zero hcl
    subst hbs hcu
    refine ⟨W1, run_copy_none (P := Tryz.prog) W1 27 27 ty 5 (some ⟨g, 0, none⟩) A 0 0 0 c Tryz.underlying27 hsz rfl, hg, hB⟩
  · obtain ⟨ga, off, rfl, _, hc⟩ := hsrc (by intro e; have := congrArg List.length e; rw [b8_length, List.length_nil] at this; omega)
    have hl : (b8 bs).length = n := by rw [b8_length, hn]
    have hr := run_copy_row (P := Tryz.prog) W1 27 27 ty 5 g 0 n n ⟨ga, off, none⟩ n c cur.toArray 5 (b8 bs) Tryz.underlying27 hsz hg (by rw [hl]; exact (Nat.min_self n).symm) (fun j v hv => by rw [add_zero_off]; exact hc j v hv) (by rw [hl]; simp [hcl]) (b8_one bs)
    rw [hl] at hr
    refine ⟨_, hr, ?_, below_setRow hB hb _⟩
    have h2 := setRow_heap W1 g cur.toArray (((cur.toArray.toList.take 0) ++ b8 bs ++ cur.toArray.toList.drop (0 + n)).toArray) _ _ hg
    rw [h2]
    simp [hcl]

set_option maxHeartbeats 1000000 in
set_option maxRecDepth 100000 in
theorem literal_is (A : Option Addr) (n c : Nat) (bs : List Nat) (w : World) (hr : Rd w A (b8 bs)) (hn : bs.length = n) (hl : n ≤ 4096) :
    Calls Tryz.prog 129 #[.slice A n c] w fun e w' => ∃ A' c', e = .returned (.agg #[.slice A' n c', .int .i64 0, .int .i64 0]) ∧ w'.ownsRow (w.heap.size + 1) 5 1 (.slice A' n c') n (b8 bs) ∧ Below w.heap.size w w' := by
  obtain ⟨inf, hi, hz0, hz1, hz2⟩ := info_parts info8
  have HI := Lib.hid hi
  have HZ0 := Lib.hid hz0
  have HZ1 := Lib.hid hz1
  have HZ2 := Lib.hid hz2
  have HN := Lib.hid hn
  have HR := Lib.hid hr
  have hsz : (Tryz.prog.info? 5).map (·.size) = some 1 := by kernel_rfl
  have HS := Lib.hid hsz
  have HPOS : Hid (∀ W, Below w.heap.size w W → 0 < (b8 bs).length → ∃ ad, A = some ad ∧ ∀ j v, (b8 bs)[j]? = some v → W.cell? (ad.add j) = some v) := Lib.hid (fun W hb h0 => by
    obtain ⟨g, off, e, hg, hc⟩ := (hr.below hb) (by intro e; rw [e] at h0; simp at h0)
    exact ⟨_, e, fun j v hv => by rw [add_zero_off]; exact hc j v hv⟩)
  clear hi hz0 hz1 hz2 hn hr hsz
  go_enter Tryz.func129, Tryz.ntmps129
  have HB0 : Hid (Below w.heap.size w (w.alloc (.cells #[.slice none 0 0, .int .i64 0, .int .i64 0] 125))) := Lib.hid ((Below.refl _ _).alloc (Nat.le_refl _) _)
  have HT0 := Lib.hid (Bt.new w tkZero)
  have HSZ : Hid ((w.alloc (.cells #[.slice none 0 0, .int .i64 0, .int .i64 0] 125)).heap.size = w.heap.size + 1) := Lib.hid (by simp)
  go_wp2_with (first
    | (at_make; refine wpList_make_full _ rfl (.tmp 5) (.tmp 5) 27 rfl (w.heap.size + 1) 5 inf (.int .u8 0) 1 Tryz.underlying27 HI.out HZ0.out HZ1.out .i64 .i64 _ _ n rfl rfl rfl rfl (by rw [HZ2.out]; omega) (by unfold maxLen; omega) (by simp) ?_; intro w1 hown1 hg1; obtain ⟨cur, hcur, hcl⟩ := own_cells hown1; have HCU : Hid (w1.heap[w.heap.size + 1]? = some (.cells cur.toArray 5 (0, 0))) := Lib.hid (HSZ.out ▸ hcur); have HCL := Lib.hid hcl; have HB1 : Hid (Below (w.heap.size + 1) (w.alloc (.cells #[.slice none 0 0, .int .i64 0, .int .i64 0] 125)) w1) := Lib.hid (below_of_grown hg1 (by simp) (fun k hk => by cases hk)); clear hown1 hg1 hcur hcl)
    | fail)
  obtain ⟨W2, hrun, hg2, hb2⟩ := run_copy_full (A := A) (c := c) (bs := bs) (n := n) HCU.out HCL.out HN.out (HR.out.below (HB0.out.trans (HB1.out.mono (by simp)))) HB1.out (Nat.le_refl _) 3
  rw [hrun]
  have HO2 := Lib.hid (own_full (base := w.heap.size + 1) hg2 (by rw [b8_length, HN.out]) (Nat.le_refl _) (by unfold maxLen; omega))
  have HB2 := Lib.hid hb2
  have HT2 := Lib.hid (HT0.out.below hb2 (Nat.lt_succ_self _))
  clear hrun hg2 hb2 HT0
  obtain ⟨c0, c1, c2⟩ := HT2.out.facts
  obtain ⟨f0, f1, f2⟩ := HT2.out.thaw
  simp only [List.length_nil, tkZero] at c0 c1 c2
  go_wp2
  have HK : Hid (KeptS W2 (((W2.setCell ⟨w.heap.size, 0, none⟩ (.slice (some ⟨w.heap.size + 1, 0, none⟩) n n)).setCell ⟨w.heap.size, 1, none⟩ (.int .i64 0)).setCell ⟨w.heap.size, 2, none⟩ (.int .i64 0)) (fun q => q = w.heap.size)) := Lib.hid (((kept1_set W2 w.heap.size 0 _).trans (kept1_set _ w.heap.size 1 _) (fun q hq => .inl hq)).trans (kept1_set _ w.heap.size 2 _) (fun q hq => .inl hq))
  refine bodyPost_ret (v := .agg #[.slice (some ⟨w.heap.size + 1, 0, none⟩) n n, .int .i64 0, .int .i64 0]) (by simp [results, Tryz.results129, go_sem, c0, c1, c2, f0, f1, f2]) rfl ⟨_, _, rfl, own_keptS HO2.out HK.out (fun q hq e => by simp only [Value.ownBlock, Option.some.injEq] at hq; omega), ?_⟩
  exact HB0.out.trans ((HB2.out.mono (Nat.le_succ _)).trans (HK.out.below (fun q hq => by omega) (by have := HB2.out.size; rw [HSZ.out] at this; omega)))
end Go.Proofs.YtljfmcgeiceagaaGreat
