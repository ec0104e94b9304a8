/- QuotaShares: its walk. -/
import Derived.Test.YthcmkjiemlfpcaaSh6
import Derived.Test.YthcmkjiemlfpcaaWalkQuotaFair
namespace Go.Proofs.Ythcmkjiemlfpcaa
open Go Go.RowKit
set_option linter.unusedVariables false

/-- What is answered. -/
def ShRes (total : Int) (l res : List Int) (er : Int) : Prop :=
  (shOk total l ∧ (∃ v, IsLev total l v ∧ res = dist l v (total - capSum l v)) ∧ er = 0) ∨ (¬ shOk total l ∧ res = [] ∧ er = 131)
theorem shRes_ex (total : Int) (l : List Int) : ∃ res er, ShRes total l res er := by
  by_cases h : shOk total l
  · obtain ⟨v, hv⟩ := lev_exists h.2.2 h.2.1.1
    exact ⟨_, _, .inl ⟨h, ⟨v, hv, rfl⟩, rfl⟩⟩
  · exact ⟨_, _, .inr ⟨h, rfl, rfl⟩⟩
theorem shRes_len {total : Int} {l res : List Int} {er : Int} (h : ShRes total l res er) : res.length ≤ 64 := by
  rcases h with ⟨h, ⟨v, hv, rfl⟩, _⟩ | ⟨_, rfl, _⟩
  · rw [dist_length]; exact h.1
  · simp

def SharedE (w : World) (l : List Int) (er : Int) (e : Ending) (w' : World) : Prop :=
  ∃ A c, e = .returned (.tuple #[.slice A l.length c, .int .i64 er]) ∧ w'.ownsRow w.heap.size 2 1 (.slice A l.length c) l.length (i64s l) ∧ Below w.heap.size w w'

theorem shares_any (A : Option Addr) (c n : Nat) (l res : List Int) (total er : Int) (w : World) (hr : Rd w A (i64s l)) (hn : l.length = n) (hc : n ≤ c) (hn8 : n * 8 ≤ 140737488351232) (hs : ShRes total l res er) :
    Calls Try.prog 22 #[.int .i64 total, .slice A n c] w (SharedE w res er) := by
  rcases hs with ⟨hs, ⟨v, hv, rfl⟩, rfl⟩ | ⟨hs, rfl, rfl⟩
  · exact shared_is A c n l total v w hr hn hc hs hv
  · exact (shares_bad A c n l total w hr hn hc hs hn8).mono fun e w' ⟨he, hb⟩ => ⟨none, 0, he, World.ownsRow_nil _ _ _ _, hb⟩
theorem rshares_any (A : Option Addr) (c n : Nat) (l res : List Int) (total er : Int) (w : World) (hr : Rd w A (i64s l)) (hn : l.length = n) (hc : n ≤ c) (hs : ShRes total l res er) :
    Calls Try.prog 26 #[.int .i64 total, .slice A n c] w (SharedE w res er) := by
  rcases hs with ⟨hs, ⟨v, hv, rfl⟩, rfl⟩ | ⟨hs, rfl, rfl⟩
  · exact rshares_ok A c n l total v w hr hn hc (hn ▸ hs.1) hs.2.1.1 hs.2.1.2 hs.2.2 hv
  · exact (rshares_bad A c n l total w hr hn hc hs).mono fun e w' ⟨he, hb⟩ => ⟨none, 0, he, World.ownsRow_nil _ _ _ _, hb ▸ Below.refl _ _⟩

theorem rd_lit64 (w : World) (cs : List Value) (e : TypeId) : Rd (w.alloc (.cells cs.toArray e)) (some ⟨w.heap.size, 0, none⟩) cs := by
  intro _
  refine ⟨w.heap.size, 0, rfl, by simp, fun k u hu => ?_⟩
  have h := cell_of_row (w.alloc (.cells cs.toArray e)) w.heap.size k cs.toArray e (0, 0) (heap_alloc_new w _)
  rw [Nat.zero_add, h]
  simpa using hu
theorem rd_pre64 {w : World} {base : Nat} {e : TypeId} {n c : Nat} {A : Option Addr} {xs ys : List Int} (h : w.ownsRow base e 1 (.slice A n c) n (i64s (xs ++ ys))) : Rd w A (i64s xs) := by
  have := (rd_own h).take_ xs.length
  rw [i64s_append, List.take_left' (i64s_length xs)] at this
  exact this

set_option maxHeartbeats 2000000 in
set_option maxRecDepth 100000 in
theorem quotaShares_walk (a0 : Int) (A1 : Option Addr) (c1 : Nat) (b1 : List Int) (w : World) (w0 : -9223372036854775808 ≤ a0 ∧ a0 ≤ 9223372036854775807) (c1l : b1.length ≤ c1) (r1 : Rd w A1 (i64s b1)) (y1 : W64 b1) (l1 : b1.length * 8 ≤ 140737488351232) (m1 : c1 ≤ maxLen) :
    Calls Try.prog 9 #[.int .i64 a0, .slice A1 b1.length c1] w fun e w' => e = .returned (.bool true) ∧ Below w.heap.size w w' := by
  obtain ⟨resM, erM, hsM⟩ := shRes_ex a0 (b1.map mv)
  obtain ⟨res, er, hs⟩ := shRes_ex a0 b1
  have hrl := shRes_len hs
  have HSM := Lib.hid hsM
  have HS := Lib.hid hs
  obtain ⟨n, hn⟩ : ∃ n, n = b1.length := ⟨_, rfl⟩
  rw [← hn] at c1l l1 ⊢
  have HN := Lib.hid hn
  have HR := Lib.hid r1
  have h0 := own_lit64 w w.heap.size [] 2 0 (Nat.le_refl _) (by decide) rfl
  have hr1 : Rd (w.alloc (.cells [].toArray 2)) A1 (i64s b1) := r1.below ((Below.refl _ _).alloc (Nat.le_refl _) _)
  clear hsM hs hn y1 w0 m1 r1
  go_enter Try.func9, Try.ntmps9
  go_wp2_with (first
    | (at_builtin; (refine app64 _ rfl (.tmp 14) (.tmp 15) rfl w.heap.size _ 0 [] rfl h0 A1 n c1 b1 rfl HN.out.symm hr1 (by omega) (by simp) ?_); intro v1 w1 hown1 hg1 _; have hz1 := hg1.size; simp only [World.size_alloc] at hz1; have HB1 := Lib.hid (((Below.refl _ _).alloc (Nat.le_refl _) _).trans (below_of_grown hg1 (by simp) (fun k hk => (h0.lt k hk).1))); clear hg1)
    | (at_builtin; ((refine app64 _ rfl (.tmp 16) (.tmp 17) rfl w.heap.size v1 _ b1 rfl (hown1.alloc _) (some ⟨w1.heap.size, 0, none⟩) 2 2 [77, 78] rfl rfl (rd_lit64 w1 _ _) (by omega) (by simp <;> omega) ?_); intro v2 w2 hown2 hg2 _; have HB2 := Lib.hid ((HB1.out.alloc (by omega) _).trans (below_of_grown hg2 (by simp <;> omega) (fun k hk => (hown1.lt k hk).1))); obtain ⟨A2, c2, rfl, _⟩ := own_shape hown2; obtain ⟨g, rfl, hg0, hgs, hgc, _⟩ := own_posR hown2 (by omega); have s0 : (0 : Int) ≤ (n : Int) := (by omega); have s1 : (n : Int) ≤ (c2 : Int) := (by omega); have HO := Lib.hid hown2; clear hown1 hown2 hg2)))
  have hf : w2.ownsRow w.heap.size 2 1 (.slice (some ⟨g, 0, none⟩) (n + 2) c2) (n + 2) (i64s (b1 ++ [77, 78])) := by
    have := HO.out
    rwa [Nat.zero_add] at this
  have hB2 := HB2.out
  have hgc' : n + 2 ≤ c2 := by omega
  have h77 : ∀ l : List Int, l.length = n → (l ++ [77, 78])[n]? = some 77 ∧ (l ++ [77, 78])[n + 1]? = some 78 := fun l hl => by
    constructor
    · rw [List.getElem?_append_right (by omega), hl, Nat.sub_self]; rfl
    · rw [List.getElem?_append_right (by omega), hl, show n + 1 - n = 1 from by omega]; rfl
  have H77 := Lib.hid h77
  clear HO h0 hr1 hz1 HB1 HB2 h77
  refine (moved_own w.heap.size g _ c2 n c2 b1 [77, 78] w2 hf HN.out.symm (by omega)).mono ?_
  rintro e w3 ⟨rfl, hf3, hg3⟩
  have hB3 : Below w.heap.size w w3 := hB2.trans (below_of_grown hg3 hB2.size (fun k hk => by injection hk with hk; omega))
  clear hf hg3 hB2
  go_wp2_with fail
  refine (shares_any (some ⟨g, 0, none⟩) c2 n (b1.map mv) resM a0 erM w3 (rd_pre64 hf3) (by simp; exact HN.out.symm) (by omega) l1 HSM.out).mono ?_
  rintro e w4 ⟨A4, c4, rfl, _, hb4⟩
  have hf4 := own_below hf3 hb4
  have hB4 : Below w.heap.size w w4 := hB3.trans (hb4.mono hB3.size)
  clear hf3 hb4 hB3
  go_wp2_with fail
  refine (back_own w.heap.size g _ c2 n c2 c1 A1 (b1.map mv) [77, 78] b1 w4 hf4 (by simp; exact HN.out.symm) HN.out.symm (HR.out.below hB4) (fun hne a ha => by
    obtain ⟨g', off', e, hg', _⟩ := HR.out (by intro h; exact hne (by simpa [i64s] using h))
    rw [e] at ha
    injection ha with ha
    subst ha
    exact hg') hg0 (by omega) c1l hB4.size).mono ?_
  rintro e w5 ⟨rfl, hf5, hg5⟩
  have hB5 : Below w.heap.size w w5 := hB4.trans (below_of_grown hg5 hB4.size (fun k hk => by injection hk with hk; omega))
  clear hf4 hg5 hB4
  go_wp2_with fail
  refine (shares_any (some ⟨g, 0, none⟩) c2 n b1 res a0 er w5 (rd_pre64 hf5) HN.out.symm (by omega) l1 HS.out).mono ?_
  rintro e w6 ⟨X, cx, rfl, hx6, hb6⟩
  have hf6 := own_below hf5 hb6
  have hB6 : Below w.heap.size w w6 := hB5.trans (hb6.mono hB5.size)
  clear hf5 hb6
  go_wp2_with fail
  refine (shares_any (some ⟨g, 0, none⟩) c2 n b1 res a0 er w6 (rd_pre64 hf6) HN.out.symm (by omega) l1 HS.out).mono ?_
  rintro e w7 ⟨Y, cy, rfl, hy7, hb7⟩
  go_wp2_with fail
  refine (marked64_own w6.heap.size res.length _ res w7 hy7 (by omega) hb7.size).mono ?_
  rintro e w8 ⟨rfl, hb8⟩
  have hB68 : Below w6.heap.size w6 w8 := hb7.trans hb8
  have hB8 : Below w.heap.size w w8 := hB6.trans (hB68.mono hB6.size)
  have hf8 := own_below hf6 hB68
  have hx8 := own_below hx6 hB68
  clear hf6 hx6 hy7 hb7 hb8 hB6 hB68 hB5
  go_wp2_with fail
  refine (rshares_any A1 c1 n b1 res a0 er w8 (HR.out.below hB8) HN.out.symm c1l HS.out).mono ?_
  rintro e w9 ⟨Z, cz, rfl, hz9, hb9⟩
  have hB9 : Below w.heap.size w w9 := hB8.trans (hb9.mono hB8.size)
  have hf9 := own_below hf8 hb9
  have hx9 := own_below hx8 hb9
  clear hf8 hx8 hb9 hB8
  have hxl : res.length ≤ cx := by
    obtain ⟨_, _, hv, hl, _⟩ := own_shape hx9
    injection hv with _ _ h
    omega
  have hzl : res.length ≤ cz := by
    obtain ⟨_, _, hv, hl, _⟩ := own_shape hz9
    injection hv with _ _ h
    omega
  go_wp2_with fail
  refine (same64_yes X Z _ cx cz res w9 (rd_own hx9) (rd_own hz9) rfl (by omega) hxl hzl).mono ?_
  rintro e w10 ⟨rfl, n10, rfl⟩
  go_wp2_with fail
  refine (same64_yes (some ⟨g, 0, none⟩) A1 n c2 c1 b1 _ ((rd_pre64 hf9).below (below_drewN (Below.refl _ _) _)) (HR.out.below (below_drewN hB9 _)) HN.out.symm (by omega) (by omega) c1l).mono ?_
  rintro e w11 ⟨rfl, n11, rfl⟩
  have hc77 : w9.cell? ⟨g, n, none⟩ = some (.int .i64 77) := by
    have := hf9.cellAt n (by omega)
    rw [i64s_get, (H77.out b1 HN.out.symm).1] at this
    simpa using this
  have hc78 : w9.cell? ⟨g, n + 1, none⟩ = some (.int .i64 78) := by
    have := hf9.cellAt (n + 1) (by omega)
    rw [i64s_get, (H77.out b1 HN.out.symm).2] at this
    simpa using this
  have HB9 := Lib.hid hB9
  clear hf9 hx9 hz9 hB9 hxl hzl
  go_wp2
  go_ret
  exact ⟨rfl, below_drewN HB9.out _⟩
end Go.Proofs.Ythcmkjiemlfpcaa
