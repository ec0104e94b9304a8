/- Several texts in one: RecLasts, RecCmpP, RecCompact. -/
import Derived.Test.YtjipebedibjoiaaD3
import Derived.Maps.Own
import Derived.Maps.OwnOps
import Derived.Maps.Views
import Derived.Deep.CutRange
/- The map that record.lasts makes: by key, the place of its last record. -/
namespace Go.Proofs.Ytjipebedibjoiaa
open Go Go.RowKit Go.Maps Go.WideMaps
set_option linter.unusedVariables false
set_option linter.unusedSimpArgs false

theorem klaw : Keyed Try.prog 9 := string_keyed Try.underlying9
theorem kzero (w : World) : (zeroValue 3).run Try.prog w = .ok (.int .i64 0) w := by kernel_rfl
theorem run_makeMap_hint (n : Int) (w : World) : (Instr.makeMap 60 (some (.int .i64 n))).run Try.prog w = .ok (.map (some w.heap.size)) (w.alloc (.map #[] 0)) := by
  have hu := Try.underlying60
  first
    | kernel_rfl
    | simp [Instr.makeMap, run_underlying hu, asInt, asIntOf, Result.andThen]
def klOf (s : ByteArray) : Lit := .string s.data.toList
theorem klOf_inj {s t : ByteArray} (h : klOf s = klOf t) : s = t := by
  unfold klOf at h
  injection h with h
  cases s; cases t
  simpa [Array.toList_inj] using h
theorem key_of {s : ByteArray} (h : s.size ≤ maxLen) : keyOf Try.prog 9 (.string s) = some (klOf s) := keyOf_string_mk Try.underlying9 h
/-- The map behind n rounds. -/
def lasD (l : List Rc) : Nat → DataW Unit
  | 0 => .map []
  | n + 1 => (lasD l n).put (klOf (l.getD n ⟨0, 0, 0, 0, 0, ⟨#[]⟩, ⟨#[]⟩⟩).key) (.lit (.int .i64 (n : Int)))
theorem lasD_step {l : List Rc} {n : Nat} {x : Rc} (h : l[n]? = some x) : lasD l (n + 1) = (lasD l n).put (klOf x.key) (.lit (.int .i64 (n : Int))) := by
  rw [lasD, List.getD, h]
  rfl
/-- Is no record behind place i of the same key? -/
def Last (l : List Rc) (i : Nat) (x : Rc) : Prop := ∀ k y, i < k → l[k]? = some y → y.key ≠ x.key
theorem lasD_map (l : List Rc) : ∀ n, IsMap (lasD l n)
  | 0 => ⟨_, rfl⟩
  | n + 1 => by
    obtain ⟨es, h⟩ := lasD_map l n
    rw [lasD, h]
    exact ⟨_, rfl⟩
theorem lasD_at (l : List Rc) (s : ByteArray) : ∀ n, n ≤ l.length → ∃ v : Nat, (lasD l n).atKey (klOf s) (.lit (.int .i64 0)) = .lit (.int .i64 (v : Int)) ∧
    ∀ i x, i < n → l[i]? = some x → x.key = s → (v = i ↔ ∀ k y, i < k → k < n → l[k]? = some y → y.key ≠ s)
  | 0, _ => ⟨0, rfl, fun i x h => by omega⟩
  | n + 1, hn => by
    obtain ⟨v, h1, h2⟩ := lasD_at l s n (by omega)
    obtain ⟨z, hz⟩ : ∃ z, l[n]? = some z := ⟨_, List.getElem?_eq_getElem (by omega)⟩
    by_cases he : z.key = s
    · refine ⟨n, by rw [lasD_step hz, he, atKey_put_same (lasD_map l n) (by simp [klOf, WideAt.IsKeyLit])], ?_⟩
      intro i x hi hx hxs
      constructor
      · rintro rfl k y h3 h4
        omega
      · intro h
        by_cases hin : i = n
        · exact hin.symm
        · exact absurd he (h n z (by omega) (by omega) hz)
    · refine ⟨v, by rw [lasD_step hz, atKey_put_other (fun e => he (klOf_inj e).symm), h1], ?_⟩
      intro i x hi hx hxs
      have hin : i ≠ n := fun e => by subst e; rw [hx] at hz; injection hz with hz; subst hz; exact he hxs
      rw [h2 i x (by omega) hx hxs]
      constructor
      · intro h k y h3 h4 h5
        by_cases hk : k = n
        · subst hk; rw [hz] at h5; injection h5 with h5; subst h5; exact he
        · exact h k y h3 (by omega) h5
      · intro h k y h3 h4 h5
        exact h k y h3 (by omega) h5
theorem lasD_last {l : List Rc} {i : Nat} {x : Rc} (hx : l[i]? = some x) : ∃ v : Nat, (lasD l l.length).atKey (klOf x.key) (.lit (.int .i64 0)) = .lit (.int .i64 (v : Int)) ∧ (v = i ↔ Last l i x) := by
  obtain ⟨v, h1, h2⟩ := lasD_at l x.key l.length (Nat.le_refl _)
  have hi : i < l.length := (List.getElem?_eq_some_iff.1 hx).1
  refine ⟨v, h1, (h2 i x hi hx rfl).trans ⟨fun h k y h3 h5 => h k y h3 (List.getElem?_eq_some_iff.1 h5).1 h5, fun h k y h3 _ h5 => h k y h3 h5⟩⟩
set_option maxHeartbeats 1000000 in
set_option maxRecDepth 100000 in
theorem lasts_is (A : Option Addr) (n c : Nat) (l : List Rc) (w : World) (hr : Rd w A (rcCells l)) (hn : l.length = n) (hk : ∀ x ∈ l, x.key.size ≤ maxLen) (hl : n ≤ 1099511627776) :
    Calls Try.prog 41 #[.slice A n c] w fun e w' => e = .returned (.map (some w.heap.size)) ∧ w'.ownsMap Try.prog 9 (plainElem Try.prog 3) w.heap.size n (lasD l n) ∧ Below w.heap.size w w' := by
  have HR := Lib.hid hr
  have HN := Lib.hid hn
  have HK := Lib.hid hk
  clear hr hn hk
  have hmm := run_makeMap_hint (n : Int) w
  go_enter Try.func41, Try.ntmps41
  go_wp2
  go_loopw [11] (fun i wr => ∃ k : Nat, k ≤ n ∧ i = .int .i64 k ∧ wr.ownsMap Try.prog 9 (plainElem Try.prog 3) w.heap.size k (lasD l k) ∧ Below w.heap.size w wr) (fun i _ => n - (intOf i).toNat)
  case atStart => exact ⟨0, Nat.zero_le _, rfl, World.ownsMap_made _ _ _ _, (Below.refl _ _).alloc (Nat.le_refl _) _⟩
  case round =>
    obtain ⟨k, hk, rfl, hown, hnx⟩ := hrel
    by_cases hlt : k < n
    · obtain ⟨x, hx⟩ : ∃ x, l[k]? = some x := ⟨_, List.getElem?_eq_getElem (by rw [HN.out]; exact hlt)⟩
      obtain ⟨g, off, rfl, hg, x0, x1, x2, x3, x4, x5, x6⟩ := (HR.out.below hnx).rec hx
      have HS := Lib.hid (lasD_step hx)
      have HKX := Lib.hid (key_of (HK.out x (List.mem_of_getElem? hx)))
      have HOW := Lib.hid hown
      have HNX := Lib.hid hnx
      have i0 : (0 : Int) ≤ (k : Int) := by omega
      have i1 : (k : Int) < (n : Int) := by omega
      obtain ⟨xk, xo, xt, xp, xs, xkey, xval⟩ := x
      simp only at HKX HS x0 x1 x2 x3 x4 x5 x6
      clear hx hown hnx
      go_wp2_with (at_mapUpdate; refine wpList_mapUpdate_own _ rfl _ _ _ 60 rfl 9 3 klaw Try.underlying60 _ w.heap.size k _ rfl (HOW.out.alloc (rcObj ⟨xk, xo, xt, xp, xs, xkey, xval⟩)) (by unfold maxLen; omega) _ _ _ rfl rfl HKX.out _ [] (plainElem_int Try.underlying3 (WalkArith.wf_i64 (by omega))) ?_)
      intro w1 hown1 hgrow1
      have R1 := Lib.hid (HS.out.symm ▸ hown1)
      have R2 := Lib.hid (((HNX.out.alloc HNX.out.size (rcObj ⟨xk, xo, xt, xp, xs, xkey, xval⟩))).grown hgrow1 (by simp; have := HNX.out.size; omega) (fun j hj => by cases hj; exact Nat.le_refl _))
      clear hown1 hgrow1
      go_wp2
      go_roundw
      case rel => exact ⟨k + 1, by omega, by go_num, R1.out, R2.out⟩
      case measure => simp [intOf]; omega
    · have hkn : k = n := by omega
      subst hkn
      have HOW := Lib.hid hown
      have HNX := Lib.hid hnx
      clear hown hnx
      go_wp2
      go_ret
      exact ⟨rfl, HOW.out, HNX.out⟩
end Go.Proofs.Ytjipebedibjoiaa

/- What a merge keeps of a list, and the mark: in plain words. -/
namespace Go.Proofs.Ytjipebedibjoiaa
open Go Go.RowKit
set_option linter.unusedVariables false
set_option linter.unusedSimpArgs false

open Classical in
noncomputable def cmpStep (l : List Rc) (now h : Int) (i : Nat) (x : Rc) (st : List Rc × Int) : List Rc × Int :=
  if Last l i x then (if x.k = 1 ∨ now < x.t + h then (st.1 ++ [x], st.2) else (st.1, max st.2 (x.o + 1))) else st
noncomputable def cmpF (l : List Rc) (now h : Int) : Nat → List Rc × Int
  | 0 => ([], 0)
  | n + 1 => match l[n]? with
    | some x => cmpStep l now h n x (cmpF l now h n)
    | none => cmpF l now h n
open Classical in
noncomputable def cmpW (l : List Rc) (now hor : Int) : List Rc × Int :=
  if now < 0 ∨ hor < 0 ∨ ∃ x ∈ l, chk x ≠ 0 then ([], 0) else cmpF l now (min hor 1099511627776) l.length
theorem cmpF_step {l : List Rc} {now h : Int} {n : Nat} {x : Rc} (hx : l[n]? = some x) : cmpF l now h (n + 1) = cmpStep l now h n x (cmpF l now h n) := by rw [cmpF, hx]
theorem cmp_skip {l : List Rc} {now h : Int} {n : Nat} {x : Rc} (hx : l[n]? = some x) (h1 : ¬ Last l n x) : cmpF l now h (n + 1) = cmpF l now h n := by rw [cmpF_step hx, cmpStep, if_neg h1]
theorem cmp_keep {l : List Rc} {now h : Int} {n : Nat} {x : Rc} (hx : l[n]? = some x) (h1 : Last l n x) (h2 : x.k = 1 ∨ now < x.t + h) : cmpF l now h (n + 1) = ((cmpF l now h n).1 ++ [x], (cmpF l now h n).2) := by rw [cmpF_step hx, cmpStep, if_pos h1, if_pos h2]
theorem cmp_drop {l : List Rc} {now h : Int} {n : Nat} {x : Rc} (hx : l[n]? = some x) (h1 : Last l n x) (h2 : ¬ (x.k = 1 ∨ now < x.t + h)) : cmpF l now h (n + 1) = ((cmpF l now h n).1, max (cmpF l now h n).2 (x.o + 1)) := by rw [cmpF_step hx, cmpStep, if_pos h1, if_neg h2]
theorem cmpF_len (l : List Rc) (now h : Int) : ∀ n, (cmpF l now h n).1.length ≤ n
  | 0 => Nat.le_refl _
  | n + 1 => by
    have ih := cmpF_len l now h n
    cases hx : l[n]? with
    | none => rw [cmpF, hx]; simp only; omega
    | some x =>
      by_cases h1 : Last l n x
      · by_cases h2 : x.k = 1 ∨ now < x.t + h
        · rw [cmp_keep hx h1 h2]; simp; omega
        · rw [cmp_drop hx h1 h2]; simp only; omega
      · rw [cmp_skip hx h1]; omega
theorem cmpF_mark (l : List Rc) (now h : Int) (hm : ∀ x ∈ l, May x) : ∀ n, 0 ≤ (cmpF l now h n).2 ∧ (cmpF l now h n).2 ≤ 1099511627776
  | 0 => by simp [cmpF]
  | n + 1 => by
    have ih := cmpF_mark l now h hm n
    cases hx : l[n]? with
    | none => rw [cmpF, hx]; exact ih
    | some x =>
      have hmx := (hm x (List.mem_of_getElem? hx)).o
      by_cases h1 : Last l n x
      · by_cases h2 : x.k = 1 ∨ now < x.t + h
        · rw [cmp_keep hx h1 h2]; exact ih
        · rw [cmp_drop hx h1 h2]; simp only; omega
      · rw [cmp_skip hx h1]; exact ih
theorem cmpW_no {l : List Rc} {now hor : Int} (h : now < 0 ∨ hor < 0 ∨ ∃ x ∈ l, chk x ≠ 0) : cmpW l now hor = ([], 0) := by unfold cmpW; rw [if_pos h]
theorem cmpW_yes {l : List Rc} {now hor : Int} (h1 : ¬ now < 0) (h2 : ¬ hor < 0) (h3 : ∀ x ∈ l, chk x = 0) : cmpW l now hor = cmpF l now (min hor 1099511627776) l.length := by
  unfold cmpW
  rw [if_neg]
  rintro (h | h | ⟨x, hx, h⟩)
  · exact h1 h
  · exact h2 h
  · exact h (h3 x hx)
theorem cmpW_len (l : List Rc) (now hor : Int) : (cmpW l now hor).1.length ≤ l.length := by
  unfold cmpW
  split
  · simp
  · exact cmpF_len _ _ _ _
end Go.Proofs.Ytjipebedibjoiaa

/- record.Compact. -/
namespace Go.Proofs.Ytjipebedibjoiaa
open Go Go.RowKit Go.Maps Go.WideMaps
set_option linter.unusedVariables false
set_option linter.unusedSimpArgs false

def CmpPost (w : World) (q : List Rc × Int) (e : Ending) (w' : World) : Prop :=
  ∃ A c, e = .returned (.tuple #[.slice A q.1.length c, .int .i64 q.2]) ∧ w'.ownsRow w.heap.size 31 7 (.slice A q.1.length c) q.1.length (rcCells q.1) ∧ Below w.heap.size w w'
theorem cmppost_mk {w W : World} {q : List Rc × Int} {acc : List Rc} {z : Int} {A : Option Addr} {c n : Nat} (hq : q = (acc, z)) (hn : n = acc.length) (ho : W.ownsRow w.heap.size 31 7 (.slice A n c) n (rcCells acc)) (hb : Below w.heap.size w W) : CmpPost w q (.returned (.tuple #[.slice A n c, .int .i64 z])) W := by
  subst hq hn
  exact ⟨A, c, rfl, ho, hb⟩
theorem cmppost_nil {w W : World} {q : List Rc × Int} (hq : q = ([], 0)) (hb : Below w.heap.size w W) : CmpPost w q (.returned (.tuple #[.slice none 0 0, .int .i64 0])) W :=
  cmppost_mk hq rfl (World.ownsRow_nil _ _ _ _) hb
theorem map_below {w w' : World} {k : TypeId} {R : Value → Option (DataW Unit × List MemPlace)} {b n : Nat} {D : DataW Unit} (h : w.ownsMap Try.prog k R b n D) (hb : Below w.heap.size w w') : w'.ownsMap Try.prog k R b n D :=
  h.kept (row := none) ⟨hb.os, hb.tape, hb.output, hb.size, fun j hj _ => hb.block j hj⟩ (by simp)
theorem lit_i64 {a b : Int} (h : (DataW.lit (H := Unit) (.int .i64 a)) = .lit (.int .i64 b)) : a = b := by
  injection h with h
  injection h
set_option maxHeartbeats 4000000 in
set_option maxRecDepth 100000 in
theorem compact_is (A : Option Addr) (n c : Nat) (l : List Rc) (now hor : Int) (w : World) (hr : Rd w A (rcCells l)) (hn : l.length = n) (hl : n ≤ 1099511627776) :
    Calls Try.prog 16 #[.slice A n c, .int .i64 now, .int .i64 hor] w (CmpPost w (cmpW l now hor)) := by
  have HR := Lib.hid hr
  have HN := Lib.hid hn
  obtain ⟨q, hq⟩ : ∃ q, q = cmpW l now hor := ⟨_, rfl⟩
  rw [← hq]
  have HQ := Lib.hid hq
  have PL := Lib.hid (fun W (hW : Below w.heap.size w W) (hk : ∀ x ∈ l, x.key.size ≤ maxLen) => lasts_is A n c l W (hr.below hW) hn hk hl)
  clear hr hn hq
  go_enter Try.func16, Try.ntmps16
  by_cases h1 : now < 0
  · have HE := Lib.hid (HQ.out.trans (cmpW_no (.inl h1)))
    clear PL
    go_wp2
    go_ret2
    exact cmppost_nil HE.out (Below.refl _ _)
  by_cases h2 : hor < 0
  · have HE := Lib.hid (HQ.out.trans (cmpW_no (.inr (.inl h2))))
    clear PL
    go_wp2
    go_ret2
    exact cmppost_nil HE.out (Below.refl _ _)
  have HY := Lib.hid (fun h3 => HQ.out.trans (cmpW_yes (l := l) (now := now) (hor := hor) h1 h2 h3))
  have HNO := Lib.hid (fun h3 => HQ.out.trans (cmpW_no (l := l) (now := now) (hor := hor) (.inr (.inr h3))))
  clear HQ
  obtain ⟨H, hH⟩ : ∃ H : Int, H = min hor 1099511627776 := ⟨_, rfl⟩
  rw [← hH] at HY
  have hH0 : 0 ≤ H := by rw [hH]; omega
  have hH1 : H ≤ 1099511627776 := by rw [hH]; omega
  have HHH := Lib.hid hH
  clear hH
  go_upto_region 3 with (fail)
  go_cut [2] from 15 to 22 (fun s2 wx => s2 = .int .i64 H ∧ wx = w)
  case first =>
    clear PL HY HNO
    by_cases h3 : hor ≤ 1099511627776
    · have hHe : Hid (H = hor) := Lib.hid (by rw [HHH.out]; omega)
      go_wp2_with fail
      go_meet
      case rel => exact ⟨by rw [hHe.out], rfl⟩
    · have hHe : Hid (H = 1099511627776) := Lib.hid (by rw [HHH.out]; omega)
      go_wp2_with fail
      go_meet
      case rel => exact ⟨by rw [hHe.out], rfl⟩
  case' rest => obtain ⟨rfl, hw3⟩ := hcut; have hw4 := hw3.symm; clear hw3; subst hw4
  go_wp2_with fail
  go_loopw [25] (fun i wr => ∃ k : Nat, k ≤ n ∧ i = .int .i64 k ∧ Below w.heap.size w wr ∧ Hid (∀ j x, j < k → l[j]? = some x → chk x = 0)) (fun i _ => n - (intOf i).toNat)
  case atStart => exact ⟨0, Nat.zero_le _, rfl, Below.refl _ _, Lib.hid (fun j x h => absurd h (Nat.not_lt_zero _))⟩
  case round =>
    obtain ⟨k, hk, rfl, hbe, HC⟩ := hrel
    by_cases hlt : k < n
    · obtain ⟨x, hx⟩ : ∃ x, l[k]? = some x := ⟨_, List.getElem?_eq_getElem (by rw [HN.out]; exact hlt)⟩
      obtain ⟨g, off, rfl, hg, x0, x1, x2, x3, x4, x5, x6⟩ := (HR.out.below hbe).rec hx
      have PC := Lib.hid (fun W => check_is x W)
      have HB := Lib.hid hbe
      have HX := Lib.hid hx
      obtain ⟨z, hz⟩ : ∃ z, z = chk x := ⟨_, rfl⟩
      rw [← hz] at PC
      have HZ := Lib.hid hz
      have i0 : (0 : Int) ≤ (k : Int) := by omega
      have i1 : (k : Int) < (n : Int) := by omega
      have HX2 := Lib.hid (fun (h : z ≠ 0) => (⟨x, List.mem_of_getElem? hx, by rw [← hz]; exact h⟩ : ∃ x ∈ l, chk x ≠ 0))
      have HC2 := Lib.hid (fun (h : z = 0) j y (hj : j < k + 1) (hy : l[j]? = some y) => (show chk y = 0 from by
        by_cases hjk : j = k
        · subst hjk; rw [hx] at hy; injection hy with hy; subst hy; rw [← hz]; exact h
        · exact HC.out j y (by omega) hy))
      obtain ⟨xk, xo, xt, xp, xs, xkey, xval⟩ := x
      unfold Rc.v at PC
      simp only at PC x0 x1 x2 x3 x4 x5 x6
      clear hx hz hbe PL HC HX HZ
      by_cases hz0 : z = 0
      · have HC3 := Lib.hid (HC2.out hz0)
        clear HC2 HX2
        subst hz0
        go_wp2_with fail
        refine (PC.out _).mono ?_
        rintro e w1 ⟨rfl, hb1⟩
        have HB1 := Lib.hid ((HB.out.alloc HB.out.size (rcObj ⟨xk, xo, xt, xp, xs, xkey, xval⟩)).trans (hb1.mono (by simp; have := HB.out.size; omega)))
        clear hb1
        go_wp2_with fail
        go_roundw
        case rel => exact ⟨k + 1, by omega, by go_num, HB1.out, HC3⟩
        case measure => simp [intOf]; omega
      · have HE := Lib.hid (HNO.out (HX2.out hz0))
        clear HC2 HX2
        have hz' : ((z : Int) != 0) = true := by rw [bne_iff_ne]; omega
        go_wp2_with fail
        refine (PC.out _).mono ?_
        rintro e w1 ⟨rfl, hb1⟩
        have HB1 := Lib.hid ((HB.out.alloc HB.out.size (rcObj ⟨xk, xo, xt, xp, xs, xkey, xval⟩)).trans (hb1.mono (by simp; have := HB.out.size; omega)))
        clear hb1
        go_wp2_with fail
        go_ret2
        exact cmppost_nil HE.out HB1.out
    · have hkn : k = n := by omega
      subst hkn
      have hck : ∀ x ∈ l, chk x = 0 := fun x hx => by
        obtain ⟨j, hj, rfl⟩ := List.getElem_of_mem hx
        exact HC.out j _ (by rw [← HN.out]; exact hj) (List.getElem?_eq_getElem hj)
      have HE := HY.out hck
      have hmay : ∀ x ∈ l, May x := fun x hx => chk_may (hck x hx)
      have PL1 := Lib.hid (PL.out _ hbe (fun x hx => by have := (hmay x hx).key; unfold maxLen; omega))
      have HB := Lib.hid hbe
      have HMY := Lib.hid hmay
      have HEE := Lib.hid HE
      have HFL := Lib.hid (cmpF_len l now H)
      have HFM := Lib.hid (cmpF_mark l now H hmay)
      clear hck hmay hbe PL HE HC HNO HY
      go_wp2_with fail
      refine PL1.out.mono ?_
      rintro e w1 ⟨rfl, hm1, hb1⟩
      have HM1 := Lib.hid hm1
      have HB1 := Lib.hid (HB.out.trans (hb1.mono HB.out.size))
      obtain ⟨B, hB⟩ : ∃ B, B = wr.heap.size := ⟨_, rfl⟩
      rw [← hB] at HM1 ⊢
      clear hm1 hb1 hB HB PL1
      go_wp2_with fail
      go_loopw [11, 12, 37] (fun o mk i wr => ∃ j : Nat, j ≤ k ∧ i = .int .i64 j ∧ mk = .int .i64 (cmpF l now H j).2 ∧ wr.ownsRow w1.heap.size 31 7 o (cmpF l now H j).1.length (rcCells (cmpF l now H j).1) ∧ Below w1.heap.size w1 wr) (fun _ _ i _ => k - (intOf i).toNat)
      case atStart => exact ⟨0, Nat.zero_le _, rfl, rfl, World.ownsRow_nil _ _ _ _, Below.refl _ _⟩
      case round =>
        obtain ⟨j, hj, rfl, rfl, hown, hbe⟩ := hrel
        have hfl := HFL.out j
        have hfm := HFM.out j
        by_cases hlt : j < k
        · obtain ⟨x, hx⟩ : ∃ x, l[j]? = some x := ⟨_, List.getElem?_eq_getElem (by rw [HN.out]; exact hlt)⟩
          obtain ⟨g, off, rfl, hg, x0, x1, x2, x3, x4, x5, x6⟩ := (HR.out.below (HB1.out.trans (hbe.mono HB1.out.size))).rec hx
          have hmx := HMY.out x (List.mem_of_getElem? hx)
          obtain ⟨v, hv1, hv2⟩ := lasD_last hx
          rw [HN.out] at hv1
          have HV := Lib.hid hv1
          have HKX := Lib.hid (key_of (s := x.key) (by have := hmx.key; unfold maxLen; omega))
          have HSK := Lib.hid (fun h => cmp_skip (now := now) (h := H) hx h)
          have HKP := Lib.hid (fun h h' => cmp_keep (now := now) (h := H) hx h h')
          have HDR := Lib.hid (fun h h' => cmp_drop (now := now) (h := H) hx h h')
          obtain ⟨⟨acc, z⟩, hq⟩ : ∃ q, q = cmpF l now H j := ⟨_, rfl⟩
          rw [← hq] at hown hfl hfm HSK HKP HDR ⊢
          simp only at hown hfl hfm HSK HKP HDR ⊢
          obtain ⟨N, hN⟩ : ∃ N, N = acc.length := ⟨_, rfl⟩
          rw [← hN] at hown hfl
          obtain ⟨A5, c5, hv5, hc5a, hc5b, hA5⟩ := own_shape hown
          subst hv5
          have HNN := Lib.hid hN
          have HO := Lib.hid hown
          have HBE := Lib.hid hbe
          have HMR := Lib.hid (map_below HM1.out hbe)
          have hw1 : IntKind.i64.wrap (x.o + 1) = x.o + 1 := by have := hmx.o; rw [IntKind.wrap_i64]; omega
          have hw2 : IntKind.i64.wrap (x.t + H) = x.t + H := by have := hmx.t; rw [IntKind.wrap_i64]; omega
          have hbs := hbe.size
          have i0 : (0 : Int) ≤ (j : Int) := by omega
          have i1 : (j : Int) < (k : Int) := by omega
          have HX := Lib.hid hx
          have HV2 := Lib.hid hv2
          obtain ⟨xk, xo, xt, xp, xs, xkey, xval⟩ := x
          simp only at x0 x1 x2 x3 x4 x5 x6 hw1 hw2 HV HKX HSK HKP HDR
          clear hx hmx hv1 hv2 hq hN hown hbe hA5
          by_cases hla : Last l j ⟨xk, xo, xt, xp, xs, xkey, xval⟩
          rotate_left
          · have hne : v ≠ j := fun h => hla (HV2.out.1 h)
            have hb : ((v : Int) != (j : Int)) = true := by rw [bne_iff_ne]; omega
            have HST := Lib.hid (HSK.out hla)
            clear HSK HKP HDR hne HV2 hla
            go_wp2_with (at_lookup; refine wpList_lookup_own_int _ rfl _ _ 60 rfl 9 3 .i64 klaw Try.underlying60 Try.underlying3 (kzero _) B k _ rfl (HMR.out.alloc (rcObj ⟨xk, xo, xt, xp, xs, xkey, xval⟩)) _ _ rfl HKX.out ?_; intro cc hat hwc; obtain rfl := lit_i64 (hat.symm.trans HV.out); clear hat hwc)
            go_wp2_with fail
            go_roundw
            case rel => exact ⟨j + 1, by omega, by go_num, by rw [HST.out], by rw [HST.out, ← HNN.out]; exact HO.out.alloc _, HBE.out.alloc HBE.out.size _⟩
            case measure => simp [intOf]; omega
          have hvj : v = j := HV2.out.2 hla
          subst hvj
          have hb : ((v : Int) != (v : Int)) = false := by simp
          by_cases hy : xk = 1 ∨ now < xt + H
          · have HST := Lib.hid (HKP.out hla hy)
            clear HSK HKP HDR HV2 hla
            by_cases hk1 : xk = 1
            · have hkb : (xk == 1) = true := by rw [beq_iff_eq]; exact hk1
              clear hk1 hy
              go_wp2_with (first | (at_lookup; refine wpList_lookup_own_int _ rfl _ _ 60 rfl 9 3 .i64 klaw Try.underlying60 Try.underlying3 (kzero _) B k _ rfl (HMR.out.alloc (rcObj ⟨xk, xo, xt, xp, xs, xkey, xval⟩)) _ _ rfl HKX.out ?_; intro cc hat hwc; obtain rfl := lit_i64 (hat.symm.trans HV.out); clear hat hwc) | (at_builtin; (refine pushR _ rfl (.tmp 66) (.tmp 68) rfl w1.heap.size _ N (rcCells acc) rfl (HO.out.alloc (rcObj ⟨xk, xo, xt, xp, xs, xkey, xval⟩)) ⟨xk, xo, xt, xp, xs, xkey, xval⟩ _ (by simp) rfl (by omega) (by simp; omega) ?_); intro v2 w2 hown2 hg2 hn2; have HO2 := Lib.hid hown2; have HB2 := Lib.hid ((HBE.out.alloc HBE.out.size (rcObj ⟨xk, xo, xt, xp, xs, xkey, xval⟩)).trans (below_of_grown hg2 (by simp; omega) (fun q hq => (HO.out.lt q hq).1))); clear hown2 hg2 hn2))
              go_wp2_with fail
              go_roundw
              case rel => exact ⟨v + 1, by omega, by go_num, by rw [HST.out], by rw [HST.out, rcCells_append, List.length_append, ← HNN.out]; simpa [rcCells] using HO2.out, HB2.out⟩
              case measure => simp [intOf]; omega
            · have hkb : (xk == 1) = false := by rw [beq_eq_false_iff_ne]; exact hk1
              have hyy : now < xt + H := hy.resolve_left hk1
              clear hk1 hy
              go_wp2_with (first | (at_lookup; refine wpList_lookup_own_int _ rfl _ _ 60 rfl 9 3 .i64 klaw Try.underlying60 Try.underlying3 (kzero _) B k _ rfl (HMR.out.alloc (rcObj ⟨xk, xo, xt, xp, xs, xkey, xval⟩)) _ _ rfl HKX.out ?_; intro cc hat hwc; obtain rfl := lit_i64 (hat.symm.trans HV.out); clear hat hwc) | (at_builtin; (refine pushR _ rfl (.tmp 66) (.tmp 68) rfl w1.heap.size _ N (rcCells acc) rfl (HO.out.alloc (rcObj ⟨xk, xo, xt, xp, xs, xkey, xval⟩)) ⟨xk, xo, xt, xp, xs, xkey, xval⟩ _ (by simp) rfl (by omega) (by simp; omega) ?_); intro v2 w2 hown2 hg2 hn2; have HO2 := Lib.hid hown2; have HB2 := Lib.hid ((HBE.out.alloc HBE.out.size (rcObj ⟨xk, xo, xt, xp, xs, xkey, xval⟩)).trans (below_of_grown hg2 (by simp; omega) (fun q hq => (HO.out.lt q hq).1))); clear hown2 hg2 hn2))
              go_wp2_with fail
              go_roundw
              case rel => exact ⟨v + 1, by omega, by go_num, by rw [HST.out], by rw [HST.out, rcCells_append, List.length_append, ← HNN.out]; simpa [rcCells] using HO2.out, HB2.out⟩
              case measure => simp [intOf]; omega
          · have HST := Lib.hid (HDR.out hla hy)
            have hkb : (xk == 1) = false := by rw [beq_eq_false_iff_ne]; exact fun h => hy (.inl h)
            have hyy : ¬ now < xt + H := fun h => hy (.inr h)
            clear HSK HKP HDR HV2 hla hy
            by_cases hmm : z ≤ xo + 1
            · have hmx : Hid (max z (xo + 1) = xo + 1) := Lib.hid (by omega)
              go_wp2_with (at_lookup; refine wpList_lookup_own_int _ rfl _ _ 60 rfl 9 3 .i64 klaw Try.underlying60 Try.underlying3 (kzero _) B k _ rfl (HMR.out.alloc (rcObj ⟨xk, xo, xt, xp, xs, xkey, xval⟩)) _ _ rfl HKX.out ?_; intro cc hat hwc; obtain rfl := lit_i64 (hat.symm.trans HV.out); clear hat hwc)
              go_wp2_with fail
              go_roundw
              case rel => exact ⟨v + 1, by omega, by go_num, by rw [HST.out]; simp only; rw [hmx.out]; congr 1; split <;> omega, by rw [HST.out]; simp only; rw [← HNN.out]; exact HO.out.alloc _, HBE.out.alloc HBE.out.size _⟩
              case measure => simp [intOf]; omega
            · have hmx : Hid (max z (xo + 1) = z) := Lib.hid (by omega)
              go_wp2_with (at_lookup; refine wpList_lookup_own_int _ rfl _ _ 60 rfl 9 3 .i64 klaw Try.underlying60 Try.underlying3 (kzero _) B k _ rfl (HMR.out.alloc (rcObj ⟨xk, xo, xt, xp, xs, xkey, xval⟩)) _ _ rfl HKX.out ?_; intro cc hat hwc; obtain rfl := lit_i64 (hat.symm.trans HV.out); clear hat hwc)
              go_wp2_with fail
              go_roundw
              case rel => exact ⟨v + 1, by omega, by go_num, by rw [HST.out]; simp only; rw [hmx.out]; congr 1; split <;> omega, by rw [HST.out]; simp only; rw [← HNN.out]; exact HO.out.alloc _, HBE.out.alloc HBE.out.size _⟩
              case measure => simp [intOf]; omega
        · have hjk : j = k := by omega
          subst hjk
          obtain ⟨A5, c5, hv5, hc5a, hc5b, hA5⟩ := own_shape hown
          subst hv5
          have HO := Lib.hid (own_lower hown HB1.out.size)
          have HBE := Lib.hid (HB1.out.trans (hbe.mono HB1.out.size))
          have HEND := Lib.hid (HEE.out.trans (by rw [HN.out]))
          clear hown hbe hfl hfm hA5
          go_wp2_with fail
          go_ret2
          exact cmppost_mk (HEND.out) rfl HO.out HBE.out
end Go.Proofs.Ytjipebedibjoiaa
