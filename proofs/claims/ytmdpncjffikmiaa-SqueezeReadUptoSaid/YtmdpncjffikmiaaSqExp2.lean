/- The text behind a token. -/
import Derived.Test.YtmdpncjffikmiaaSqExp
namespace Go.Proofs.Ytmdpncjffikmiaa
open Go Go.RowKit
set_option linter.unusedVariables false
set_option linter.unusedSimpArgs false

/-- A token in its block. -/
def Bt (W : World) (g : Nat) (x : TkV) : Prop := W.heap[g]? = some (.cells #[.slice x.A x.lit.length x.c, .int .i64 x.d, .int .i64 x.l] 37 (0, 0))
theorem Bt.facts {W : World} {g : Nat} {x : TkV} (h : Bt W g x) : W.cell? ⟨g, 0, none⟩ = some (.slice x.A x.lit.length x.c) ∧ W.cell? ⟨g, 1, none⟩ = some (.int .i64 x.d) ∧ W.cell? ⟨g, 2, none⟩ = some (.int .i64 x.l) :=
  ⟨cell_of_row W g 0 _ _ _ h, cell_of_row W g 1 _ _ _ h, cell_of_row W g 2 _ _ _ h⟩
theorem Bt.new (w : World) (x : TkV) : Bt (w.alloc (.cells #[.slice x.A x.lit.length x.c, .int .i64 x.d, .int .i64 x.l] 37)) w.heap.size x := heap_alloc_new w _
theorem Bt.below {W W' : World} {g B : Nat} {x : TkV} (h : Bt W g x) (hb : Below B W W') (hg : g < B) : Bt W' g x := (hb.block g hg).trans h
theorem Bt.lt {W : World} {g : Nat} {x : TkV} (h : Bt W g x) : g < W.heap.size := lt_of_block h
theorem Bt.grown {W W' : World} {g : Nat} {x : TkV} {r : Option Nat} (h : Bt W g x) (hg : W.grownBy W' r) (hr : r ≠ some g) : Bt W' g x := (hg.block g h.lt (fun e => hr e.symm)).trans h
theorem Bt.alloc {W : World} {g : Nat} {x : TkV} (h : Bt W g x) (o : Obj) : Bt (W.alloc o) g x := h.below ((Below.refl W.heap.size W).alloc (Nat.le_refl _) o) h.lt

theorem own_ne_next {v v' : Value} {g : Nat} {n : Nat} (h : v.ownBlock ≠ some g) (hn : v'.ownBlock = v.ownBlock ∨ ∃ k, v'.ownBlock = some k ∧ n ≤ k) (hg : g < n := by simp) : v'.ownBlock ≠ some g := by
  rcases hn with e | ⟨k, e, hk⟩
  · rw [e]; exact h
  · rw [e]; intro e2; injection e2 with e2; omega

/-- A row of bytes of the call's own, with what is needed of it. -/
def AddPost (base : Nat) (W : World) (xs : List Nat) (e : Ending) (W' : World) : Prop :=
  ∃ v, e = .returned v ∧ W'.ownsRow base 5 1 v xs.length (b8 xs) ∧ Below base W W'

theorem b8_get1 {l : List Nat} {k : Nat} (h : k < l.length) : (b8 l)[k]? = some (.int .u8 (l.getD k 0 : Nat)) := by
  rw [b8_get, List.getD_eq_getElem?_getD, List.getElem?_eq_getElem h]
  rfl

set_option maxHeartbeats 800000 in
set_option maxRecDepth 100000 in
theorem added_is (base : Nat) (v : Value) (xs : List Nat) (x : TkV) (w0 W : World) (hb0 : w0.heap.size ≤ base) (hb : Below base w0 W) (hbs : base ≤ W.heap.size) (hx : x.Ok w0) (hown : W.ownsRow base 5 1 v xs.length (b8 xs))
    (hr : rt x.tk xs.length = true) (hl : xs.length + x.lit.length + x.l.toNat ≤ 4096) :
    Calls Try.prog 48 #[v, x.val] W (AddPost base W (addTk xs x.tk)) := by
  have HX := Lib.hid (hx.rd.below (hb.mono hb0))
  have hrc := rt_cases hr
  have hHR : x.l = 0 ∨ (1 ≤ x.d ∧ x.d ≤ xs.length) := by
    rcases hrc with h | h
    · exact .inl h.2.2
    · exact .inr ⟨h.2.2.2.1, h.2.2.2.2.2⟩
  have hL : 0 ≤ x.l ∧ x.l ≤ 258 := by
    rcases hrc with h | h
    · have h2 : x.l = 0 := h.2.2
      omega
    · have h2 : 5 ≤ x.l := h.2.1
      exact ⟨by omega, h.2.2.1⟩
  have hcap := hx.cap
  have hd64 := hx.d64
  have hpost : AddPost base W (addTk xs x.tk) = AddPost base W (copyN (xs ++ x.lit) x.d.toNat x.l.toNat) := rfl
  rw [hpost]
  clear hpost hx hr hb hrc
  unfold TkV.val
  obtain ⟨A, c, lit, d, l⟩ := x
  simp only at HX hHR hL hl hcap hd64 ⊢
  have HR := Lib.hid hHR
  have HO := Lib.hid (hown.alloc (.cells #[.slice A lit.length c, .int .i64 d, .int .i64 l] 37))
  have HXR := Lib.hid (HX.out.below ((Below.refl W.heap.size W).alloc (Nat.le_refl _) (.cells #[.slice A lit.length c, .int .i64 d, .int .i64 l] 37)))
  have HBT := Lib.hid (Bt.new W ⟨A, c, lit, d, l⟩)
  have HLT := Lib.hid (fun q (hq : v.ownBlock = some q) => (hown.lt q hq))
  have HNE := Lib.hid (show v.ownBlock ≠ some W.heap.size by intro e; have := (hown.lt _ e).2; omega)
  obtain ⟨b0, b1, b2⟩ := HBT.out.facts
  simp only at b0 b1 b2
  clear hown hHR
  go_enter Try.func48, Try.ntmps48
  go_wp2_with (at_builtin; (refine app8 _ rfl (.tmp 5) (.tmp 7) rfl base v _ xs rfl HO.out A lit.length c lit rfl rfl HXR.out (by omega) (by simp; omega) ?_); intro v1 w1 hown1 hg1 hn1; have HO1 := Lib.hid hown1; have HT1 := Lib.hid (HBT.out.grown hg1 HNE.out); have HB1 := Lib.hid (((Below.refl base W).alloc hbs (.cells #[.slice A lit.length c, .int .i64 d, .int .i64 l] 37)).trans (below_of_grown hg1 (by simp; omega) (fun k hk => (HLT.out k hk).1))); have HN1 := Lib.hid (own_ne_next HNE.out hn1); obtain ⟨p0, p1, p2⟩ := HT1.out.facts; clear hown1 hg1 hn1)
  clear b0 b1 b2 HX HXR HO HBT HLT HNE
  go_loopw [0, 11] (fun v i wr => ∃ (k N : Nat) (vi : Value), (k : Int) ≤ l ∧ N = xs.length + lit.length + k ∧ i = .int .i64 k ∧ v = vi ∧ Hid (wr.ownsRow base 5 1 vi N (b8 (copyN (xs ++ lit) d.toNat k))) ∧ Hid (Bt wr W.heap.size ⟨A, c, lit, d, l⟩) ∧ Hid (vi.ownBlock ≠ some W.heap.size) ∧ Hid (Below base W wr)) (fun _ i _ => (l - intOf i).toNat)
  case atStart => exact ⟨0, _, _, by omega, rfl, rfl, rfl, HO1, HT1, HN1, HB1⟩
  case round =>
    obtain ⟨k, N, vi, hk, hN, rfl, rfl, HO, HT, HN, HB⟩ := hrel
    obtain ⟨b0, b1, b2⟩ := HT.out.facts
    simp only at b0 b1 b2
    have hszr := HB.out.size
    have hgt := HT.out.lt
    by_cases hlt : (k : Int) < l
    · have hd : 1 ≤ d ∧ d ≤ xs.length := by
        rcases HR.out with h | h
        · omega
        · exact h
      obtain ⟨A9, c9, rfl, hsh⟩ := own_shape HO.out
      obtain ⟨g, rfl, hg1, hg2, _, _⟩ := own_pos HO.out (by omega)
      have hTl : (copyN (xs ++ lit) d.toNat k).length = N := by rw [copyN_length, List.length_append, hN]
      obtain ⟨T, hT⟩ : ∃ T, T = copyN (xs ++ lit) d.toNat k := ⟨_, rfl⟩
      have HNX : Hid (copyN (xs ++ lit) d.toNat (k + 1) = T ++ [T.getD (N - d.toNat) 0]) := Lib.hid (by rw [hT]; simp only [copyN, addOne, hTl])
      rw [← hT] at HO hTl
      obtain ⟨z, hz⟩ : ∃ z, z = T.getD (N - d.toNat) 0 := ⟨_, rfl⟩
      rw [← hz] at HNX
      have hcell : wr.cell? ⟨g, ((N : Int) - d).toNat, none⟩ = some (.int .u8 (z : Int)) := by
        have h := (HO.out.cellAt (N - d.toNat) (by omega)).trans (b8_get1 (by omega))
        rw [show ((N : Int) - d).toNat = N - d.toNat by omega, h, hz]
      have i0 : (0 : Int) ≤ (N : Int) - d := by omega
      have i1 : (N : Int) - d < (N : Int) := by omega
      have i2 : N ≤ 4096 := by omega
      have HNk : Hid (N + 1 = xs.length + lit.length + (k + 1)) := Lib.hid (by omega)
      have hgne : g ≠ W.heap.size := fun e => HN.out (by rw [e]; rfl)
      clear hT hz hTl hsh hN
      go_wp2_with (at_builtin; go_loud ((refine push8 wr (by rfl) (.tmp 13) (.tmp 22) (by rfl) base (.slice (some ⟨g, 0, none⟩) N c9) N T (by rfl) HO.out _ z rfl (by rfl) (by omega) (by omega) ?_); intro v2 w2 hown2 hg2 hn2; have HO2 := Lib.hid hown2; have HB2 := Lib.hid (HB.out.trans (below_of_grown hg2 (by omega) (fun k hk => (HO.out.lt k hk).1))); have HT2 := Lib.hid (HT.out.grown hg2 HN.out); have HN2 := Lib.hid (own_ne_next HN.out hn2 hgt); clear hown2 hg2 hn2))
      go_roundw
      case rel => exact ⟨k + 1, N + 1, _, by omega, HNk.out, by go_num, rfl, Lib.hid (by rw [HNX.out]; exact HO2.out), HT2, HN2, HB2⟩
      case measure => simp [intOf]; omega
    · have hkl : k = l.toNat := by omega
      obtain ⟨A9, c9, rfl, hsh⟩ := own_shape HO.out
      have HF := HO.out
      rw [hkl] at HF
      have hTl : (copyN (xs ++ lit) d.toNat l.toNat).length = N := by rw [copyN_length, List.length_append, hN]; omega
      rw [← hTl] at HF
      have HG := Lib.hid HF
      clear HF hsh hN
      subst hTl
      go_wp2_with fail
      go_ret
      exact ⟨_, rfl, HG.out, HB.out⟩
end Go.Proofs.Ytmdpncjffikmiaa
